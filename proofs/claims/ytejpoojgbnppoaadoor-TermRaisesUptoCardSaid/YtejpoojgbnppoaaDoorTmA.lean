import Derived.Test.YtejpoojgbnppoaaDoorPrA
import Derived.Test.YtejpoojgbnppoaaDoorVcZ
namespace Go.Proofs.YtejpoojgbnppoaaDoor
open Vc Go
set_option linter.unusedVariables false
set_option linter.unusedSimpArgs false

/-- A term. -/
inductive T where
  | mk (k id : Int) (s : ByteArray) (xs : List T) (ps : List PW)
namespace T
def k : T → Int | .mk k _ _ _ _ => k
def id : T → Int | .mk _ i _ _ _ => i
def s : T → ByteArray | .mk _ _ s _ _ => s
def xs : T → List T | .mk _ _ _ xs _ => xs
def ps : T → List PW | .mk _ _ _ _ ps => ps
def word (s : ByteArray) : T := .mk 2 0 s [] []
def atom (i : Int) : T := .mk 1 i .empty [] []
/-- A product of atoms, each once. -/
def prod (l : List PW) : List PW := prodL (fun j => l.getD j (0, 0)) l.length
/-- A term told normally, raised. -/
def pow (t : T) (l : List PW) : T :=
  if t.k = 4 then (if prod (t.ps ++ l) = [] then t.xs.headD (word .empty) else .mk 4 0 .empty [t.xs.headD (word .empty)] (prod (t.ps ++ l)))
  else (if prod l = [] then t else .mk 4 0 .empty [t] (prod l))
mutual
/-- A term told normally, at a depth. -/
def nrm (d : Nat) : T → T
  | .mk k i s xs ps => if 40 < d then word .empty else if k = 1 then atom i else if k = 2 then word s else if k = 3 then .mk 3 0 s (nrmL (d + 1) xs) []
    else if k = 4 then (match nrmL (d + 1) xs with | [a] => pow a ps | _ => word .empty) else word .empty
def nrmL (d : Nat) : List T → List T
  | [] => []
  | a :: l => nrm d a :: nrmL d l
end
theorem nrmL_map (d : Nat) : ∀ l, nrmL d l = l.map (nrm d)
  | [] => rfl
  | a :: l => by simp only [nrmL, List.map, nrmL_map d l]
mutual
/-- A bound for a term's text, and for all that it's made of. -/
def wt : T → Nat
  | .mk _ _ s xs ps => 300 + 2 * s.size + 60 * ps.length + wtL xs
def wtL : List T → Nat
  | [] => 0
  | a :: l => wt a + 1 + wtL l
end
mutual
def ht : T → Nat
  | .mk _ _ _ xs _ => htL xs + 1
def htL : List T → Nat
  | [] => 0
  | a :: l => max (ht a) (htL l)
end
mutual
/-- Numbers xs they are kept in Go. -/
def okn : T → Prop
  | .mk k i _ xs ps => (IntKind.i64.min ≤ k ∧ k ≤ IntKind.i64.max) ∧ (0 ≤ i ∧ i ≤ 4294967295) ∧ (∀ p ∈ ps, (0 ≤ p.1 ∧ p.1 ≤ 4294967295) ∧ IntKind.i64.min ≤ p.2 ∧ p.2 ≤ IntKind.i64.max) ∧ oknL xs
def oknL : List T → Prop
  | [] => True
  | a :: l => okn a ∧ oknL l
end
theorem oknL_iff : ∀ l, oknL l ↔ ∀ t ∈ l, okn t
  | [] => by simp [oknL]
  | a :: l => by simp [oknL, oknL_iff l]
theorem htL_le : ∀ {l : List T} {t : T}, t ∈ l → ht t ≤ htL l
  | a :: l, t, h => by
    simp only [htL]
    rcases List.mem_cons.1 h with rfl | h
    · omega
    · have := htL_le h; omega
theorem wtL_le : ∀ {l : List T} {t : T}, t ∈ l → wt t < wtL l
  | a :: l, t, h => by
    simp only [wtL]
    rcases List.mem_cons.1 h with rfl | h
    · omega
    · have := wtL_le h; omega
end T
/-- Where a term lies. -/
structure L where
  k : Int
  id : Int
  s : ByteArray
  aa : Option Addr
  n : Nat
  ac : Nat
  AB : Nat
  AO : Nat
  kd : Fin n → L
  pa : Option Addr
  m : Nat
  pc : Nat
  PB : Nat
  PO : Nat
  pw : Nat → PW
namespace L
def row (y : L) : List Value := [.int .i64 y.k, .int .u32 y.id, .string y.s, .slice y.aa y.n y.ac, .slice y.pa y.m y.pc]
def v (y : L) : Value := .agg #[.int .i64 y.k, .int .u32 y.id, .string y.s, .slice y.aa y.n y.ac, .slice y.pa y.m y.pc]
def pl (y : L) : List PW := (List.range y.m).map y.pw
def kid (y : L) (j : Nat) : L := if h : j < y.n then y.kd ⟨j, h⟩ else y
theorem kid_pos {y : L} {j : Nat} (h : j < y.n) : y.kid j = y.kd ⟨j, h⟩ := dif_pos h
noncomputable def t (y : L) : T := L.rec (motive := fun _ => T) (fun k id s _ n _ _ _ _ _ m _ _ _ pw ih => .mk k id s (List.ofFn ih) ((List.range m).map pw)) y
theorem t_eq (y : L) : y.t = .mk y.k y.id y.s ((List.range y.n).map fun j => (y.kid j).t) y.pl := by
  have : (List.ofFn fun j => (y.kd j).t) = (List.range y.n).map fun j => (y.kid j).t := by
    apply List.ext_getElem (by simp)
    intro i h1 h2
    simp only [List.length_ofFn] at h1
    simp [kid_pos h1]
  rw [← this]
  cases y; rfl
/-- A term lies where nobody writes. -/
def ok0 (R : RO) (y : L) : Prop := L.rec (motive := fun _ => Prop) (fun _ _ _ aa n ac AB AO kd pa m pc PB PO pw ih =>
  (n ≤ ac ∧ ac ≤ maxLen ∧ m ≤ pc ∧ pc ≤ maxLen) ∧ (∀ j : Fin n, aa = some ⟨AB, AO, none⟩ ∧ R.cells AB (AO + j * 5) (kd j).row ∧ ih j) ∧
  ∀ j, j < m → pa = some ⟨PB, PO, none⟩ ∧ R.cells PB (PO + j * 2) [.int .u32 (pw j).1, .int .i64 (pw j).2]) y
def ok (y : L) (R : RO) : Prop := y.ok0 R
theorem ok_eq (R : RO) (y : L) : y.ok R = ((y.n ≤ y.ac ∧ y.ac ≤ maxLen ∧ y.m ≤ y.pc ∧ y.pc ≤ maxLen) ∧ (∀ j, j < y.n → y.aa = some ⟨y.AB, y.AO, none⟩ ∧ R.cells y.AB (y.AO + j * 5) (y.kid j).row ∧ (y.kid j).ok R) ∧
  ∀ j, j < y.m → y.pa = some ⟨y.PB, y.PO, none⟩ ∧ R.cells y.PB (y.PO + j * 2) [.int .u32 (y.pw j).1, .int .i64 (y.pw j).2]) := by
  have h0 : y.ok R = ((y.n ≤ y.ac ∧ y.ac ≤ maxLen ∧ y.m ≤ y.pc ∧ y.pc ≤ maxLen) ∧ (∀ j : Fin y.n, y.aa = some ⟨y.AB, y.AO, none⟩ ∧ R.cells y.AB (y.AO + j * 5) (y.kd j).row ∧ (y.kd j).ok R) ∧
    ∀ j, j < y.m → y.pa = some ⟨y.PB, y.PO, none⟩ ∧ R.cells y.PB (y.PO + j * 2) [.int .u32 (y.pw j).1, .int .i64 (y.pw j).2]) := by cases y; rfl
  rw [h0]
  refine propext ⟨fun h => ⟨h.1, fun j hj => by rw [kid_pos hj]; exact h.2.1 ⟨j, hj⟩, h.2.2⟩, fun h => ⟨h.1, fun j => ?_, h.2.2⟩⟩
  have := h.2.1 j j.2
  rw [kid_pos j.2] at this
  exact this
theorem ok_mono {R S : RO} (h : R.le S) (y : L) : y.ok R → y.ok S := by
  induction y with
  | mk k id s aa n ac AB AO kd pa m pc PB PO pw ih =>
    rw [ok_eq, ok_eq]
    rintro ⟨h1, h2, h3⟩
    exact ⟨h1, fun j hj => ⟨(h2 j hj).1, RO.cells_mono h (h2 j hj).2.1, by rw [kid_pos hj]; exact ih ⟨j, hj⟩ (by have := (h2 j hj).2.2; rw [kid_pos hj] at this; exact this)⟩, fun j hj => ⟨(h3 j hj).1, RO.cells_mono h (h3 j hj).2⟩⟩
theorem ok.len {R : RO} {y : L} (h : y.ok R) : y.n ≤ y.ac ∧ y.ac ≤ maxLen ∧ y.m ≤ y.pc ∧ y.pc ≤ maxLen := by rw [ok_eq] at h; exact h.1
theorem ok.arg {R : RO} {y : L} (h : y.ok R) {j : Nat} (hj : j < y.n) : y.aa = some ⟨y.AB, y.AO, none⟩ ∧ R.cells y.AB (y.AO + j * 5) (y.kid j).row := by rw [ok_eq] at h; exact ⟨(h.2.1 j hj).1, (h.2.1 j hj).2.1⟩
theorem ok.kid {R : RO} {y : L} (h : y.ok R) {j : Nat} (hj : j < y.n) : (y.kid j).ok R := by rw [ok_eq] at h; exact (h.2.1 j hj).2.2
theorem ok.pow {R : RO} {y : L} (h : y.ok R) : ∀ j, j < y.m → y.pa = some ⟨y.PB, y.PO, none⟩ ∧ R.cells y.PB (y.PO + j * 2) [.int .u32 (y.pw j).1, .int .i64 (y.pw j).2] := by rw [ok_eq] at h; exact h.2.2
theorem cells_det {R : RO} {a o : Nat} {l m : List Value} (h : R.cells a o l) (h' : R.cells a o m) (hl : l.length = m.length) : l = m := by
  obtain ⟨c, t, fr, h1, h2⟩ := h
  obtain ⟨c', t', fr', h1', h2'⟩ := h'
  rw [h1] at h1'; cases h1'
  rw [hl] at h2
  exact h2.symm.trans h2'
/-- What lies there is told by its head. -/
theorem det {R : RO} (y : L) : ∀ z : L, y.ok R → z.ok R → y.row = z.row → y.t = z.t := by
  induction y with
  | mk k id s aa n ac AB AO kd pa m pc PB PO pw ih =>
    intro z hy hz hr
    have hy0 := hy
    rw [ok_eq] at hy hz
    simp only [row, List.cons.injEq, Value.int.injEq, true_and, Value.string.injEq, Value.slice.injEq, and_true] at hr
    obtain ⟨r1, r2, r3, ⟨r4, r5, r6⟩, r7, r8, r9⟩ := hr
    rw [t_eq, t_eq]
    simp only [T.mk.injEq]
    refine ⟨r1, r2, r3, ?_, ?_⟩
    · show _ = List.map _ (List.range z.n)
      rw [← r5]
      refine List.map_congr_left fun j hj => ?_
      have hj := List.mem_range.1 hj
      have a1 := hy.2.1 j hj
      have a2 := hz.2.1 j (r5 ▸ hj)
      have e : (⟨AB, AO, none⟩ : Addr) = ⟨z.AB, z.AO, none⟩ := by
        have := a1.1.symm.trans (r4.trans a2.1); simpa using this
      have e1 : AB = z.AB := congrArg Addr.block e
      have e2 : AO = z.AO := congrArg Addr.off e
      have e0 := kid_pos (y := ⟨k, id, s, aa, n, ac, AB, AO, kd, pa, m, pc, PB, PO, pw⟩) hj
      rw [e0]
      rw [e0] at a1
      refine ih ⟨j, hj⟩ (z.kid j) a1.2.2 a2.2.2 ?_
      have c2 := a2.2.1
      rw [← e1, ← e2] at c2
      exact cells_det a1.2.1 c2 rfl
    · show List.map pw (List.range m) = List.map z.pw (List.range z.m)
      rw [← r8]
      refine List.map_congr_left fun j hj => ?_
      have hj := List.mem_range.1 hj
      have a1 := hy.2.2 j hj
      have a2 := hz.2.2 j (r8 ▸ hj)
      have e : (⟨PB, PO, none⟩ : Addr) = ⟨z.PB, z.PO, none⟩ := by
        have := a1.1.symm.trans (r7.trans a2.1); simpa using this
      have e1 : PB = z.PB := congrArg Addr.block e
      have e2 : PO = z.PO := congrArg Addr.off e
      have c2 := a2.2
      rw [← e1, ← e2] at c2
      have := cells_det a1.2 c2 rfl
      simp only [List.cons.injEq, Value.int.injEq, true_and, and_true] at this
      exact Prod.ext this.1 this.2
theorem row_v {y z : L} (h : y.v = z.v) : y.row = z.row := by
  simp only [v, Value.agg.injEq] at h
  exact congrArg Array.toList h
end L
/-- A value that stands for a term. -/
def IsV (G : RO) (x : Value) (t : T) : Prop := ∃ z : L, x = z.v ∧ z.ok G ∧ z.t = t
theorem IsV.det {G : RO} {y : L} {t : T} (h : IsV G y.v t) (hy : y.ok G) : t = y.t := by
  obtain ⟨z, hz, ho, rfl⟩ := h
  exact (L.det y z hy ho (L.row_v hz)).symm
theorem IsV.mono {R S : RO} (h : R.le S) {x : Value} {t : T} : IsV R x t → IsV S x t := fun ⟨z, h1, h2, h3⟩ => ⟨z, h1, L.ok_mono h z h2, h3⟩
theorem pl_len (y : L) : y.pl.length = y.m := by simp [L.pl]
theorem prod_of {f : Nat → PW} {n : Nat} {l : List PW} (hl : l = (List.range n).map f) (f' : Nat → PW) (h : ∀ j, j < n → f' j = f j) : prodL f' n = T.prod l := by
  subst hl
  unfold T.prod
  simp only [List.length_map, List.length_range]
  have : ∀ k, k ≤ n → prS f' k = prS (fun j => ((List.range n).map f).getD j (0, 0)) k := by
    intro k
    induction k with
    | zero => intro _; rfl
    | succ k ih =>
      intro hk
      have h1 : ((List.range n).map f).getD k (0, 0) = f' k := by
        rw [List.getD_eq_getElem?_getD, List.getElem?_map, List.getElem?_range (by omega)]
        simp only [Option.map_some, Option.getD_some]
        exact (h k (by omega)).symm
      simp only [prS, ih (by omega), h1]
  unfold prodL
  rw [this n (Nat.le_refl _)]
end Go.Proofs.YtejpoojgbnppoaaDoor
