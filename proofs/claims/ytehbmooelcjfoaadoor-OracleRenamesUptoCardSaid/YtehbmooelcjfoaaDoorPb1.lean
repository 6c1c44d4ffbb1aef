/- Parts of the proof: what the texts behind this one need. -/
import Derived.Calls
import Derived.Orders
import Derived.Laws.Cells
import Derived.Laws.Tables
import Derived.Laws.CopyRow
import Derived.KernelRfl
import Derived.Laws.IdiomStrings
import Derived.Laws.MakeOwn
import Derived.Laws.Strings
import Derived.Below
import Derived.Sort.AssemblyPlain
import Derived.Test.YtehbmooelcjfoaaDoorProg
abbrev ptA (a : Nat) : Go.Value := .pointer (some ⟨a, 0, none⟩)
abbrev slA (a n c : Nat) : Go.Value := .slice (some ⟨a, 0, none⟩) n c
abbrev ptO (a o : Nat) : Go.Value := .pointer (some ⟨a, o, none⟩)
abbrev vi (x : Int) : Go.Value := .int .i64 x
abbrev vu (x : Int) : Go.Value := .int .u32 x
abbrev NV := Nat → Go.Value
abbrev wq4 (a b : Int) : Int := Go.IntKind.i64.wrap (Int.tdiv (b - a) 4)
set_option maxRecDepth 100000
set_option maxHeartbeats 4000000
set_option linter.unusedVariables false
set_option linter.unusedSimpArgs false
namespace Vc
open Go
structure RO where
  mem : Nat → Option Obj
  os : Os
  tape : Nat → Question → Nat
  out : Array (Nat×ByteArray)
structure RO.le (R S : RO) : Prop where
  mem : ∀ b o, R.mem b = some o → S.mem b = some o
  os : S.os = R.os
  tape : S.tape = R.tape
  out : S.out = R.out
theorem RO.le_refl (R : RO) : R.le R := ⟨fun _ _ h => h, rfl, rfl, rfl⟩
theorem RO.le_trans {R S T : RO} (h : R.le S) (h' : S.le T) : R.le T :=
  ⟨fun b o x => h'.mem b o (h.mem b o x), h'.os.trans h.os, h'.tape.trans h.tape, h'.out.trans h.out⟩
structure Same (w w' : World) : Prop where
  os : w'.os = w.os
  tape : w'.tape = w.tape
  out : w'.output = w.output
theorem Same.refl (w : World) : Same w w := ⟨rfl, rfl, rfl⟩
theorem Same.trans {a b c : World} (h : Same a b) (h' : Same b c) : Same a c := ⟨h'.os.trans h.os, h'.tape.trans h.tape, h'.out.trans h.out⟩
inductive Blk where
  | row (cs : List Value) (t : TypeId) (n : Nat)
  | map (es : List MapEntry) (clock : Nat)
  | obj (o : Obj)
abbrev Hp := List (Option (Nat×Blk))
def Hp.at : Hp → Nat → Option (Nat×Blk)
  | [], _ => none
  | x::_, 0 => x
  | _::l, n + 1 => Hp.at l n
def Hp.put : Hp → Nat → Option (Nat×Blk) → Hp
  | [], 0, b => [b]
  | [], n + 1, b => none::Hp.put [] n b
  | _::l, 0, b => b::l
  | x::l, n + 1, b => x::Hp.put l n b
theorem Hp.at_nil (n : Nat) : Hp.at [] n = none := by cases n <;> rfl
theorem Hp.at_put_same : ∀ (H : Hp) (n : Nat) (b : Option (Nat×Blk)), (H.put n b).at n = b
  | [], 0, b => rfl
  | [], n + 1, b => by simp only [Hp.put, Hp.at];exact Hp.at_put_same [] n b
  | _::l, 0, b => rfl
  | _::l, n + 1, b => by simp only [Hp.put, Hp.at];exact Hp.at_put_same l n b
theorem Hp.at_put_ne : ∀ (H : Hp) (n m : Nat) (b : Option (Nat×Blk)), n ≠ m → (H.put n b).at m = H.at m
  | [], 0, 0, b, h => absurd rfl h
  | [], 0, m + 1, b, h => by simp [Hp.put, Hp.at, Hp.at_nil]
  | [], n + 1, 0, b, h => by simp [Hp.put, Hp.at]
  | [], n + 1, m + 1, b, h => by simp only [Hp.put, Hp.at];rw [Hp.at_put_ne [] n m b (by omega), Hp.at_nil]
  | _::l, 0, 0, b, h => absurd rfl h
  | _::l, 0, m + 1, b, h => by simp [Hp.put, Hp.at]
  | _::l, n + 1, 0, b, h => by simp [Hp.put, Hp.at]
  | _::l, n + 1, m + 1, b, h => by simp only [Hp.put, Hp.at];exact Hp.at_put_ne l n m b (by omega)
theorem Hp.at_put (H : Hp) (n m : Nat) (b : Option (Nat×Blk)) : (H.put n b).at m = if n = m then b else H.at m := by
  split
  · rename_i h;subst h;exact Hp.at_put_same H n b
  · rename_i h;exact Hp.at_put_ne H n m b h
def Blk.at (w : World) (a : Nat) : Blk → Prop
  | .row cs t n => ∃ c lo hi, w.heap[a]? = some (.cells c t (lo, hi))∧c.size = n∧c.toList.take cs.length = cs∧(∀ i, i < n → ¬ (lo ≤ i∧i < hi))
  | .map es k => w.heap[a]? = some (.map es.toArray k)
  | .obj o => w.heap[a]? = some o
theorem Blk.at_heap {w w' : World} {a : Nat} {B : Blk} (h : B.at w a) (he : w'.heap[a]? = w.heap[a]?) : B.at w' a := by
  cases B <;> simpa only [Blk.at, he] using h
theorem Blk.at_lt {w : World} {a : Nat} {B : Blk} (h : B.at w a) : a < w.heap.size := by
  rcases Nat.lt_or_ge a w.heap.size with hl | hl
  · exact hl
  · cases B with
    | row cs t n => obtain ⟨c, lo, hi, h1, _⟩ := h;simp [Array.getElem?_eq_none hl] at h1
    | map es k => simp [Blk.at, Array.getElem?_eq_none hl] at h
    | obj o => simp [Blk.at, Array.getElem?_eq_none hl] at h
structure Sat (w : World) (R : RO) (H : Hp) : Prop where
  ro : ∀ b o, R.mem b = some o → w.heap[b]? = some o
  own : ∀ i a B, H.at i = some (a, B) → B.at w a
  off : ∀ i a B, H.at i = some (a, B) → R.mem a = none
  one : ∀ i j a B C, H.at i = some (a, B) → H.at j = some (a, C) → i = j
  os : w.os = R.os
  tape : w.tape = R.tape
  out : w.output = R.out
theorem Sat.heap {w w' : World} {R : RO} {H : Hp} (h : Sat w R H) (he : w'.heap = w.heap) (hk : Same w w') : Sat w' R H :=
  ⟨fun b o hb => by rw [he];exact h.ro b o hb, fun i a B hi => Blk.at_heap (h.own i a B hi) (by rw [he]), h.off, h.one, hk.os.trans h.os, hk.tape.trans h.tape, hk.out.trans h.out⟩
def tget : List Value → Nat → Value
  | [], _ => undef
  | x::_, 0 => x
  | _::l, n + 1 => tget l n
def tput : List Value → Nat → Value → List Value
  | [], _, _ => []
  | _::l, 0, v => v::l
  | x::l, n + 1, v => x::tput l n v
def urun (u : Nat → Value) : Nat → Nat → List Value → List Value
  | _, 0, l => l
  | k, n + 1, l => u k::urun u (k + 1) n l
def uns : Nat → List Value → List Value
  | 0, l => l
  | n + 1, l => undef::uns n l
def put (tm : List Value) : Option Tmp → Value → List Value
  | some d, v => tput tm d v
  | none, _ => tm
def ev (tm : List Value) : Operand → Value
  | .tmp t => tget tm t
  | .const v => v
  | .global g => ptA g
  | .func f => .func (.func f) #[] #[]
theorem tget_eq : ∀ (l : List Value) (n : Nat), tget l n = l.toArray.getD n undef
  | [], n => by simp [tget]
  | x::l, 0 => by simp [tget]
  | x::l, n + 1 => by
    have := tget_eq l n
    simp only [tget, this]
    simp [← Array.getElem?_toList]

theorem tput_eq : ∀ (l : List Value) (n : Nat) (v : Value), (tput l n v) = l.set n v
  | [], n, v => by simp [tput]
  | x::l, 0, v => by simp [tput]
  | x::l, n + 1, v => by simp [tput, tput_eq l n v]
structure St where
  tm : List Value
  df : List Deferred
  hp : Hp
def St.act (s : St) : Act := ⟨s.tm.toArray, s.df⟩
theorem St.eval (s : St) : s.act.eval = ev s.tm := by
  funext x;cases x with
  | tmp t => simp only [Act.eval, St.act, ev, tget_eq]
  | _ => rfl
theorem St.put_act (s : St) (d : Option Tmp) (v : Value) : s.act.put d v = (St.act { s with tm := put s.tm d v }) := by
  cases d with
  | none => rfl
  | some d => simp [Act.put, St.act, put, tput_eq]
def pureV (P : Program) {α : Type} : Sem α → Option α
  | .pure v => some v
  | .program k => pureV P (k P)
  | .mark _ k => pureV P k
  | _ => none
def pureN (P : Program) : Sem Next → Option Value
  | .pure (.value v) => some v
  | .program k => pureN P (k P)
  | .mark _ k => pureN P k
  | _ => none
theorem pureV_run {P : Program} {α : Type} : ∀ {s : Sem α} {v : α}, pureV P s = some v → ∀ w, s.run P w = .ok v w := by
  intro s
  induction s with
  | pure a => intro v h w;simp [pureV] at h;subst h;rfl
  | program k ih => intro v h w;simp only [pureV] at h;exact ih P h w
  | mark m k ih => intro v h w;simp only [pureV] at h;exact ih h w
  | _ => intro v h;simp [pureV] at h
theorem pureN_run {P : Program} : ∀ {s : Sem Next} {v : Value}, pureN P s = some v → ∀ w, s.run P w = .ok (.value v) w := by
  intro s
  induction s with
  | pure a => intro v h w;cases a <;> simp [pureN] at h;subst h;rfl
  | program k ih => intro v h w;simp only [pureN] at h;exact ih P h w
  | mark m k ih => intro v h w;simp only [pureN] at h;exact ih h w
  | _ => intro v h;simp [pureN] at h
def takeL {α : Type} : Nat → List α → Option (List α)
  | 0, _ => some []
  | _ + 1, [] => none
  | n + 1, x::xs => match takeL n xs with
    | some l => some (x::l)
    | none => none
theorem takeL_some {α : Type} : ∀ {n : Nat} {l m : List α}, takeL n l = some m → m = l.take n∧n ≤ l.length
  | 0, l, m, h => by simp [takeL] at h;simp [h]
  | n + 1, [], m, h => by simp [takeL] at h
  | n + 1, x::xs, m, h => by
    simp only [takeL] at h
    cases hx : takeL n xs with
    | none => simp [hx] at h
    | some k =>
      simp [hx] at h
      obtain ⟨rfl, h2⟩ := takeL_some hx
      subst h
      simp;omega
def tinfo (P : Program) (t : TypeId) : Option (Bool×Nat) :=
  match pureV P (isAgg t), pureV P (Go.sizeOf t) with
  | some b, some n => some (b, n)
  | _, _ => none
theorem tinfo_run {P : Program} {t : TypeId} {b : Bool} {n : Nat} (h : tinfo P t = some (b, n)) :
    (∀ w : World, (isAgg t).run P w = .ok b w)∧(∀ w : World, (Go.sizeOf t).run P w = .ok n w) := by
  unfold tinfo at h
  cases h1 : pureV P (isAgg t) with
  | none => simp [h1] at h
  | some b' =>
    cases h2 : pureV P (Go.sizeOf t) with
    | none => simp [h1, h2] at h
    | some n' =>
      simp [h1, h2] at h
      obtain ⟨rfl, rfl⟩ := h
      exact ⟨pureV_run h1, pureV_run h2⟩
def readVar (P : Program) (t : TypeId) (cs : List Value) (off : Nat) : Option Value :=
  match tinfo P t with
  | some (true, n) => match takeL n (cs.drop off) with
    | some l => some (.agg l.toArray)
    | none => none
  | some (false, _) => cs[off]?
  | none => none
theorem add_eq (b off n : Nat) : (⟨b, off, none⟩ : Addr).add n = ⟨b, off + n, none⟩ := by
  unfold Addr.add;split
  · rename_i h;subst h;rfl
  · rfl
theorem cell_of_take {w : World} {ad : Nat} {c : Array Value} {t : TypeId} {fr : Nat×Nat} (hc : w.heap[ad]? = some (.cells c t fr)) {cs : List Value}
    (ht : c.toList.take cs.length = cs) {i : Nat} {v : Value} (hv : cs[i]? = some v) : w.cell? ⟨ad, i, none⟩ = some v := by
  have hi : i < cs.length := by
    rcases Nat.lt_or_ge i cs.length with h | h
    · exact h
    · simp [List.getElem?_eq_none h] at hv
  have : c.toList[i]? = some v := by
    rw [← ht] at hv
    rw [List.getElem?_take_of_lt hi] at hv
    exact hv
  simpa [World.cell?, hc] using this
theorem run_loadVar_of {P : Program} {w : World} {t : TypeId} {ad off : Nat} {cs : List Value} {v : Value}
    (hcell : ∀ i x, cs[i]? = some x → w.cell? ⟨ad, i, none⟩ = some x) (hr : readVar P t cs off = some v) :
    (loadVar t ⟨ad, off, none⟩).run P w = .ok v w := by
  unfold readVar at hr
  cases hi : tinfo P t with
  | none => simp [hi] at hr
  | some x =>
    obtain ⟨b, n⟩ := x
    obtain ⟨h1, h2⟩ := tinfo_run hi
    cases b with
    | true =>
      simp only [hi] at hr
      cases hl : takeL n (cs.drop off) with
      | none => simp [hl] at hr
      | some l =>
        simp [hl] at hr
        subst hr
        obtain ⟨hl1, hl2⟩ := takeL_some hl
        have hlen : l.length = n := by rw [hl1, List.length_take];omega
        have := run_loadCells_list (P := P) w ⟨ad, off, none⟩ l (fun j x hj => by
          rw [add_eq]
          apply hcell
          have hjl : j < n := by
            rcases Nat.lt_or_ge j n with h | h
            · exact h
            · rw [List.getElem?_eq_none (by omega)] at hj;cases hj
          rw [hl1, List.getElem?_take_of_lt hjl, List.getElem?_drop] at hj
          exact hj)
        rw [hlen] at this
        simp [loadVar, h1, h2, this]
    | false =>
      simp only [hi] at hr
      simp [loadVar, h1, hcell _ _ hr]
theorem Blk.cells {w : World} {ad : Nat} {cs : List Value} {t : TypeId} {n : Nat} (h : (Blk.row cs t n).at w ad) (i : Nat) (x : Value) (hx : cs[i]? = some x) :
    w.cell? ⟨ad, i, none⟩ = some x := by
  obtain ⟨c, lo, hi, hc, _, ht, _⟩ := h
  exact cell_of_take hc ht hx
def RO.cells (R : RO) (ad off : Nat) (cs : List Value) : Prop :=
  ∃ c t fr, R.mem ad = some (.cells c t fr)∧(c.toList.drop off).take cs.length = cs
theorem RO.cells_mono {R S : RO} (h : R.le S) {ad off : Nat} {cs : List Value} (hc : R.cells ad off cs) : S.cells ad off cs := by
  obtain ⟨c, t, fr, h1, h2⟩ := hc
  exact ⟨c, t, fr, h.mem _ _ h1, h2⟩
def splice : List Value → Nat → List Value → Option (List Value)
  | cs, 0, [] => some cs
  | [], 0, _::_ => none
  | c::cs, 0, v::vs => match splice cs 0 vs with
    | some l => some (v::l)
    | none => none
  | [], _ + 1, _ => none
  | c::cs, n + 1, vs => match splice cs n vs with
    | some l => some (c::l)
    | none => none
theorem splice_some : ∀ {cs : List Value} {n : Nat} {vs l : List Value}, splice cs n vs = some l →
    n + vs.length ≤ cs.length∧l = cs.take n ++ vs ++ cs.drop (n + vs.length)
  | cs, 0, [], l, h => by cases cs <;> simp [splice] at h <;> simp [h]
  | [], 0, v::vs, l, h => by simp [splice] at h
  | c::cs, 0, v::vs, l, h => by
    simp only [splice] at h
    cases hs : splice cs 0 vs with
    | none => simp [hs] at h
    | some k =>
      simp [hs] at h
      obtain ⟨h1, h2⟩ := splice_some hs
      subst h
      subst h2
      simp at h1 ⊢
      exact h1
  | [], n + 1, vs, l, h => by simp [splice] at h
  | c::cs, n + 1, vs, l, h => by
    simp only [splice] at h
    cases hs : splice cs n vs with
    | none => simp [hs] at h
    | some k =>
      simp [hs] at h
      obtain ⟨h1, h2⟩ := splice_some hs
      subst h
      subst h2
      simp at h1 ⊢
      constructor
      · omega
      · rw [show n + 1 + vs.length = (n + vs.length) + 1 by omega];simp
def ones : List Value → Bool
  | [] => true
  | v::l => match v.oneCell' with
    | true => ones l
    | false => false
theorem ones_spec : ∀ {l : List Value}, ones l = true → ∀ v ∈ l, v.oneCell' = true
  | [], _, v, hv => by cases hv
  | x::l, h, v, hv => by
    simp only [ones] at h
    cases hx : x.oneCell' with
    | false => simp [hx] at h
    | true =>
      simp [hx] at h
      cases hv with
      | head => exact hx
      | tail _ hm => exact ones_spec h v hm
def writeVar (P : Program) (t : TypeId) (cs : List Value) (off : Nat) (v : Value) : Option (List Value) :=
  match pureV P (Go.sizeOf t) with
  | some n => match Nat.beq v.cells.toList.length n, ones v.cells.toList with
    | true, true => splice cs off v.cells.toList
    | _, _ => none
  | none => none
theorem run_storeCells_blk {P : Program} (ad : Nat) (t : TypeId) (fr : Nat×Nat) : ∀ (vs : List Value) (off i : Nat) (c : Array Value) (w : World),
    w.heap[ad]? = some (.cells c t fr) → off + i + vs.length ≤ c.size → (∀ j, j < c.size → ¬ (fr.1 ≤ j∧j < fr.2)) → (∀ v ∈ vs, v.oneCell' = true) →
    ∃ c' w', (storeCells ⟨ad, off, none⟩ vs i).run P w = .ok () w'∧w'.heap = w.heap.setIfInBounds ad (.cells c' t fr)∧c'.size = c.size∧Same w w' ∧
      c'.toList = c.toList.take (off + i) ++ vs ++ c.toList.drop (off + i + vs.length)
  | [], off, i, c, w, hw, hs, hf, h1 => by
    refine ⟨c, w, rfl, ?_, rfl, .refl w, by simp⟩
    obtain ⟨hlt, hv⟩ := Array.getElem?_eq_some_iff.1 hw
    rw [← hv]
    apply Array.ext
    · simp
    · intro k h2 h3
      rw [Array.getElem_setIfInBounds (by simpa using h3)]
      by_cases hk : ad = k
      · subst hk;simp
      · simp [hk]
  | v::vs, off, i, c, w, hw, hs, hf, h1 => by
    simp at hs
    have hi : off + i < c.size := by omega
    obtain ⟨hlt, hv⟩ := Array.getElem?_eq_some_iff.1 hw
    have hcell : w.cell? ⟨ad, off + i, none⟩ = some c[off + i] := by simp [World.cell?, hw, hi]
    have hfro : w.frozen? ⟨ad, off + i, none⟩ = false := by
      have := hf (off + i) hi
      obtain ⟨lo, h⟩ := fr
      simp [World.frozen?, hw]
      intro h2
      simp at this
      omega
    have hst : (store ((⟨ad, off, none⟩ : Addr).add i) v).run P w = .ok () (w.setCell ⟨ad, off + i, none⟩ v) := by
      rw [add_eq, run_store P w _ v _ (h1 v (by simp)), hcell]
      simp [hfro]
    have hset : (w.setCell ⟨ad, off + i, none⟩ v).heap = w.heap.setIfInBounds ad (.cells (c.setIfInBounds (off + i) v) t fr) := by
      unfold World.setCell
      apply Array.ext
      · simp
      · intro k h2 h3
        simp only [Array.getElem_modify]
        rw [Array.getElem_setIfInBounds (by simpa using h3)]
        by_cases hk : ad = k
        · subst hk;simp [hv]
        · simp [hk]
    have hh : (w.setCell ⟨ad, off + i, none⟩ v).heap[ad]? = some (.cells (c.setIfInBounds (off + i) v) t fr) := by
      rw [hset];simp [hlt]
    obtain ⟨c', w', r1, r2, r3, r5, r4⟩ := run_storeCells_blk ad t fr vs off (i + 1) (c.setIfInBounds (off + i) v) _ hh (by simp;omega) (by simpa using hf) (fun x hx => h1 x (by simp [hx]))
    refine ⟨c', w', ?_, ?_, by simpa using r3, Same.trans (b := w.setCell ⟨ad, off + i, none⟩ v) ⟨rfl, rfl, rfl⟩ r5, ?_⟩
    · simp only [storeCells, Sem.run_bind, hst, Result.andThen_ok];exact r1
    · rw [r2, hset]
      simp
    · rw [r4]
      simp only [Array.toList_setIfInBounds]
      apply List.ext_getElem?
      intro k
      simp only [List.getElem?_append, List.length_take, List.length_set, Array.length_toList, List.getElem?_drop, List.getElem?_take, List.length_append, List.length_cons]
      by_cases k1 : k < off + i
      · simp [k1, show k < off + (i + 1) by omega, show min (off + (i+1)) c.size = off + (i + 1) by omega, show min (off + i) c.size = off + i by omega, show k < off + i + (vs.length + 1) by omega, show k < off + (i+1) + vs.length by omega, show off + i ≠ k by omega]
      · by_cases k2 : k = off + i
        · subst k2
          simp [show off + i < off + (i + 1) by omega, show min (off + (i+1)) c.size = off + (i + 1) by omega, show min (off + i) c.size = off + i by omega, hi]
          intro h;omega
        · simp only [show min (off + (i+1)) c.size = off + (i + 1) by omega, show min (off + i) c.size = off + i by omega, k1, if_false, show ¬ k < off + (i + 1) by omega]
          by_cases k3 : k < off + i + (vs.length + 1)
          · simp [k3, show k < off + (i+1) + vs.length by omega, show k - (off + i) = (k - (off + (i+1))) + 1 by omega]
          · simp only [k3, show ¬ k < off + (i+1) + vs.length by omega, if_false]
            rw [List.getElem?_set_ne (by omega)]
            congr 1
            omega
end Vc
set_option linter.unusedVariables false
set_option linter.unusedSimpArgs false
namespace Vc
open Go
inductive Out where
  | ret (v : Value)
  | pan (v : Value)
def Out.fin : Out → Ending
  | .ret v => .returned v
  | .pan v => .panicked [{ v, recovered := false }]
structure Ext (R Rx G Rx' : RO) : Prop where
  le : R.le G
  lex : Rx.le Rx'
  leg : G.le Rx'
  own : ∀ b, G.mem b ≠ none → R.mem b ≠ none ∨ Rx.mem b = none
theorem Ext.refl {R Rx : RO} (h : R.le Rx) : Ext R Rx R Rx := ⟨R.le_refl, Rx.le_refl, h, fun _ h => .inl h⟩
theorem Ext.trans {R Rx G Rx' G' Rx'' : RO} (h : Ext R Rx G Rx') (h' : Ext G Rx' G' Rx'') : Ext R Rx G' Rx'' :=
  ⟨RO.le_trans h.le h'.le, RO.le_trans h.lex h'.lex, h'.leg, fun b hb => by
    rcases h'.own b hb with h1 | h1
    · exact h.own b h1
    · right
      cases hx : Rx.mem b with
      | none => rfl
      | some o => rw [h.lex.mem b o hx] at h1;cases h1⟩
def Does (P : Program) (f : FuncId) (args : List Value) (R : RO) (H : Hp) (Q : Out → RO → Hp → Prop) : Prop :=
  ∀ Rx w, R.le Rx → Sat w Rx H → Calls P f args.toArray w fun e w' =>
    ∃ o G H' Rx', e = o.fin∧Q o G H'∧Ext R Rx G Rx'∧Sat w' Rx' H'
theorem Does.mono {P : Program} {f : FuncId} {args : List Value} {R : RO} {H : Hp} {Q Q' : Out → RO → Hp → Prop} (h : Does P f args R H Q)
    (hq : ∀ o G H', R.le G → Q o G H' → Q' o G H') : Does P f args R H Q' :=
  fun Rx w hR hs => (h Rx w hR hs).mono fun e w' ⟨o, G, H', Rx', h1, h2, h3, h4⟩ => ⟨o, G, H', Rx', h1, hq o G H' h3.le h2, h3, h4⟩
def GQ (R : RO) (o : Out) (B : Hp) : Out → RO → Hp → Prop := fun r G B' => G = R∧r = o∧B' = B
def Gives (P : Program) (f : FuncId) (args : List Value) (R : RO) (H : Hp) (o : Out) (B : Hp) : Prop :=
  Does P f args R H (GQ R o B)
def GX (R : RO) (X : Type) (g : X → Value×Hp) : Out → RO → Hp → Prop := fun r G B => G = R∧∃ x, r = .ret (g x).1∧B = (g x).2
def GivesX (P : Program) (f : FuncId) (args : List Value) (R : RO) (H : Hp) (X : Type) (g : X → Value×Hp) : Prop :=
  Does P f args R H (GX R X g)
inductive Exit' where
  | normal
  | exit (id : Nat)
  | goto (l : Nat)
  | ret
  | panic (v : Value)
def Exit'.to : Exit' → Exit
  | .normal => .normal
  | .exit i => .exit i
  | .goto l => .goto l
  | .ret => .ret
  | .panic v => .panic [{ v, recovered := false }]
def Lift (R Rx : RO) (K : Exit' → St → RO → Prop) : Exit → Act → World → Prop :=
  fun e a w => ∃ e' s G Rx', e = Exit'.to e'∧a = s.act∧K e' s G∧Ext R Rx G Rx'∧Sat w Rx' s.hp
def CT (P : Program) (c : Code) (s : St) (R : RO) (K : Exit' → St → RO → Prop) : Prop :=
  ∀ Rx w, R.le Rx → Sat w Rx s.hp → c.wp P (Lift R Rx K) s.act w
theorem Lift.mono {R Rx : RO} {K K' : Exit' → St → RO → Prop} (h : ∀ e s G, R.le G → K e s G → K' e s G) {e : Exit} {a : Act} {w : World}
    (hl : Lift R Rx K e a w) : Lift R Rx K' e a w := by
  obtain ⟨e', s, G, Rx', h1, h2, h3, h4, h5⟩ := hl
  exact ⟨e', s, G, Rx', h1, h2, h _ _ _ h4.le h3, h4, h5⟩
theorem CT.mono {P : Program} {c : Code} {s : St} {R : RO} {K K' : Exit' → St → RO → Prop} (h : CT P c s R K)
    (hk : ∀ e s G, R.le G → K e s G → K' e s G) : CT P c s R K' :=
  fun Rx w hR hs => wp_mono (h Rx w hR hs) fun e a w hl => Lift.mono hk hl
theorem Lift.later {R Rx G Rx' : RO} {K : Exit' → St → RO → Prop} (hx : Ext R Rx G Rx') {e : Exit} {a : Act} {w : World}
    (hl : Lift G Rx' K e a w) : Lift R Rx K e a w := by
  obtain ⟨e', s, G', Rx'', h1, h2, h3, h4, h5⟩ := hl
  exact ⟨e', s, G', Rx'', h1, h2, h3, hx.trans h4, h5⟩
abbrev Upd := List (Nat×Option (Nat×Blk))
def Hp.upds (H : Hp) : Upd → Hp
  | [] => H
  | (i, b)::u => Hp.upds (H.put i b) u
inductive Eff where
  | no
  | val (v : Value)
  | det (p : Prop) (v : Value) (u : Upd)
  | new (f : Nat → Value×Upd)
  | gen (p : Prop) (X : Type) (g : X → Prop) (f : X → Value×Upd)
  | genG (p : Prop) (X : Type) (q : X → RO → Prop) (f : X → Value×Upd)
  | pan (v : Value)
  | panc (p : Prop) (v : Value) (u : Upd)
  | dfr (d : Deferred)
def St.set (s : St) (d : Option Tmp) (v : Value) (u : Upd) : St := ⟨put s.tm d v, s.df, s.hp.upds u⟩
def Eff.run (s : St) (R : RO) (dst : Option Tmp) (k : St → RO → Prop) (kp : Value → St → RO → Prop) : Eff → Prop
  | .no => False
  | .val v => k (s.set dst v []) R
  | .det p v u => p∧k (s.set dst v u) R
  | .new f => ∀ a, k (s.set dst (f a).1 (f a).2) R
  | .gen p X g f => p∧∀ x : X, g x → k (s.set dst (f x).1 (f x).2) R
  | .genG p X q f => p∧∀ (x : X) (G : RO), R.le G → q x G → k (s.set dst (f x).1 (f x).2) G
  | .pan v => kp v s R
  | .panc p v u => p∧kp v ⟨s.tm, s.df, s.hp.upds u⟩ R
  | .dfr d => k ⟨put s.tm dst undef, d::s.df, s.hp⟩ R
theorem St.put_set (s : St) (d : Option Tmp) (v : Value) (u : Upd) : s.act.put d v = (s.set d v u).act := by
  rw [St.put_act];rfl
def EffOK (P : Program) (o : Oper) (s : St) (R : RO) (E : Eff) : Prop :=
  ∀ k kp, E.run s R o.dst k kp → ∀ Rx w, R.le Rx → Sat w Rx s.hp → ∀ (next : Act → World → Prop) (Q : Exit → Act → World → Prop),
    (∀ s' G Rx' w', k s' G → Ext R Rx G Rx' → Sat w' Rx' s'.hp → next s'.act w') →
    (∀ v s' G Rx' w', kp v s' G → Ext R Rx G Rx' → Sat w' Rx' s'.hp → Q (.panic [{ v, recovered := false }]) s'.act w') →
    o.wp P s.act w next Q
section
variable {P : Program} {o : Oper} {s : St} {R : RO}
theorem EffOK.no : EffOK P o s R .no := fun _ _ h => h.elim
theorem wp_value {a : Act} {w w' : World} {next : Act → World → Prop} {Q : Exit → Act → World → Prop} {v : Value}
    (hr : (execOp a.eval o).run P w = .ok (.value v) w') (h : next (a.put o.dst v) w') : o.wp P a w next Q := by
  unfold Oper.wp;rw [hr];exact h
theorem wp_skip' {a : Act} {w w' : World} {next : Act → World → Prop} {Q : Exit → Act → World → Prop}
    (hr : (execOp a.eval o).run P w = .ok .skip w') (h : next (a.put o.dst undef) w') : o.wp P a w next Q := by
  unfold Oper.wp;rw [hr];exact h
theorem EffOK.val {v : Value} (h : ∀ w, (execOp (ev s.tm) o).run P w = .ok (.value v) w) : EffOK P o s R (.val v) := by
  intro k kp hk Rx w hR hs next Q hn hq
  refine wp_value (by rw [St.eval];exact h w) ?_
  rw [St.put_act]
  exact hn _ R Rx w hk (.refl hR) hs
theorem EffOK.det0 {p : Prop} {v : Value} (h : p → ∀ w Rx, R.le Rx → Sat w Rx s.hp → (execOp (ev s.tm) o).run P w = .ok (.value v) w) :
    EffOK P o s R (.det p v []) := by
  intro k kp ⟨hp, hk⟩ Rx w hR hs next Q hn hq
  refine wp_value (by rw [St.eval];exact h hp w Rx hR hs) ?_
  rw [St.put_act]
  exact hn _ R Rx w hk (.refl hR) hs
theorem EffOK.det {p : Prop} {v : Value} {u : Upd} (h : p → ∀ w Rx, R.le Rx → Sat w Rx s.hp →
      ∃ w', ((execOp (ev s.tm) o).run P w = .ok (.value v) w' ∨ (execOp (ev s.tm) o).run P w = .ok .skip w'∧v = undef)∧Sat w' Rx (s.hp.upds u)) :
    EffOK P o s R (.det p v u) := by
  intro k kp ⟨hp, hk⟩ Rx w hR hs next Q hn hq
  obtain ⟨w', h1, h2⟩ := h hp w Rx hR hs
  rcases h1 with h1 | ⟨h1, rfl⟩
  · refine wp_value (by rw [St.eval];exact h1) ?_
    rw [St.put_set s _ _ u]
    exact hn _ R Rx w' hk (.refl hR) h2
  · refine wp_skip' (by rw [St.eval];exact h1) ?_
    rw [St.put_set s _ _ u]
    exact hn _ R Rx w' hk (.refl hR) h2
theorem EffOK.new {f : Nat → Value×Upd} (h : ∀ w Rx, R.le Rx → Sat w Rx s.hp →
      ∃ a w', (execOp (ev s.tm) o).run P w = .ok (.value (f a).1) w'∧Sat w' Rx (s.hp.upds (f a).2)) :
    EffOK P o s R (.new f) := by
  intro k kp hk Rx w hR hs next Q hn hq
  obtain ⟨a, w', h1, h2⟩ := h w Rx hR hs
  refine wp_value (by rw [St.eval];exact h1) ?_
  rw [St.put_set s _ _ (f a).2]
  exact hn _ R Rx w' (hk a) (.refl hR) h2
theorem EffOK.gen {p : Prop} {X : Type} {g : X → Prop} {f : X → Value×Upd} (h : p → ∀ w Rx, R.le Rx → Sat w Rx s.hp →
      ∃ x w', g x∧(execOp (ev s.tm) o).run P w = .ok (.value (f x).1) w'∧Sat w' Rx (s.hp.upds (f x).2)) :
    EffOK P o s R (.gen p X g f) := by
  intro k kp ⟨hp, hk⟩ Rx w hR hs next Q hn hq
  obtain ⟨x, w', hg, h1, h2⟩ := h hp w Rx hR hs
  refine wp_value (by rw [St.eval];exact h1) ?_
  rw [St.put_set s _ _ (f x).2]
  exact hn _ R Rx w' (hk x hg) (.refl hR) h2
theorem EffOK.pan {v : Value} (h : ∀ w, (execOp (ev s.tm) o).run P w = .halt (.panic v) w) : EffOK P o s R (.pan v) := by
  intro k kp hk Rx w hR hs next Q hn hq
  unfold Oper.wp;rw [St.eval, h w]
  exact hq v s R Rx w hk (.refl hR) hs
theorem EffOK.dfr {d : Deferred} (h : ∀ w, (execOp (ev s.tm) o).run P w = .ok (.defer d) w) : EffOK P o s R (.dfr d) := by
  intro k kp hk Rx w hR hs next Q hn hq
  unfold Oper.wp;rw [St.eval, h w]
  have : ({ tmps := s.act.tmps, defers := d::s.act.defers } : Act).put o.dst undef = St.act ⟨put s.tm o.dst undef, d::s.df, s.hp⟩ :=
    St.put_act ⟨s.tm, d::s.df, s.hp⟩ o.dst undef
  show next (Act.put { tmps := s.act.tmps, defers := d::s.act.defers } o.dst undef) w
  rw [this]
  exact hn _ R Rx w hk (.refl hR) hs
end
theorem Sat.fresh {w : World} {R : RO} {H : Hp} (h : Sat w R H) : R.mem w.heap.size = none := by
  cases hr : R.mem w.heap.size with
  | none => rfl
  | some o => have := h.ro _ _ hr;simp at this
theorem Sat.put_new {w w' : World} {R : RO} {H : Hp} (h : Sat w R H) {o : Obj} (hw : w'.heap = w.heap.push o) {i : Nat} (hi : H.at i = none) {B : Blk}
    (hB : B.at w' w.heap.size) (hk : Same w w') : Sat w' R (H.put i (some (w.heap.size, B))) := by
  have keep : ∀ b, b < w.heap.size → w'.heap[b]? = w.heap[b]? := fun b hb => by rw [hw, Array.getElem?_push];simp [show b ≠ w.heap.size by omega]
  refine ⟨fun b o hb => ?_, fun j a C hj => ?_, fun j a C hj => ?_, fun j k a C D hj hk => ?_, hk.os.trans h.os, hk.tape.trans h.tape, hk.out.trans h.out⟩
  · have := h.ro b o hb
    rw [keep];exact this
    rcases Nat.lt_or_ge b w.heap.size with hl | hl
    · exact hl
    · simp [Array.getElem?_eq_none hl] at this
  · rw [Hp.at_put] at hj
    split at hj
    · cases hj;exact hB
    · have := h.own j a C hj
      exact Blk.at_heap this (keep a (Blk.at_lt this))
  · rw [Hp.at_put] at hj
    split at hj
    · cases hj;exact h.fresh
    · exact h.off j a C hj
  · rw [Hp.at_put] at hj hk
    split at hj <;> split at hk
    · omega
    · cases hj;have := Blk.at_lt (h.own _ _ _ hk);omega
    · cases hk;have := Blk.at_lt (h.own _ _ _ hj);omega
    · exact h.one _ _ _ _ _ hj hk
theorem Sat.put_upd {w w' : World} {R : RO} {H : Hp} (h : Sat w R H) {i ad : Nat} {B B' : Blk} (hi : H.at i = some (ad, B)) {o : Obj}
    (hw : w'.heap = w.heap.setIfInBounds ad o) (hB : B'.at w' ad) (hk : Same w w') : Sat w' R (H.put i (some (ad, B'))) := by
  have keep : ∀ b, b ≠ ad → w'.heap[b]? = w.heap[b]? := fun b hb => by rw [hw, Array.getElem?_setIfInBounds_ne (by omega)]
  refine ⟨fun b o hb => ?_, fun j a C hj => ?_, fun j a C hj => ?_, fun j k a C D hj hk => ?_, hk.os.trans h.os, hk.tape.trans h.tape, hk.out.trans h.out⟩
  · rw [keep]
    · exact h.ro b o hb
    · intro he;subst he;rw [h.off i _ B hi] at hb;cases hb
  · rw [Hp.at_put] at hj
    split at hj
    · cases hj;exact hB
    · rename_i hne
      refine Blk.at_heap (h.own j a C hj) (keep a ?_)
      intro he;subst he;exact hne (h.one _ _ _ _ _ hi hj)
  · rw [Hp.at_put] at hj
    split at hj
    · cases hj;exact h.off i _ B hi
    · exact h.off j a C hj
  · rw [Hp.at_put] at hj hk
    split at hj <;> split at hk
    · omega
    · rename_i h1 h2;cases hj;exact (h2 (h.one _ _ _ _ _ hi hk)).elim
    · rename_i h1 h2;cases hk;exact (h1 (h.one _ _ _ _ _ hi hj)).elim
    · exact h.one _ _ _ _ _ hj hk
theorem run_storeVar_of {P : Program} {w : World} {R : RO} {H : Hp} (h : Sat w R H) {i ad n off : Nat} {cs cs' : List Value} {t t' : TypeId} {v : Value}
    (hi : H.at i = some (ad, .row cs t' n)) (hv : writeVar P t cs off v = some cs') :
    ∃ w', (storeVar t ⟨ad, off, none⟩ v).run P w = .ok () w'∧Sat w' R (H.put i (some (ad, .row cs' t' n))) := by
  unfold writeVar at hv
  cases hs : pureV P (Go.sizeOf t) with
  | none => simp [hs] at hv
  | some m =>
    simp only [hs] at hv
    split at hv
    · rename_i h1 h2
      obtain ⟨c, lo, hi', hc, hn, ht, hf⟩ := h.own i ad _ hi
      obtain ⟨s1, s2⟩ := splice_some hv
      have hlen : v.cells.toList.length = m := by simpa using h1
      have hcl : cs.length ≤ c.size := by
        have := congrArg List.length ht
        simp at this;omega
      obtain ⟨c', w', r1, r2, r3, r5, r4⟩ := run_storeCells_blk (P := P) ad t' (lo, hi') v.cells.toList off 0 c w hc (by omega) (by simpa [hn] using hf) (ones_spec h2)
      refine ⟨w', ?_, ?_⟩
      · have hsz : v.cells.size = m := by simpa using hlen
        simp [storeVar, pureV_run hs, hsz, r1]
      · refine h.put_upd hi r2 ⟨c', lo, hi', ?_, by omega, ?_, hf⟩ r5
        · have hlt := (Array.getElem?_eq_some_iff.1 hc).1
          rw [r2, Array.getElem?_setIfInBounds]
          simp only [if_true, hlt]
        · rw [r4, s2]
          have e : cs = c.toList.take cs.length := ht.symm
          have hl : (List.take off cs ++ v.cells.toList ++ List.drop (off + v.cells.toList.length) cs).length = cs.length := by
            simp only [List.length_append, List.length_take, List.length_drop];omega
          rw [hl]
          apply List.ext_getElem?
          intro k
          have hck : ∀ k, k < cs.length → cs[k]? = c.toList[k]? := fun k hk => by
            rw [e, List.getElem?_take_of_lt (by simpa using hk)]
          by_cases hk : k < cs.length
          · rw [List.getElem?_take_of_lt hk]
            simp only [List.getElem?_append, List.length_append, List.length_take, List.getElem?_take, List.getElem?_drop, Array.length_toList, Nat.add_zero]
            rw [show min off cs.length = off by omega, show min off c.size = off by omega]
            by_cases k1 : k < off
            · simp [k1, show k < off + v.cells.size by omega]
              simpa using (hck k hk).symm
            · by_cases k2 : k < off + v.cells.toList.length
              · simp at k2;simp [k1, k2]
              · simp at k2
                simp only [Array.length_toList, k1, if_false, show ¬ k < off + v.cells.size by omega]
                rw [show off + v.cells.size + (k - (off + v.cells.size)) = k by omega]
                exact (hck k hk).symm
          · rw [List.getElem?_eq_none (by simp only [List.length_take];omega), List.getElem?_eq_none (by rw [hl];omega)]
    · cases hv
end Vc
set_option linter.unusedVariables false
set_option linter.unusedSimpArgs false
namespace Vc
open Go
def zipU : List Nat → Hp → Upd
  | [], _ => []
  | i::is, [] => (i, none)::zipU is []
  | i::is, b::bs => (i, b)::zipU is bs
def freshN (H : Hp) : List Nat → Bool
  | [] => true
  | i::is => match H.at i with
    | none => freshN H is
    | some _ => false
def memN (i : Nat) : List Nat → Bool
  | [] => false
  | j::js => match Nat.beq i j with
    | true => true
    | false => memN i js
def nodupN : List Nat → Bool
  | [] => true
  | i::is => match memN i is with
    | true => false
    | false => nodupN is
theorem memN_iff {i : Nat} : ∀ {l : List Nat}, memN i l = true ↔ i ∈ l
  | [] => by simp [memN]
  | j::js => by
    simp only [memN, List.mem_cons]
    cases h : Nat.beq i j with
    | true => simp [Nat.eq_of_beq_eq_true h]
    | false =>
      simp only [memN_iff (l := js)]
      have : i ≠ j := Nat.ne_of_beq_eq_false h
      simp [this]
theorem nodupN_spec : ∀ {l : List Nat}, nodupN l = true → l.Nodup
  | [], _ => by simp
  | i::is, h => by
    simp only [nodupN] at h
    cases hm : memN i is with
    | true => simp [hm] at h
    | false =>
      simp [hm] at h
      have : ¬ i ∈ is := fun h' => by rw [memN_iff.2 h'] at hm;cases hm
      exact List.nodup_cons.2 ⟨this, nodupN_spec h⟩
theorem freshN_spec {H : Hp} : ∀ {l : List Nat}, freshN H l = true → ∀ i ∈ l, H.at i = none
  | [], _, i, hi => by cases hi
  | j::js, h, i, hi => by
    simp only [freshN] at h
    cases hj : H.at j with
    | some x => simp [hj] at h
    | none =>
      simp [hj] at h
      cases hi with
      | head => exact hj
      | tail _ hm => exact freshN_spec h i hm
theorem upds_zip_not {i : Nat} : ∀ (ns : List Nat) (H B : Hp), i ∉ ns → (H.upds (zipU ns B)).at i = H.at i
  | [], H, B, h => rfl
  | n::ns, H, [], h => by
    simp only [zipU, Hp.upds]
    rw [upds_zip_not ns _ [] (fun hm => h (List.mem_cons_of_mem _ hm)), Hp.at_put_ne]
    intro he;exact h (he ▸ List.mem_cons_self ..)
  | n::ns, H, b::bs, h => by
    simp only [zipU, Hp.upds]
    rw [upds_zip_not ns _ bs (fun hm => h (List.mem_cons_of_mem _ hm)), Hp.at_put_ne]
    intro he;exact h (he ▸ List.mem_cons_self ..)
theorem upds_zip_at : ∀ (ns : List Nat) (H B : Hp) (j i : Nat), ns.Nodup → ns[j]? = some i → (H.upds (zipU ns B)).at i = Hp.at B j
  | [], H, B, j, i, _, hj => by simp at hj
  | n::ns, H, [], j, i, hd, hj => by
    rw [List.nodup_cons] at hd
    simp only [zipU, Hp.upds]
    cases j with
    | zero =>
      simp at hj;subst hj
      rw [upds_zip_not ns _ [] hd.1, Hp.at_put_same, Hp.at_nil]
    | succ j =>
      rw [upds_zip_at ns _ [] j i hd.2 (by simpa using hj), Hp.at_nil, Hp.at_nil]
  | n::ns, H, b::bs, j, i, hd, hj => by
    rw [List.nodup_cons] at hd
    simp only [zipU, Hp.upds]
    cases j with
    | zero =>
      simp at hj;subst hj
      rw [upds_zip_not ns _ bs hd.1, Hp.at_put_same];rfl
    | succ j =>
      rw [upds_zip_at ns _ bs j i hd.2 (by simpa using hj)];rfl
open Classical in
noncomputable def others (H : Hp) (fp : List Nat) (w : World) (Rx : RO) : RO := ⟨fun b =>
    match Rx.mem b with
    | some o => some o
    | none => if ∃ i B, i ∉ fp∧H.at i = some (b, B) then w.heap[b]? else none, Rx.os, Rx.tape, Rx.out⟩
open Classical in
noncomputable def without (H : Hp) (fp : List Nat) (Rx : RO) : RO := ⟨fun b =>
    if ∃ i B, i ∉ fp∧H.at i = some (b, B) then none else Rx.mem b, Rx.os, Rx.tape, Rx.out⟩
open Classical in
theorem others_mem (H : Hp) (fp : List Nat) (w : World) (Rx : RO) (b : Nat) : (others H fp w Rx).mem b =
    match Rx.mem b with
    | some o => some o
    | none => if ∃ i B, i ∉ fp∧H.at i = some (b, B) then w.heap[b]? else none := rfl
open Classical in
theorem without_mem (H : Hp) (fp : List Nat) (Rx : RO) (b : Nat) : (without H fp Rx).mem b = if ∃ i B, i ∉ fp∧H.at i = some (b, B) then none else Rx.mem b := rfl
theorem at_map_fp {H : Hp} : ∀ {fp : List Nat} {j : Nat} {a : Nat} {B : Blk}, Hp.at (fp.map H.at) j = some (a, B) → ∃ i, fp[j]? = some i∧H.at i = some (a, B)
  | [], j, a, B, h => by simp [Hp.at_nil] at h
  | i::is, 0, a, B, h => ⟨i, rfl, h⟩
  | i::is, j + 1, a, B, h => by
    simp only [List.map_cons, Hp.at] at h
    obtain ⟨k, h1, h2⟩ := at_map_fp h
    exact ⟨k, by simpa using h1, h2⟩
theorem frame_gen {ε : Type} {T : (ε → World → Prop) → Prop} (hm : ∀ K K' : ε → World → Prop, T K → (∀ e w', K e w' → K' e w') → T K') {fin : Out → ε} {R : RO} {H : Hp} {fp nn : List Nat} {Q : Out → RO → Hp → Prop} {w : World}
    (hd : (fp ++ nn).Nodup) (hnn : ∀ i ∈ nn, H.at i = none)
    (hdoes : ∀ Rx, R.le Rx → Sat w Rx (fp.map H.at) → T fun e w' => ∃ o G B Rx', e = fin o∧Q o G B∧Ext R Rx G Rx'∧Sat w' Rx' B) {Rx : RO} (hR : R.le Rx) (hs : Sat w Rx H) :
    T fun e w' => ∃ o G B Rx', e = fin o∧Q o G B∧Ext R Rx G Rx'∧Sat w' Rx' (H.upds (zipU (fp ++ nn) B)) := by
  have hdfp : fp.Nodup := (List.nodup_append.1 hd).1
  have hinj : ∀ (j k i : Nat), fp[j]? = some i → fp[k]? = some i → j = k := fun j k i hj hk => by
    have h1 : j < fp.length := by
      rcases Nat.lt_or_ge j fp.length with h | h
      · exact h
      · simp [List.getElem?_eq_none h] at hj
    exact (List.getElem?_inj h1 hdfp).1 (hj.trans hk.symm)
  have hother : ∀ b, (∃ i B, i ∉ fp∧H.at i = some (b, B)) → Rx.mem b = none∧∃ o, w.heap[b]? = some o := fun b ⟨i, B, h1, h2⟩ => by
    refine ⟨hs.off i b B h2, ?_⟩
    have := Blk.at_lt (hs.own i b B h2)
    exact ⟨_, Array.getElem?_eq_getElem this⟩
  have hRc : Rx.le (others H fp w Rx) := ⟨fun b o hb => by simp [others, hb], rfl, rfl, rfl⟩
  have hsat : Sat w (others H fp w Rx) (fp.map H.at) := by
    refine ⟨fun b o hb => ?_, fun j a B hj => ?_, fun j a B hj => ?_, fun j k a B C hj hk => ?_, hs.os, hs.tape, hs.out⟩
    · rw [others_mem] at hb
      cases hx : Rx.mem b with
      | some o' => simp [hx] at hb;subst hb;exact hs.ro b o' hx
      | none =>
        simp only [hx] at hb
        split at hb
        · exact hb
        · cases hb
    · obtain ⟨i, h1, h2⟩ := at_map_fp hj
      exact hs.own i a B h2
    · obtain ⟨i, h1, h2⟩ := at_map_fp hj
      rw [others_mem]
      rw [hs.off i a B h2]
      simp only
      rw [if_neg]
      rintro ⟨i', B', h3, h4⟩
      have := hs.one _ _ _ _ _ h2 h4
      subst this
      exact h3 (List.mem_of_getElem? h1)
    · obtain ⟨i, h1, h2⟩ := at_map_fp hj
      obtain ⟨i', h3, h4⟩ := at_map_fp hk
      have := hs.one _ _ _ _ _ h2 h4
      subst this
      exact hinj _ _ _ h1 h3
  refine hm _ _ (hdoes (others H fp w Rx) (RO.le_trans hR hRc) hsat) ?_
  rintro e w' ⟨o, G, B, Rx', he, hq, hx, hs'⟩
  have hsome : ∀ b, (∃ i B, i ∉ fp∧H.at i = some (b, B)) → Rx'.mem b = w.heap[b]?∧w'.heap[b]? = w.heap[b]?∧Rx'.mem b ≠ none := fun b hb => by
    obtain ⟨h1, o', h2⟩ := hother b hb
    have h3 : (others H fp w Rx).mem b = some o' := by
      rw [others_mem]
      rw [h1];simp only;rw [if_pos hb, h2]
    have h4 := hx.lex.mem b o' h3
    exact ⟨by rw [h4, h2], by rw [hs'.ro b o' h4, h2], by rw [h4];simp⟩
  refine ⟨o, G, B, without H fp Rx', he, hq, ⟨hx.le, ⟨fun b o' hb => ?_, hx.lex.os, hx.lex.tape, hx.lex.out⟩, ⟨fun b o' hb => ?_, hx.leg.os, hx.leg.tape, hx.leg.out⟩, fun b hb => ?_⟩, ?_⟩
  · rw [without_mem]
    rw [if_neg]
    · exact hx.lex.mem b o' (hRc.mem b o' hb)
    · intro hb';rw [(hother b hb').1] at hb;cases hb
  · rw [without_mem]
    rw [if_neg]
    · exact hx.leg.mem b o' hb
    · intro hb'
      obtain ⟨h1, o'', h2⟩ := hother b hb'
      have h3 : (others H fp w Rx).mem b = some o'' := by
        rw [others_mem]
        rw [h1];simp only;rw [if_pos hb', h2]
      rcases hx.own b (by rw [hb];simp) with h4 | h4
      · cases hr : R.mem b with
        | none => exact h4 hr
        | some x => rw [hR.mem b x hr] at h1;cases h1
      · rw [h3] at h4;cases h4
  · rcases hx.own b hb with h4 | h4
    · exact .inl h4
    · right
      cases hr : Rx.mem b with
      | none => rfl
      | some x => rw [hRc.mem b x hr] at h4;cases h4
  · have hcase : ∀ i a C, (H.upds (zipU (fp ++ nn) B)).at i = some (a, C) → (∃ j, (fp ++ nn)[j]? = some i∧Hp.at B j = some (a, C)) ∨ (i ∉ fp∧i ∉ nn∧H.at i = some (a, C)) := by
      intro i a C hi
      by_cases hm : i ∈ fp ++ nn
      · obtain ⟨j, hj⟩ := List.getElem?_of_mem hm
        rw [upds_zip_at _ _ _ j i hd hj] at hi
        exact .inl ⟨j, hj, hi⟩
      · rw [upds_zip_not _ _ _ hm] at hi
        simp at hm
        exact .inr ⟨hm.1, hm.2, hi⟩
    refine ⟨fun b o' hb => ?_, fun i a C hi => ?_, fun i a C hi => ?_, fun i k a C D hi hk => ?_, hs'.os, hs'.tape, hs'.out⟩
    · rw [without_mem] at hb
      split at hb
      · cases hb
      · exact hs'.ro b o' hb
    · rcases hcase i a C hi with ⟨j, h1, h2⟩ | ⟨h1, h2, h3⟩
      · exact hs'.own j a C h2
      · exact Blk.at_heap (hs.own i a C h3) (hsome a ⟨i, C, h1, h3⟩).2.1
    · rcases hcase i a C hi with ⟨j, h1, h2⟩ | ⟨h1, h2, h3⟩
      · rw [without_mem]
        split
        · rfl
        · exact hs'.off j a C h2
      · rw [without_mem]
        rw [if_pos ⟨i, C, h1, h3⟩]
    · rcases hcase i a C hi with ⟨j, h1, h2⟩ | ⟨h1, h2, h3⟩ <;> rcases hcase k a D hk with ⟨j', h4, h5⟩ | ⟨h4, h5, h6⟩
      · have := hs'.one _ _ _ _ _ h2 h5
        subst this
        rw [h1] at h4
        exact Option.some.inj h4
      · exact ((hsome a ⟨k, D, h4, h6⟩).2.2 (hs'.off j a C h2)).elim
      · exact ((hsome a ⟨i, C, h1, h3⟩).2.2 (hs'.off j' a D h5)).elim
      · exact hs.one _ _ _ _ _ h3 h6
theorem call_frame {P : Program} {f : FuncId} {args : List Value} {R : RO} {H : Hp} {fp nn : List Nat} {Q : Out → RO → Hp → Prop}
    (hd : (fp ++ nn).Nodup) (hnn : ∀ i ∈ nn, H.at i = none) (hdoes : Does P f args R (fp.map H.at) Q) {Rx : RO} {w : World} (hR : R.le Rx) (hs : Sat w Rx H) :
    Calls P f args.toArray w fun e w' => ∃ o G B Rx', e = o.fin∧Q o G B∧Ext R Rx G Rx'∧Sat w' Rx' (H.upds (zipU (fp ++ nn) B)) :=
  frame_gen (T := fun K => Calls P f args.toArray w K) (fun _ _ h hk => h.mono hk) hd hnn (fun Rx hR hs => hdoes Rx w hR hs) hR hs
inductive PC where
  | app (t u ty : TypeId) (s x : Value)
  | cpy (t u ty : TypeId) (d s : Value)
  | len (t ty : TypeId) (x : Value)
  | del (t u ty : TypeId) (m k : Value)
  | clr (t ty : TypeId) (x : Value)
  | mks (t : TypeId) (l c : Value)
  | look (t : TypeId) (m k : Value) (ok : Bool)
  | mup (t : TypeId) (m k v : Value)
  | cnv (t u : TypeId) (x : Value)
  | slc (t : TypeId) (x : Value) (lo hi mx : Option Value)
  | ars (t : TypeId) (x : Value)
  | bld (t : TypeId) (ps : List (Nat×Value))
  | rng (t : TypeId) (x : Value)
  | nxt (t : TypeId) (x : Value) (b : Bool)
  | ent (x : Value)
def PC.sem : PC → Sem Value
  | .app t u ty s x => Builtin.append_ #[t, u] ty #[s, x]
  | .cpy t u ty d s => Builtin.copy_ #[t, u] ty #[d, s]
  | .len t ty x => Builtin.len_ #[t] ty #[x]
  | .del t u ty m k => Builtin.delete_ #[t, u] ty #[m, k]
  | .clr t ty x => Builtin.clear_ #[t] ty #[x]
  | .mks t l c => Instr.makeSlice t l c
  | .look t m k ok => Instr.lookup t m k ok
  | .mup t m k v => do Instr.mapUpdate t m k v;pure undef
  | .cnv t u x => convert t u x
  | .slc t x lo hi mx => Instr.sliceAt t x lo hi mx
  | .ars t x => Instr.arrayAt t x
  | .bld t ps => Instr.build t ps.toArray
  | .rng t x => Instr.range t x
  | .nxt t x b => Instr.next x b t
  | .ent x => Instr.entry x
def pcOf (ρ : Operand → Value) (o : Oper) : Option PC := match o.op with
  | .makeSlice t l c => some (.mks t (ρ l) (ρ c))
  | .lookup t m k ok => some (.look t (ρ m) (ρ k) ok)
  | .mapUpdate t m k v => some (.mup t (ρ m) (ρ k) (ρ v))
  | .convert t u x => some (.cnv t u (ρ x))
  | .slice t x lo hi mx => some (.slc t (ρ x) (lo.map ρ) (hi.map ρ) (mx.map ρ))
  | .sliceToArrayPointer t x => some (.ars t (ρ x))
  | .build t ⟨ps⟩ => some (.bld t (ps.map fun p => (p.1, ρ p.2)))
  | .range t x => some (.rng t (ρ x))
  | .next x b => some (.nxt o.type (ρ x) b)
  | .entry x => some (.ent (ρ x))
  | .call ⟨.builtin b, ⟨args⟩, ⟨ts⟩⟩ => match b, args, ts with
    | .append, [s, x], [t, u] => some (.app t u o.type (ρ s) (ρ x))
    | .copy, [s, x], [t, u] => some (.cpy t u o.type (ρ s) (ρ x))
    | .len, [x], [t] => some (.len t o.type (ρ x))
    | .delete, [s, x], [t, u] => some (.del t u o.type (ρ s) (ρ x))
    | .clear, [x], [t] => some (.clr t o.type (ρ x))
    | _, _, _ => none
  | _ => none
def unskip : Next → Next
  | .skip => .value undef
  | n => n
theorem pcOf_run {P : Program} {ρ : Operand → Value} {o : Oper} {c : PC} (h : pcOf ρ o = some c) {w w' : World} {v : Value} (hr : c.sem.run P w = .ok v w') :
    ∃ n, (execOp ρ o).run P w = .ok n w'∧unskip n = .value v∧(n = .skip ∨ n = .value v) := by
  obtain ⟨dst, op, type, pos, after, guard⟩ := o
  unfold pcOf at h
  split at h <;> rename_i ho <;> simp only at ho
  case h_11 =>
    subst ho
    (repeat' split at h) <;> cases h <;>
      (refine ⟨.value v, ?_, rfl, .inr rfl⟩;simp only [PC.sem] at hr;simp only [execOp, resolve, invoke, builtin, List.map_toArray, List.map_cons, List.map_nil, Sem.run_bind, Sem.run_pure, Result.andThen_ok, hr])
  case h_12 => cases h
  case h_3 =>
    subst ho;cases h
    simp only [PC.sem, Sem.run_bind] at hr
    cases hm : (Instr.mapUpdate _ _ _ _ : Sem Unit).run P w with
    | ok y w1 =>
      rw [hm] at hr
      simp only [Result.andThen_ok, Sem.run_pure, Result.ok.injEq] at hr
      obtain ⟨rfl, rfl⟩ := hr
      refine ⟨.skip, ?_, rfl, .inl rfl⟩
      simp only [execOp, Sem.run_bind, hm, Result.andThen_ok, Sem.run_pure]
    | halt e w1 => rw [hm] at hr;simp at hr
  all_goals
    subst ho;cases h
    refine ⟨.value v, ?_, rfl, .inr rfl⟩
    simp only [PC.sem] at hr
    first | (simp only [execOp, Sem.run_bind, hr, Result.andThen_ok, Sem.run_pure];done) | (simp only [execOp, List.map_toArray, Sem.run_bind, hr, Result.andThen_ok, Sem.run_pure])
def PrimOK (P : Program) (c : PC) (R : RO) (H : Hp) (X : Type) (q : X → Prop) (g : X → Value×Hp) : Prop :=
  ∀ Rx w, R.le Rx → Sat w Rx H → ∃ x w', c.sem.run P w = .ok (g x).1 w'∧q x∧Sat w' Rx (g x).2
def Prim0 (P : Program) (c : PC) (R : RO) (H : Hp) (v : Value) (B : Hp) : Prop :=
  ∀ Rx w, R.le Rx → Sat w Rx H → ∃ w', c.sem.run P w = .ok v w'∧Sat w' Rx B
def pureE (P : Program) : Sem Next → Option (FuncId×Array Value)
  | .pure (.enter f args) => some (f, args)
  | .program k => pureE P (k P)
  | .mark _ k => pureE P k
  | _ => none
theorem pureE_run {P : Program} : ∀ {s : Sem Next} {f : FuncId} {args : Array Value}, pureE P s = some (f, args) → ∀ w, s.run P w = .ok (.enter f args) w := by
  intro s
  induction s with
  | pure a => intro f args h w;cases a <;> simp [pureE] at h;obtain ⟨rfl, rfl⟩ := h;rfl
  | program k ih => intro f args h w;simp only [pureE] at h;exact ih P h w
  | mark m k ih => intro f args h w;simp only [pureE] at h;exact ih h w
  | _ => intro f args h;simp [pureE] at h
def pureP (P : Program) : Sem Next → Option Value
  | .halt (.panic v) => some v
  | .program k => pureP P (k P)
  | .mark _ k => pureP P k
  | _ => none
theorem pureP_run {P : Program} : ∀ {s : Sem Next} {v : Value}, pureP P s = some v → ∀ w, s.run P w = .halt (.panic v) w := by
  intro s
  induction s with
  | halt a => intro v h w;cases a <;> simp [pureP] at h;subst h;rfl
  | program k ih => intro v h w;simp only [pureP] at h;exact ih P h w
  | mark m k ih => intro v h w;simp only [pureP] at h;exact ih h w
  | _ => intro v h;simp [pureP] at h
def pureD (P : Program) : Sem Next → Option Deferred
  | .pure (.defer d) => some d
  | .program k => pureD P (k P)
  | .mark _ k => pureD P k
  | _ => none
theorem pureD_run {P : Program} : ∀ {s : Sem Next} {v : Deferred}, pureD P s = some v → ∀ w, s.run P w = .ok (.defer v) w := by
  intro s
  induction s with
  | pure a => intro v h w;cases a <;> simp [pureD] at h;subst h;rfl
  | program k ih => intro v h w;simp only [pureD] at h;exact ih P h w
  | mark m k ih => intro v h w;simp only [pureD] at h;exact ih h w
  | _ => intro v h;simp [pureD] at h
section
variable {P : Program} {o : Oper} {s : St} {R : RO}
theorem EffOK.call {f : FuncId} {args : Array Value} {fp nn : List Nat} {X : Type} {g : X → Value×Hp} (he : pureE P (execOp (ev s.tm) o) = some (f, args))
    (hd : nodupN (fp ++ nn) = true) (hn : freshN s.hp nn = true) :
    EffOK P o s R (.gen (Does P f args.toList R (fp.map s.hp.at) fun r G B => G = R∧∃ x, r = .ret (g x).1∧B = (g x).2) X (fun _ => True) fun x => ((g x).1, zipU (fp ++ nn) (g x).2)) := by
  intro k kp ⟨hp, hk⟩ Rx w hR hs next Q hnx hq
  unfold Oper.wp;rw [St.eval, pureE_run he w]
  rw [Oper.upon_enter]
  refine Calls.mono (call_frame (nodupN_spec hd) (freshN_spec hn) hp hR hs) ?_
  rintro e w' ⟨r, G, B, Rx', rfl, ⟨rfl, x, rfl, rfl⟩, hx, hs'⟩
  show next (s.act.put o.dst (g x).1) w'
  rw [St.put_set s _ _ (zipU (fp ++ nn) (g x).2)]
  exact hnx _ _ Rx' w' (hk x trivial) hx hs'
theorem EffOK.callG {f : FuncId} {args : Array Value} {fp nn : List Nat} {X : Type} {q : X → RO → Prop} {g : X → Value×Hp} (he : pureE P (execOp (ev s.tm) o) = some (f, args))
    (hd : nodupN (fp ++ nn) = true) (hn : freshN s.hp nn = true) :
    EffOK P o s R (.genG (Does P f args.toList R (fp.map s.hp.at) fun r G B => ∃ x, q x G∧r = .ret (g x).1∧B = (g x).2) X q fun x => ((g x).1, zipU (fp ++ nn) (g x).2)) := by
  intro k kp ⟨hp, hk⟩ Rx w hR hs next Q hnx hq
  unfold Oper.wp;rw [St.eval, pureE_run he w]
  rw [Oper.upon_enter]
  refine Calls.mono (call_frame (nodupN_spec hd) (freshN_spec hn) hp hR hs) ?_
  rintro e w' ⟨r, G, B, Rx', rfl, ⟨x, hqx, rfl, rfl⟩, hx, hs'⟩
  show next (s.act.put o.dst (g x).1) w'
  rw [St.put_set s _ _ (zipU (fp ++ nn) (g x).2)]
  exact hnx _ _ Rx' w' (hk x G hx.le hqx) hx hs'
theorem EffOK.call0 {f : FuncId} {args : Array Value} {fp nn : List Nat} {v : Value} {B : Hp} (he : pureE P (execOp (ev s.tm) o) = some (f, args))
    (hd : nodupN (fp ++ nn) = true) (hn : freshN s.hp nn = true) :
    EffOK P o s R (.det (Gives P f args.toList R (fp.map s.hp.at) (.ret v) B) v (zipU (fp ++ nn) B)) := by
  intro k kp ⟨hp, hk⟩ Rx w hR hs next Q hnx hq
  unfold Oper.wp;rw [St.eval, pureE_run he w]
  rw [Oper.upon_enter]
  refine Calls.mono (call_frame (nodupN_spec hd) (freshN_spec hn) hp hR hs) ?_
  rintro e w' ⟨r, G, B', Rx', rfl, ⟨rfl, rfl, rfl⟩, hx, hs'⟩
  show next (s.act.put o.dst v) w'
  rw [St.put_set s _ _ (zipU (fp ++ nn) B')]
  exact hnx _ _ Rx' w' hk hx hs'
theorem upds_keep : ∀ (fp : List Nat) (H H' : Hp), (∀ i ∈ fp, H'.at i = H.at i) → ∀ n, (H'.upds (zipU fp (fp.map H.at))).at n = H'.at n
  | [], H, H', h, n => rfl
  | i::fp, H, H', h, n => by
    have h1 := h i (List.mem_cons_self ..)
    have h2 : ∀ m, (H'.put i (H.at i)).at m = H'.at m := fun m => by
      by_cases he : m = i
      · subst he;rw [Hp.at_put_same, h1]
      · rw [Hp.at_put_ne _ _ _ _ (fun h => he h.symm)]
    show ((H'.put i (H.at i)).upds (zipU fp (fp.map H.at))).at n = _
    rw [upds_keep fp H (H'.put i (H.at i)) (fun m hm => (h2 m).trans (h m (List.mem_cons_of_mem _ hm))) n, h2]
theorem Sat.same {w : World} {R : RO} {H H' : Hp} (h : Sat w R H') (he : ∀ i, H'.at i = H.at i) : Sat w R H :=
  ⟨h.ro, fun i a B hi => h.own i a B ((he i).trans hi), fun i a B hi => h.off i a B ((he i).trans hi),
    fun i j a B C hi hj => h.one i j a B C ((he i).trans hi) ((he j).trans hj), h.os, h.tape, h.out⟩
theorem EffOK.callR {f : FuncId} {args : Array Value} {fp : List Nat} {v : Value} (he : pureE P (execOp (ev s.tm) o) = some (f, args))
    (hd : nodupN fp = true) :
    EffOK P o s R (.det (Gives P f args.toList R (fp.map s.hp.at) (.ret v) (fp.map s.hp.at)) v []) := by
  intro k kp ⟨hp, hk⟩ Rx w hR hs next Q hnx hq
  unfold Oper.wp;rw [St.eval, pureE_run he w]
  rw [Oper.upon_enter]
  refine Calls.mono (call_frame (fp := fp) (nn := []) (by rw [List.append_nil];exact nodupN_spec hd) (fun i hi => by cases hi) hp hR hs) ?_
  rintro e w' ⟨r, G, B', Rx', rfl, ⟨rfl, rfl, rfl⟩, hx, hs'⟩
  show next (s.act.put o.dst v) w'
  rw [St.put_set s _ _ []]
  rw [List.append_nil] at hs'
  exact hnx _ _ Rx' w' hk hx (hs'.same (fun n => upds_keep fp s.hp s.hp (fun _ _ => rfl) n))
theorem EffOK.callp {f : FuncId} {args : Array Value} {fp nn : List Nat} {v : Value} {B : Hp} (he : pureE P (execOp (ev s.tm) o) = some (f, args))
    (hd : nodupN (fp ++ nn) = true) (hn : freshN s.hp nn = true) :
    EffOK P o s R (.panc (Gives P f args.toList R (fp.map s.hp.at) (.pan v) B) v (zipU (fp ++ nn) B)) := by
  intro k kp ⟨hp, hk⟩ Rx w hR hs next Q hnx hq
  unfold Oper.wp;rw [St.eval, pureE_run he w]
  rw [Oper.upon_enter]
  refine Calls.mono (call_frame (nodupN_spec hd) (freshN_spec hn) hp hR hs) ?_
  rintro e w' ⟨r, G, B', Rx', rfl, ⟨rfl, rfl, rfl⟩, hx, hs'⟩
  show Q _ (St.act ⟨s.tm, s.df, s.hp.upds (zipU (fp ++ nn) B')⟩) w'
  exact hq v ⟨s.tm, s.df, s.hp.upds (zipU (fp ++ nn) B')⟩ _ Rx' w' hk hx hs'
theorem prim_frame {c : PC} {R : RO} {H : Hp} {fp nn : List Nat} {X : Type} {q : X → Prop} {g : X → Value×Hp} (hd : (fp ++ nn).Nodup) (hnn : ∀ i ∈ nn, H.at i = none)
    (hp : PrimOK P c R (fp.map H.at) X q g) {Rx : RO} {w : World} (hR : R.le Rx) (hs : Sat w Rx H) :
    ∃ v w', c.sem.run P w = .ok v w'∧∃ x Rx', q x∧v = (g x).1∧Ext R Rx R Rx'∧Sat w' Rx' (H.upds (zipU (fp ++ nn) (g x).2)) := by
  have := frame_gen (ε := Value) (T := fun K => ∃ v w', c.sem.run P w = .ok v w'∧K v w') (fun K K' ⟨v, w', h1, h2⟩ hk => ⟨v, w', h1, hk _ _ h2⟩)
    (fin := fun o => match o with | .ret v => v | .pan v => v) (R := R) (H := H) (fp := fp) (nn := nn) (Q := fun o G B => G = R∧∃ x, q x∧o = .ret (g x).1∧B = (g x).2) (w := w) hd hnn
    (fun Rx hR hs => by
      obtain ⟨x, w', h1, h2, h3⟩ := hp Rx w hR hs
      exact ⟨_, w', h1, .ret (g x).1, R, (g x).2, Rx, rfl, ⟨rfl, x, h2, rfl, rfl⟩, .refl hR, h3⟩) hR hs
  obtain ⟨v, w', h1, o, G, B, Rx', he, ⟨rfl, x, h2, rfl, rfl⟩, h3, h4⟩ := this
  exact ⟨v, w', h1, x, Rx', h2, he, h3, h4⟩
theorem EffOK.prim {c : PC} {fp nn : List Nat} {X : Type} {q : X → Prop} {g : X → Value×Hp} (he : pcOf (ev s.tm) o = some c)
    (hd : nodupN (fp ++ nn) = true) (hn : freshN s.hp nn = true) :
    EffOK P o s R (.gen (PrimOK P c R (fp.map s.hp.at) X q g) X q fun x => ((g x).1, zipU (fp ++ nn) (g x).2)) := by
  intro k kp ⟨hp, hk⟩ Rx w hR hs next Q hnx hq
  obtain ⟨v, w', h1, x, Rx', h2, rfl, h3, h4⟩ := prim_frame (nodupN_spec hd) (freshN_spec hn) hp hR hs
  obtain ⟨n, h5, _, h6⟩ := pcOf_run he h1
  unfold Oper.wp;rw [St.eval, h5]
  have hnx' := hnx _ _ Rx' w' (hk x h2) h3 h4
  rw [← St.put_set s _ _ (zipU (fp ++ nn) (g x).2)] at hnx'
  rcases h6 with rfl | rfl
  · have hv : (g x).1 = undef := by
      have := pcOf_run he h1
      obtain ⟨n', h7, h8, h9⟩ := this
      rw [h5] at h7
      cases h7
      simp only [unskip, Next.value.injEq] at h8
      exact h8.symm
    rw [hv] at hnx'
    exact hnx'
  · exact hnx'
theorem EffOK.prim0 {c : PC} {fp nn : List Nat} {v : Value} {B : Hp} (he : pcOf (ev s.tm) o = some c)
    (hd : nodupN (fp ++ nn) = true) (hn : freshN s.hp nn = true) :
    EffOK P o s R (.det (Prim0 P c R (fp.map s.hp.at) v B) v (zipU (fp ++ nn) B)) := by
  intro k kp ⟨hp, hk⟩ Rx w hR hs next Q hnx hq
  refine EffOK.prim (X := Unit) (q := fun _ => True) (g := fun _ => (v, B)) he hd hn k kp ⟨?_, fun _ _ => hk⟩ Rx w hR hs next Q hnx hq
  intro Rx w hR hs
  obtain ⟨w', h1, h2⟩ := hp Rx w hR hs
  exact ⟨(), w', h1, trivial, h2⟩
end
end Vc
set_option linter.unusedVariables false
set_option linter.unusedSimpArgs false
namespace Vc
open Go
inductive Hint : Type 1 where
  | d
  | nw
  | dv
  | sh
  | ix
  | ss
  | sl0
  | sl
  | ia
  | ib (B O : Nat)
  | p (i : Nat)
  | q (i : Nat) (v : List Nat → List Value → Value)
  | sq (i : Nat) (cs : List Nat → List Value → List Value)
  | ro (cs : List Value → List Value)
  | n (i : Nat)
  | cv (v : List Value → Value)
  | call (fp nn : List Nat) (X : Type) (g : List Nat → List Value → X → Value×Hp)
  | callG (fp nn : List Nat) (X : Type) (q : List Nat → List Value → X → RO → Prop) (g : List Nat → List Value → X → Value×Hp)
  | db (b : Bool)
  | call0 (fp nn : List Nat) (o : List Nat → List Value → Out) (B : List Nat → List Value → Hp)
  | callR (fp : List Nat) (o : List Nat → List Value → Out)
  | pr (fp nn : List Nat) (X : Type) (q : Hp → List Value → X → Prop) (g : Hp → List Value → X → Value×Hp)
  | pr0 (fp nn : List Nat) (v : List Nat → List Value → Value) (B : List Nat → List Value → Hp)
  | cat
  | eqs
  | pan
  | dfr
def adr (H : Hp) (i : Nat) : Nat := match H.at i with
  | some (a, _) => a
  | none => 0
def adrs (H : Hp) (l : List Nat) : List Nat := l.map (adr H)
def rowc (H : Hp) (i : Nat) : List Value := match H.at i with
  | some (_, .row cs _ _) => cs
  | _ => []
def opv (o : Oper) (tm : List Value) : List Value := o.op.operands.toList.map (ev tm)
section
variable (P : Program) (o : Oper) (s : St) (R : RO)
def effD : Eff := match pureN P (execOp (ev s.tm) o) with
  | some v => .val v
  | none => .no
theorem effD_ok : EffOK P o s R (effD P o s) := by
  unfold effD
  split
  · rename_i v h;exact .val (pureN_run h)
  · exact .no
def effDb (b : Bool) : Eff := match pureN P (execOp (ev s.tm) o) with
  | some (.bool c) => .det (c = b) (.bool b) []
  | _ => .no
theorem effDb_ok (b : Bool) : EffOK P o s R (effDb P o s b) := by
  unfold effDb
  split
  · rename_i c h;exact .det0 fun hb w Rx hR hs => by subst hb;exact pureN_run h w
  · exact .no
def kindOf (t : TypeId) : Option IntKind := match pureV P (underlying t) with
  | some (.int k) => some k
  | _ => none
theorem kindOf_run {t : TypeId} {k : IntKind} (h : kindOf P t = some k) (w : World) : (underlying t).run P w = .ok (.int k) w := by
  unfold kindOf at h
  split at h
  · rename_i k' h';simp at h;subst h;exact pureV_run h' w
  · cases h
def effNw : Eff := match o.op with
  | .binOp .add _ x y _ => match ev s.tm x, ev s.tm y with
    | .int k a, .int k' b => .det (k = k'∧k.wrap (a + b) = a + b) (.int k (a + b)) []
    | _, _ => .no
  | .binOp .sub _ x y _ => match ev s.tm x, ev s.tm y with
    | .int k a, .int k' b => .det (k = k'∧k.wrap (a - b) = a - b) (.int k (a - b)) []
    | _, _ => .no
  | .binOp .mul _ x y _ => match ev s.tm x, ev s.tm y with
    | .int k a, .int k' b => .det (k = k'∧k.wrap (a * b) = a * b) (.int k (a * b)) []
    | _, _ => .no
  | .convert src t x => match ev s.tm x, kindOf P src, kindOf P t with
    | .int _ a, some _, some k => .det (k.wrap a = a) (.int k a) []
    | _, _, _ => .no
  | _ => .no
theorem run_binOp_pure {op : BinOp} {t t' : TypeId} {x y : Operand} {tm : List Value} {v : Value} {w : World}
    (ho : o.op = .binOp op t x y t') (hg : (eqGuard op t x y (ev tm x) (ev tm y)).run P w = .ok () w) (h : (binOp op t (ev tm x) (ev tm y)).run P w = .ok v w) :
    (execOp (ev tm) o).run P w = .ok (.value v) w := by
  unfold execOp
  rw [ho]
  simp [hg, h]
theorem run_eqGuard_none {op : BinOp} {t : TypeId} {x y : Operand} {a b : Value} {w : World} (h : (op matches .eql | .neq) = false) :
    (eqGuard op t x y a b).run P w = .ok () w := by
  unfold eqGuard
  cases op <;> simp at h <;> rfl
theorem effNw_ok : EffOK P o s R (effNw P o s) := by
  unfold effNw
  split
  · rename_i x y t' ho
    split
    · rename_i k a k' b hx hy
      refine .det0 fun ⟨hk, hw⟩ w Rx hR hs => ?_
      subst hk
      refine run_binOp_pure P o ho (run_eqGuard_none P rfl) ?_
      rw [hx, hy]
      simp [binOp, Op.intArith, hw]
    · exact .no
  · rename_i x y t' ho
    split
    · rename_i k a k' b hx hy
      refine .det0 fun ⟨hk, hw⟩ w Rx hR hs => ?_
      subst hk
      refine run_binOp_pure P o ho (run_eqGuard_none P rfl) ?_
      rw [hx, hy]
      simp [binOp, Op.intArith, hw]
    · exact .no
  · rename_i x y t' ho
    split
    · rename_i k a k' b hx hy
      refine .det0 fun ⟨hk, hw⟩ w Rx hR hs => ?_
      subst hk
      refine run_binOp_pure P o ho (run_eqGuard_none P rfl) ?_
      rw [hx, hy]
      simp [binOp, Op.intArith, hw]
    · exact .no
  · rename_i src t x ho
    split
    · rename_i k a k' k'' hx hk' hk
      refine .det0 fun hw w Rx hR hs => ?_
      unfold execOp
      rw [ho]
      simp only [hx, convert, Sem.run_bind, kindOf_run P hk w, kindOf_run P hk' w, Result.andThen_ok, Conv.intToInt, Sem.run_pure, hw]
    · exact .no
  · exact .no
def effDv : Eff := match o.op with
  | .binOp .quo _ x y _ => match ev s.tm x, ev s.tm y with
    | .int k a, .int k' b => .det (k = k'∧b ≠ 0) (.int k (k.wrap (a.tdiv b))) []
    | _, _ => .no
  | .binOp .rem _ x y _ => match ev s.tm x, ev s.tm y with
    | .int k a, .int k' b => .det (k = k'∧b ≠ 0) (.int k (a.tmod b)) []
    | _, _ => .no
  | _ => .no
theorem effDv_ok : EffOK P o s R (effDv o s) := by
  unfold effDv
  split
  · rename_i x y t' ho
    split
    · rename_i k a k' b hx hy
      refine .det0 fun ⟨hk, hb⟩ w Rx hR hs => ?_
      subst hk
      refine run_binOp_pure P o ho (run_eqGuard_none P rfl) ?_
      rw [hx, hy]
      simp [binOp, Op.intDiv, hb]
    · exact .no
  · rename_i x y t' ho
    split
    · rename_i k a k' b hx hy
      refine .det0 fun ⟨hk, hb⟩ w Rx hR hs => ?_
      subst hk
      refine run_binOp_pure P o ho (run_eqGuard_none P rfl) ?_
      rw [hx, hy]
      simp [binOp, Op.intDiv, hb]
    · exact .no
  · exact .no
def effSh : Eff := match o.op with
  | .binOp .shl _ x y _ => match ev s.tm x, ev s.tm y with
    | .int k a, .int _ b => .det (0 ≤ b) (.int k (k.wrap (a * 2 ^ (min b.toNat k.bits)))) []
    | _, _ => .no
  | .binOp .shr _ x y _ => match ev s.tm x, ev s.tm y with
    | .int k a, .int _ b => .det (0 ≤ b) (.int k (a.fdiv (2 ^ (min b.toNat k.bits)))) []
    | _, _ => .no
  | _ => .no
theorem effSh_ok : EffOK P o s R (effSh o s) := by
  unfold effSh
  split
  · rename_i x y t' ho
    split
    · rename_i k a k' b hx hy
      refine .det0 fun hb w Rx hR hs => ?_
      refine run_binOp_pure P o ho (run_eqGuard_none P rfl) ?_
      rw [hx, hy]
      simp [binOp, Op.shift, show ¬ b < 0 by omega]
    · exact .no
  · rename_i x y t' ho
    split
    · rename_i k a k' b hx hy
      refine .det0 fun hb w Rx hR hs => ?_
      refine run_binOp_pure P o ho (run_eqGuard_none P rfl) ?_
      rw [hx, hy]
      simp [binOp, Op.shift, show ¬ b < 0 by omega]
    · exact .no
  · exact .no
def bt (s : ByteArray) (i : Int) : Int := ((s.data[i.toNat]?).getD 0).toNat
def effIx : Eff := match o.op with
  | .index t x i => match ev s.tm x, ev s.tm i, pureV P (underlying t) with
    | .string b, .int _ n, some .string => .det (0 ≤ n∧n < b.size) (.int .u8 (bt b n)) []
    | _, _, _ => .no
  | _ => .no
theorem effIx_ok : EffOK P o s R (effIx P o s) := by
  unfold effIx
  split
  · rename_i t x i ho
    split
    · rename_i b k n hx hi ht
      refine .det0 fun ⟨h0, h1⟩ w Rx hR hs => ?_
      unfold execOp
      rw [ho]
      simp only [hx, hi, Instr.index, asIntOf, Sem.run_bind, Sem.run_pure, Result.andThen_ok, pureV_run ht w]
      have hl : n.toNat < b.size := by omega
      have : b[n.toNat]? = some b[n.toNat] := by simp [hl]
      simp only [h0, if_true, this]
      have h2 : b.data[n.toNat]? = some b[n.toNat] := by
        have h3 : n.toNat < b.data.size := hl
        rw [Array.getElem?_eq_getElem h3];rfl
      simp only [bt, h2, Option.getD_some, Sem.run_bind, Sem.run_pure, Result.andThen_ok]
    · exact .no
  · exact .no
def effSs : Eff := match o.op with
  | .slice t x lo hi none => match ev s.tm x, pureV P (underlying t) with
    | .string b, some .string => match lo.map (ev s.tm), hi.map (ev s.tm) with
      | none, none => .val (.string b)
      | none, some (.int _ h) => .det (0 ≤ h∧h ≤ b.size) (.string (b.extract 0 h.toNat)) []
      | some (.int _ l), none => .det (0 ≤ l∧l ≤ b.size) (.string (b.extract l.toNat b.size)) []
      | some (.int _ l), some (.int _ h) => .det (0 ≤ l∧l ≤ h∧h ≤ b.size) (.string (b.extract l.toNat h.toNat)) []
      | _, _ => .no
    | _, _ => .no
  | _ => .no
theorem run_sliceBound {P : Program} {k : IntKind} {n : Int} {y : Nat} {code : BoundsCode} {w : World} (h0 : 0 ≤ n) (h1 : n ≤ y) :
    (Instr.sliceBound (.int k n) y code).run P w = .ok n.toNat w := by
  simp [Instr.sliceBound, asIntOf, h0, h1]
theorem effSs_ok : EffOK P o s R (effSs P o s) := by
  unfold effSs
  split
  · rename_i t x lo hi ho
    split
    · rename_i b hx ht
      split
      · rename_i hl hh
        refine .val fun w => ?_
        unfold execOp
        rw [ho]
        simp only [hx, hl, hh, Instr.sliceAt, Instr.slice, Sem.run_bind, pureV_run ht w, Result.andThen_ok, Instr.sliceBounds, Sem.run_pure, Option.isSome, Option.map_none, Bool.false_eq_true, if_false]
        congr 3
        exact ByteArray.extract_zero_size
      · rename_i k h hl hh
        refine .det0 fun ⟨h0, h1⟩ w Rx hR hs => ?_
        unfold execOp
        rw [ho]
        simp only [hx, hl, hh, Instr.sliceAt, Instr.slice, Sem.run_bind, pureV_run ht w, Result.andThen_ok, Instr.sliceBounds, Sem.run_pure, Option.isSome, Option.map_none, Bool.false_eq_true, if_false, run_sliceBound h0 h1]
      · rename_i k l hl hh
        refine .det0 fun ⟨h0, h1⟩ w Rx hR hs => ?_
        unfold execOp
        rw [ho]
        simp only [hx, hl, hh, Instr.sliceAt, Instr.slice, Sem.run_bind, pureV_run ht w, Result.andThen_ok, Instr.sliceBounds, Sem.run_pure, Option.isSome, Option.map_none, Bool.false_eq_true, if_false, run_sliceBound h0 h1]
      · rename_i k l k' h hl hh
        refine .det0 fun ⟨h0, h1, h2⟩ w Rx hR hs => ?_
        unfold execOp
        rw [ho]
        have h3 : l ≤ (h.toNat : Int) := by omega
        simp only [hx, hl, hh, Instr.sliceAt, Instr.slice, Sem.run_bind, pureV_run ht w, Result.andThen_ok, Instr.sliceBounds, Sem.run_pure, Option.isSome, Option.map_none, Bool.false_eq_true, if_false,
          run_sliceBound (show 0 ≤ h by omega) h2, run_sliceBound h0 h3]
      · exact .no
    · exact .no
  · exact .no
def effSl0 : Eff := match o.op with
  | .slice t x none (some hi) none => match ev s.tm x, ev s.tm hi, pureV P (underlying t) with
    | .slice a len cap, .int _ h, some (.slice e) => match pureV P (Go.sizeOf e) with
      | some _ => .det (0 ≤ h∧h ≤ cap) (.slice a h.toNat cap) []
      | none => .no
    | .pointer (some a), .int _ h, some (.array n e) => match pureV P (Go.sizeOf e) with
      | some _ => .det (0 ≤ h∧h ≤ n) (.slice (some a) h.toNat n) []
      | none => .no
    | _, _, _ => .no
  | .slice t x none none none => match ev s.tm x, pureV P (underlying t) with
    | .slice a len cap, some (.slice e) => match pureV P (Go.sizeOf e) with
      | some _ => .val (.slice a len cap)
      | none => .no
    | .pointer (some a), some (.array n e) => match pureV P (Go.sizeOf e) with
      | some _ => .val (.slice (some a) n n)
      | none => .no
    | _, _ => .no
  | _ => .no
theorem add_zero (a : Addr) : a.add 0 = a := rfl
theorem map_add_zero (a : Option Addr) : a.map (·.add 0) = a := by cases a <;> rfl
def effSl : Eff := match o.op with
  | .slice t x (some lo) none none => match ev s.tm x, ev s.tm lo, pureV P (underlying t) with
    | .slice (some ⟨b, off, none⟩) len cap, .int _ l, some (.slice e) => match pureV P (Go.sizeOf e) with
      | some z => .det (0 ≤ l∧l ≤ len∧l < cap) (.slice (some ⟨b, off + l.toNat * z, none⟩) (len - l.toNat) (cap - l.toNat)) []
      | none => .no
    | .pointer (some ⟨b, off, none⟩), .int _ l, some (.array n e) => match pureV P (Go.sizeOf e) with
      | some z => .det (0 ≤ l∧l < n) (.slice (some ⟨b, off + l.toNat * z, none⟩) (n - l.toNat) (n - l.toNat)) []
      | none => .no
    | _, _, _ => .no
  | .slice t x (some lo) (some hi) none => match ev s.tm x, ev s.tm lo, ev s.tm hi, pureV P (underlying t) with
    | .slice (some ⟨b, off, none⟩) len cap, .int _ l, .int _ h, some (.slice e) => match pureV P (Go.sizeOf e) with
      | some z => .det (0 ≤ l∧l ≤ h∧h ≤ cap∧l < cap) (.slice (some ⟨b, off + l.toNat * z, none⟩) (h.toNat - l.toNat) (cap - l.toNat)) []
      | none => .no
    | .pointer (some ⟨b, off, none⟩), .int _ l, .int _ h, some (.array n e) => match pureV P (Go.sizeOf e) with
      | some z => .det (0 ≤ l∧l ≤ h∧h ≤ n∧l < n) (.slice (some ⟨b, off + l.toNat * z, none⟩) (h.toNat - l.toNat) (n - l.toNat)) []
      | none => .no
    | _, _, _, _ => .no
  | _ => .no
theorem effSl0_ok : EffOK P o s R (effSl0 P o s) := by
  unfold effSl0
  split
  · rename_i t x hi ho
    split
    · rename_i a len cap k h e hx hh ht
      split
      · rename_i z hz
        refine .det0 fun ⟨h0, h1⟩ w Rx hR hs => ?_
        unfold execOp
        rw [ho]
        simp only [hx, Instr.sliceAt, Instr.slice, Instr.sureAddr, Sem.run_bind, pureV_run ht w, Result.andThen_ok, Instr.sliceBounds, Sem.run_pure, Option.map_none, Option.map_some, Option.isSome, Bool.false_eq_true, if_false, if_true,  hh, run_sliceBound h0 h1, pureV_run hz w, Nat.zero_mul, map_add_zero, ite_self, Nat.sub_zero]
      · exact .no
    · rename_i a k h n e hx hh ht
      split
      · rename_i z hz
        refine .det0 fun ⟨h0, h1⟩ w Rx hR hs => ?_
        unfold execOp
        rw [ho]
        simp only [hx, Instr.sliceAt, Instr.slice, Instr.sureAddr, Sem.run_bind, pureV_run ht w, Result.andThen_ok, Instr.sliceBounds, Sem.run_pure, Option.map_none, Option.map_some, Option.isSome, Bool.false_eq_true, if_false, if_true,  hh, run_sliceBound h0 h1, pureV_run hz w, Nat.zero_mul, add_zero, ite_self, Nat.sub_zero]
      · exact .no
    · exact .no
  · rename_i t x ho
    split
    · rename_i a len cap e hx ht
      split
      · rename_i z hz
        refine .val fun w => ?_
        unfold execOp
        rw [ho]
        simp only [hx, Instr.sliceAt, Instr.slice, Instr.sureAddr, Sem.run_bind, pureV_run ht w, Result.andThen_ok, Instr.sliceBounds, Sem.run_pure, Option.map_none, Option.map_some, Option.isSome, Bool.false_eq_true, if_false, if_true,  pureV_run hz w, Nat.zero_mul, map_add_zero, ite_self, Nat.sub_zero]
      · exact .no
    · rename_i a n e hx ht
      split
      · rename_i z hz
        refine .val fun w => ?_
        unfold execOp
        rw [ho]
        simp only [hx, Instr.sliceAt, Instr.slice, Instr.sureAddr, Sem.run_bind, pureV_run ht w, Result.andThen_ok, Instr.sliceBounds, Sem.run_pure, Option.map_none, Option.map_some, Option.isSome, Bool.false_eq_true, if_false, if_true,  pureV_run hz w, Nat.zero_mul, add_zero, ite_self, Nat.sub_zero]
      · exact .no
    · exact .no
  · exact .no
theorem effSl_ok : EffOK P o s R (effSl P o s) := by
  unfold effSl
  split
  · rename_i t x lo ho
    split
    · rename_i b off len cap k l e hx hl ht
      split
      · rename_i z hz
        refine .det0 fun ⟨h0, h1, h2⟩ w Rx hR hs => ?_
        unfold execOp
        rw [ho]
        simp only [hx, Instr.sliceAt, Instr.slice, Instr.sureAddr, Sem.run_bind, pureV_run ht w, Result.andThen_ok, Instr.sliceBounds, Sem.run_pure, Option.map_none, Option.map_some, Option.isSome, Bool.false_eq_true, if_false, if_true,  hl, run_sliceBound h0 h1, pureV_run hz w, add_eq]
        rw [if_neg (by omega)]
      · exact .no
    · rename_i b off k l n e hx hl ht
      split
      · rename_i z hz
        refine .det0 fun ⟨h0, h1⟩ w Rx hR hs => ?_
        unfold execOp
        rw [ho]
        simp only [hx, Instr.sliceAt, Instr.slice, Instr.sureAddr, Sem.run_bind, pureV_run ht w, Result.andThen_ok, Instr.sliceBounds, Sem.run_pure, Option.map_none, Option.map_some, Option.isSome, Bool.false_eq_true, if_false, if_true,  hl, run_sliceBound h0 (show l ≤ (n : Int) by omega), pureV_run hz w, add_eq]
        rw [if_neg (by omega)]
      · exact .no
    · exact .no
  · rename_i t x lo hi ho
    split
    · rename_i b off len cap k l k' h e hx hl hh ht
      split
      · rename_i z hz
        refine .det0 fun ⟨h0, h1, h2, h3⟩ w Rx hR hs => ?_
        unfold execOp
        rw [ho]
        simp only [hx, Instr.sliceAt, Instr.slice, Instr.sureAddr, Sem.run_bind, pureV_run ht w, Result.andThen_ok, Instr.sliceBounds, Sem.run_pure, Option.map_none, Option.map_some, Option.isSome, Bool.false_eq_true, if_false, if_true,  hl, hh, run_sliceBound (show 0 ≤ h by omega) h2, run_sliceBound h0 (show l ≤ (h.toNat : Int) by omega), pureV_run hz w, add_eq]
        rw [if_neg (by omega)]
      · exact .no
    · rename_i b off k l k' h n e hx hl hh ht
      split
      · rename_i z hz
        refine .det0 fun ⟨h0, h1, h2, h3⟩ w Rx hR hs => ?_
        unfold execOp
        rw [ho]
        simp only [hx, Instr.sliceAt, Instr.slice, Instr.sureAddr, Sem.run_bind, pureV_run ht w, Result.andThen_ok, Instr.sliceBounds, Sem.run_pure, Option.map_none, Option.map_some, Option.isSome, Bool.false_eq_true, if_false, if_true,  hl, hh, run_sliceBound (show 0 ≤ h by omega) h2, run_sliceBound h0 (show l ≤ (h.toNat : Int) by omega), pureV_run hz w, add_eq]
        rw [if_neg (by omega)]
      · exact .no
    · exact .no
  · exact .no
def effIa : Eff := match o.op with
  | .indexAddr t x i => match ev s.tm x, ev s.tm i, pureV P (underlying t) with
    | .slice (some ⟨b, off, none⟩) len _, .int _ n, some (.slice e) => match pureV P (Go.sizeOf e) with
      | some z => .det (0 ≤ n∧n < len) ((ptO b (off + n.toNat * z))) []
      | none => .no
    | .pointer (some ⟨b, off, none⟩), .int _ n, some (.array len e) => match pureV P (Go.sizeOf e) with
      | some z => .det (0 ≤ n∧n < len) ((ptO b (off + n.toNat * z))) []
      | none => .no
    | _, _, _ => .no
  | _ => .no
theorem effIa_ok : EffOK P o s R (effIa P o s) := by
  unfold effIa
  split
  · rename_i t x i ho
    split
    · rename_i b off len c k n e hx hi ht
      split
      · rename_i z hz
        refine .det0 fun ⟨h0, h1⟩ w Rx hR hs => ?_
        unfold execOp
        rw [ho]
        simp only [hx, hi, Instr.indexAt, asIntOf, Sem.run_bind, Sem.run_pure, Result.andThen_ok, pureV_run ht w]
        simp only [h0, h1, and_self, if_true, Sem.run_bind, pureV_run hz w, Result.andThen_ok, Sem.run_pure, add_eq]
      · exact .no
    · rename_i b off k n len e hx hi ht
      split
      · rename_i z hz
        refine .det0 fun ⟨h0, h1⟩ w Rx hR hs => ?_
        unfold execOp
        rw [ho]
        simp only [hx, hi, Instr.indexAt, asIntOf, Instr.sureAddr, Sem.run_bind, Sem.run_pure, Result.andThen_ok, pureV_run ht w]
        simp only [h0, h1, and_self, if_true, Sem.run_bind, pureV_run hz w, Result.andThen_ok, Sem.run_pure, add_eq]
      · exact .no
    · exact .no
  · exact .no
def effIb (B O : Nat) : Eff := match o.op with
  | .indexAddr t x i => match ev s.tm x, ev s.tm i, pureV P (underlying t) with
    | .slice a len _, .int _ n, some (.slice e) => match pureV P (Go.sizeOf e) with
      | some z => .det (a = some ⟨B, O, none⟩∧0 ≤ n∧n < len) ((ptO B (O + n.toNat * z))) []
      | none => .no
    | _, _, _ => .no
  | _ => .no
theorem effIb_ok (B O : Nat) : EffOK P o s R (effIb P o s B O) := by
  unfold effIb
  split
  · rename_i t x i ho
    split
    · rename_i a len c k n e hx hi ht
      split
      · rename_i z hz
        refine .det0 fun ⟨ha, h0, h1⟩ w Rx hR hs => ?_
        subst ha
        unfold execOp
        rw [ho]
        simp only [hx, hi, Instr.indexAt, asIntOf, Sem.run_bind, Sem.run_pure, Result.andThen_ok, pureV_run ht w]
        simp only [h0, h1, and_self, if_true, Sem.run_bind, pureV_run hz w, Result.andThen_ok, Sem.run_pure, add_eq]
      · exact .no
    · exact .no
  · exact .no
def effCat : Eff := match o.op with
  | .binOp .add _ x y _ => match ev s.tm x, ev s.tm y with
    | .string a, .string b => .det (a.size + b.size ≤ 9223372036854775807) (.string (a ++ b)) []
    | _, _ => .no
  | _ => .no
theorem effCat_ok : EffOK P o s R (effCat o s) := by
  unfold effCat
  split
  · rename_i t x y t' ho
    split
    · rename_i a b hx hy
      refine .det0 fun hb w Rx hR hs => ?_
      refine run_binOp_pure P o ho (run_eqGuard_none P rfl) ?_
      rw [hx, hy]
      have : ¬ (((a.size + b.size : Nat) : Int) > IntKind.i64.max) := by
        have h2 : IntKind.i64.max = 9223372036854775807 := rfl
        rw [h2];omega
      simp only [binOp, Op.stringOp]
      rw [if_neg this]
      rfl
    · exact .no
  · exact .no
def bAnd (k : IntKind) (x y : Int) : Int := k.wrap ((BitVec.ofInt k.bits x &&& BitVec.ofInt k.bits y).toNat : Int)
def bXor (k : IntKind) (x y : Int) : Int := k.wrap ((BitVec.ofInt k.bits x ^^^ BitVec.ofInt k.bits y).toNat : Int)
def sHl (k : IntKind) (x y : Int) : Int := k.wrap (x * 2 ^ (min y.toNat k.bits))
def sHr (k : IntKind) (x y : Int) : Int := x.fdiv (2 ^ (min y.toNat k.bits))
end
end Vc
set_option linter.unusedVariables false
set_option linter.unusedSimpArgs false
namespace Vc
open Go
section
variable (P : Program) (o : Oper) (s : St) (R : RO)
def effP (i : Nat) : Eff := match o.op with
  | .load t a => match ev s.tm a, s.hp.at i with
    | .pointer (some ⟨b, off, none⟩), some (ad, .row cs _ _) => match readVar P t cs off with
      | some v => .det (b = ad) v []
      | none => .no
    | _, _ => .no
  | .store t a x => match ev s.tm a, s.hp.at i with
    | .pointer (some ⟨b, off, none⟩), some (ad, .row cs t' n) => match writeVar P t cs off (ev s.tm x) with
      | some cs' => .det (b = ad) undef [(i, some (ad, .row cs' t' n))]
      | none => .no
    | _, _ => .no
  | _ => .no
theorem effP_ok (i : Nat) : EffOK P o s R (effP P o s i) := by
  unfold effP
  split
  · rename_i t a ho
    split
    · rename_i b off ad cs t' n ha hi
      split
      · rename_i v hv
        refine .det0 fun hb w Rx hR hs => ?_
        subst hb
        unfold execOp
        rw [ho]
        simp only [Instr.loadAt, ha, Instr.sureAddr, Sem.run_bind, Sem.run_pure, Result.andThen_ok,
          run_loadVar_of (P := P) (t := t) (fun i x hx => Blk.cells (hs.own _ _ _ hi) i x hx) hv]
      · exact .no
    · exact .no
  · rename_i t a x ho
    split
    · rename_i b off ad cs t' n ha hi
      split
      · rename_i cs' hv
        refine .det fun hb w Rx hR hs => ?_
        subst hb
        obtain ⟨w', h1, h2⟩ := run_storeVar_of hs hi hv
        refine ⟨w', .inr ⟨?_, rfl⟩, h2⟩
        unfold execOp
        rw [ho]
        simp only [Instr.storeAt, ha, Instr.sureAddr, Sem.run_bind, Sem.run_pure, Result.andThen_ok, h1]
      · exact .no
    · exact .no
  · exact .no
def effQ (i : Nat) (v : Value) : Eff := match o.op with
  | .load t a => match ev s.tm a, s.hp.at i with
    | .pointer (some ⟨b, off, none⟩), some (ad, .row cs _ _) => .det (b = ad∧readVar P t cs off = some v) v []
    | _, _ => .no
  | _ => .no
theorem effQ_ok (i : Nat) (v : Value) : EffOK P o s R (effQ P o s i v) := by
  unfold effQ
  split
  · rename_i t a ho
    split
    · rename_i b off ad cs t' n ha hi
      refine .det0 fun ⟨hb, hv⟩ w Rx hR hs => ?_
      subst hb
      unfold execOp
      rw [ho]
      simp only [Instr.loadAt, ha, Instr.sureAddr, Sem.run_bind, Sem.run_pure, Result.andThen_ok,
        run_loadVar_of (P := P) (t := t) (fun i x hx => Blk.cells (hs.own _ _ _ hi) i x hx) hv]
    · exact .no
  · exact .no
def effSq (i : Nat) (cs' : List Value) : Eff := match o.op with
  | .store t a x => match ev s.tm a, s.hp.at i with
    | .pointer (some ⟨b, off, none⟩), some (ad, .row cs t' n) => .det (b = ad∧writeVar P t cs off (ev s.tm x) = some cs') undef [(i, some (ad, .row cs' t' n))]
    | _, _ => .no
  | _ => .no
theorem effSq_ok (i : Nat) (cs' : List Value) : EffOK P o s R (effSq P o s i cs') := by
  unfold effSq
  split
  · rename_i t a x ho
    split
    · rename_i b off ad cs t' n ha hi
      refine .det fun ⟨hb, hv⟩ w Rx hR hs => ?_
      subst hb
      obtain ⟨w', h1, h2⟩ := run_storeVar_of hs hi hv
      refine ⟨w', .inr ⟨?_, rfl⟩, h2⟩
      unfold execOp
      rw [ho]
      simp only [Instr.storeAt, ha, Instr.sureAddr, Sem.run_bind, Sem.run_pure, Result.andThen_ok, h1]
    · exact .no
  · exact .no
theorem RO.cell_of {R Rx : RO} {H : Hp} {w : World} (hR : R.le Rx) (hs : Sat w Rx H) {ad off : Nat} {cs : List Value} (hc : R.cells ad off cs) :
    ∀ i x, cs[i]? = some x → w.cell? ⟨ad, off + i, none⟩ = some x := by
  obtain ⟨c, t, fr, h1, h2⟩ := hc
  intro i x hx
  have h3 := hs.ro _ _ (hR.mem _ _ h1)
  have hi : i < cs.length := by
    rcases Nat.lt_or_ge i cs.length with h | h
    · exact h
    · simp [List.getElem?_eq_none h] at hx
  rw [← h2, List.getElem?_take_of_lt hi, List.getElem?_drop] at hx
  simpa [World.cell?, h3] using hx
theorem run_loadVar_ro {w : World} {t : TypeId} {ad off : Nat} {cs : List Value} {v : Value}
    (hcell : ∀ i x, cs[i]? = some x → w.cell? ⟨ad, off + i, none⟩ = some x) (hr : readVar P t cs 0 = some v) :
    (loadVar t ⟨ad, off, none⟩).run P w = .ok v w := by
  unfold readVar at hr
  cases hi : tinfo P t with
  | none => simp [hi] at hr
  | some x =>
    obtain ⟨b, n⟩ := x
    obtain ⟨h1, h2⟩ := tinfo_run hi
    cases b with
    | true =>
      simp only [hi, List.drop_zero] at hr
      cases hl : takeL n cs with
      | none => simp [hl] at hr
      | some l =>
        simp [hl] at hr
        subst hr
        obtain ⟨hl1, hl2⟩ := takeL_some hl
        have hlen : l.length = n := by rw [hl1, List.length_take];omega
        have := run_loadCells_list (P := P) w ⟨ad, off, none⟩ l (fun j x hj => by
          rw [add_eq]
          apply hcell
          have hjl : j < n := by
            rcases Nat.lt_or_ge j n with h | h
            · exact h
            · rw [List.getElem?_eq_none (by omega)] at hj;cases hj
          rw [hl1, List.getElem?_take_of_lt hjl] at hj
          exact hj)
        rw [hlen] at this
        simp [loadVar, h1, h2, this]
    | false =>
      simp only [hi] at hr
      have := hcell _ _ hr
      simp at this
      simp [loadVar, h1, this]
def effRo (cs : List Value) : Eff := match o.op with
  | .load t a => match ev s.tm a, readVar P t cs 0 with
    | .pointer (some ⟨b, off, none⟩), some v => .det (R.cells b off cs) v []
    | _, _ => .no
  | _ => .no
theorem effRo_ok (cs : List Value) : EffOK P o s R (effRo P o s R cs) := by
  unfold effRo
  split
  · rename_i t a ho
    split
    · rename_i b off v ha hv
      refine .det0 fun hc w Rx hR hs => ?_
      unfold execOp
      rw [ho]
      simp only [Instr.loadAt, ha, Instr.sureAddr, Sem.run_bind, Sem.run_pure, Result.andThen_ok, run_loadVar_ro P (RO.cell_of hR hs hc) hv]
    · exact .no
  · exact .no
def bsl (t : TypeId) (len : Nat) (parts : List (Nat×Value)) : Option (TypeId×Array Value) :=
  match pureV P (underlying t) with
  | some (.slice e) => match pureV P (Go.sizeOf e), pureV P (zeroValue e) with
    | some z, some zv => match Nat.ble (len * z) (2 ^ 24) with
      | true => match Instr.fill (fun i => some (i * z, z)) ((Array.range (len * z)).map (zv.cells[· % zv.cells.size]!)) parts with
        | some cells => some (e, cells)
        | none => none
      | false => none
    | _, _ => none
  | _ => none
def effN (i : Nat) : Eff := match s.hp.at i with
  | some _ => .no
  | none => match o.op with
    | .alloc e => match pureV P (zeroValue e) with
      | some z => .new fun a => (ptA a, [(i, some (a, .row z.cells.toList e z.cells.toList.length))])
      | none => .no
    | .box e x => .new fun a => (ptA a, [(i, some (a, .row (ev s.tm x).cells.toList e (ev s.tm x).cells.toList.length))])
    | .makeMap t none => .new fun a => (.map (some a), [(i, some (a, .map [] 0))])
    | .buildSlice t len parts => match bsl P t len (parts.map fun (i, x) => (i, ev s.tm x)).toList with
      | some (e, cells) => .new fun a => (slA a len len, [(i, some (a, .row cells.toList e cells.toList.length))])
      | none => .no
    | _ => .no
theorem row_at {w w' : World} {c : Array Value} {t : TypeId} (h : w'.heap = w.heap.push (.cells c t (0, 0))) : (Blk.row c.toList t c.toList.length).at w' w.heap.size :=
  ⟨c, 0, 0, by rw [h];simp, by simp, List.take_length, by omega⟩
theorem effN_ok (i : Nat) : EffOK P o s R (effN P o s i) := by
  unfold effN
  split
  · exact .no
  · rename_i hi
    split
    · rename_i e ho
      split
      · rename_i z hz
        refine .new fun w Rx hR hs => ⟨w.heap.size, { w with heap := w.heap.push (.cells z.cells e (0, 0)) }, ?_, hs.put_new rfl hi (row_at rfl) ⟨rfl, rfl, rfl⟩⟩
        unfold execOp
        rw [ho]
        simp [Instr.alloc, pureV_run hz w, newVar, newRow]
      · exact .no
    · rename_i e x ho
      refine .new fun w Rx hR hs => ⟨w.heap.size, { w with heap := w.heap.push (.cells (ev s.tm x).cells e (0, 0)) }, ?_, hs.put_new rfl hi (row_at rfl) ⟨rfl, rfl, rfl⟩⟩
      unfold execOp
      rw [ho]
      simp [Instr.box, newVar, newRow]
    · rename_i t ho
      refine .new fun w Rx hR hs => ⟨w.heap.size, { w with heap := w.heap.push (.map #[] 0) }, ?_, hs.put_new rfl hi ?_ ⟨rfl, rfl, rfl⟩⟩
      · unfold execOp
        rw [ho]
        simp [Instr.makeMap]
      · show (_ : Option Obj) = _
        simp
    · rename_i t len parts ho
      split
      · rename_i e cells hb
        refine .new fun w Rx hR hs => ⟨w.heap.size, { w with heap := w.heap.push (.cells cells e (0, 0)) }, ?_, hs.put_new rfl hi (row_at rfl) ⟨rfl, rfl, rfl⟩⟩
        unfold bsl at hb
        split at hb
        · rename_i e' ht
          split at hb
          · rename_i z zv hz hzv
            split at hb
            · rename_i h2
              split at hb
              · rename_i cells' hf
                simp at hb
                obtain ⟨rfl, rfl⟩ := hb
                have h2' := Nat.le_of_ble_eq_true h2
                unfold execOp
                rw [ho]
                simp only [Instr.buildSlice, Sem.run_bind, pureV_run ht w, pureV_run hz w, Result.andThen_ok]
                rw [if_neg (by omega)]
                by_cases h0 : len * z = 0
                · rw [if_pos h0]
                  rw [h0, show Array.range 0 = #[] from rfl] at hf ⊢
                  have hf2 : Instr.fill (fun i => some (i * z, z)) #[] (List.map (fun x => (x.fst, ev s.tm x.snd)) parts.toList) = some cells' := by simpa using hf
                  simp [hf2, newRow]
                · rw [if_neg h0]
                  simp only [Sem.run_bind, pureV_run hzv w, Result.andThen_ok, Sem.run_pure, hf]
                  simp [newRow]
              · cases hb
            · cases hb
          · cases hb
        · cases hb
      · exact .no
    · exact .no
def vEq : List Value → List Value → Bool
  | [], [] => true
  | .int _ a::xs, .int _ b::ys => a == b && vEq xs ys
  | _, _ => false
def IntRow (k : IntKind) (n : Nat) (xs : List Value) : Prop := xs.length = n∧∀ v ∈ xs, ∃ i, v = .int k i
def allP : List Prop → Prop
  | [] => True
  | [p] => p
  | p::ps => p∧allP ps
theorem allP_cons {p : Prop} {ps : List Prop} (h : allP (p::ps)) : p∧allP ps := by
  cases ps with
  | nil => exact ⟨h, trivial⟩
  | cons q qs => exact h
theorem allP_append : ∀ {ps qs : List Prop}, allP (ps ++ qs) → allP ps∧allP qs
  | [], qs, h => ⟨trivial, h⟩
  | p::ps, qs, h => by
    obtain ⟨h1, h2⟩ := allP_cons (ps := ps ++ qs) h
    obtain ⟨h3, h4⟩ := allP_append h2
    refine ⟨?_, h4⟩
    cases ps with
    | nil => exact h1
    | cons q qs => exact ⟨h1, h3⟩
mutual
def eqV : Nat → TypeId → Value → Value → Option (List Prop×Bool)
  | 0, _, _, _ => none
  | n + 1, t, x, y => match pureV P (underlying t), x, y with
    | some .bool, .bool a, .bool b => some ([], a == b)
    | some (.int _), .int k a, .int k' b => match decide (k = k') with
      | true => some ([], a == b)
      | false => none
    | some .string, .string a, .string b => some ([], a == b)
    | some (.struct fs), .agg xs, .agg ys => match P.stoodInHeld t with
      | false => eqFs n fs.toList xs.toList ys.toList
      | true => none
    | some (.array m e), .agg xs, .agg ys => match n, pureV P (underlying e), tinfo P e with
      | _ + 1, some (.int k), some (false, 1) => some ([IntRow k m xs.toList, IntRow k m ys.toList], vEq xs.toList ys.toList)
      | _, _, _ => none
    | _, _, _ => none
def eqFs : Nat → List Field → List Value → List Value → Option (List Prop×Bool)
  | 0, _, _, _ => none
  | _ + 1, [], _, _ => some ([], true)
  | n + 1, f::fs, xs, ys => match decide (f.name ≠ "_"), readVar P f.type xs f.offset, readVar P f.type ys f.offset with
    | true, some a, some b => match eqV n f.type a b, eqFs n fs xs ys with
      | some (ps, p), some (qs, q) => some (ps ++ qs, p && q)
      | _, _ => none
    | _, _, _ => none
end
theorem run_part {t : TypeId} {xs : List Value} {off : Nat} {v : Value} {w : World} (h : readVar P t xs off = some v) : (part t xs.toArray off).run P w = .ok v w := by
  unfold readVar at h
  cases hi : tinfo P t with
  | none => simp [hi] at h
  | some x =>
    obtain ⟨b, n⟩ := x
    obtain ⟨h1, h2⟩ := tinfo_run hi
    cases b with
    | true =>
      simp only [hi] at h
      cases hl : takeL n (xs.drop off) with
      | none => simp [hl] at h
      | some l =>
        simp [hl] at h
        subst h
        obtain ⟨hl1, hl2⟩ := takeL_some hl
        simp only [part, Sem.run_bind, h1, Result.andThen_ok, if_true, h2, Sem.run_pure]
        congr 2
        apply Array.ext'
        simp [hl1, List.take_drop]
    | false =>
      simp only [hi] at h
      simp [part, h1, h]
def eqStep (d : Nat) (xs ys : Array Value) (f : Field) (s : Option Bool×Unit) : Sem (ForInStep (Option Bool×Unit)) :=
  if f.name ≠ "_" then do
    let a ← part f.type xs f.offset
    let b ← part f.type ys f.offset
    let r ← Op.equalIn d f.type a b
    if (!r) = true then pure (ForInStep.done (some false, ())) else pure (ForInStep.yield (none, ()))
  else pure (ForInStep.yield (none, ()))
def eqStepA (d : Nat) (xs ys : Array Value) (e n : Nat) (i : Nat) (s : Option Bool×Unit) : Sem (ForInStep (Option Bool×Unit)) := do
  let a ← part e xs (i * n)
  let b ← part e ys (i * n)
  let r ← Op.equalIn d e a b
  if (!r) = true then pure (ForInStep.done (some false, ())) else pure (ForInStep.yield (none, ()))
theorem eq_row {k : IntKind} {e : TypeId} (he : pureV P (underlying e) = some (.int k)) (ht : tinfo P e = some (false, 1)) (d : Nat) (xs ys : Array Value) (w : World) : ∀ (l i : Nat) (us vs : List Value),
    xs.toList.drop i = us → ys.toList.drop i = vs → IntRow k l us → IntRow k l vs →
    (forIn (List.range' i l) ((none : Option Bool), ()) (eqStepA (d + 1) xs ys e 1)).run P w = .ok (if vEq us vs then none else some false, ()) w
  | 0, i, us, vs, h1, h2, ⟨h3, _⟩, ⟨h4, _⟩ => by
    cases List.length_eq_zero_iff.1 h3
    cases List.length_eq_zero_iff.1 h4
    simp [vEq]
  | l + 1, i, [], vs, h1, h2, ⟨h3, _⟩, ⟨h4, _⟩ => by simp at h3
  | l + 1, i, u::us, [], h1, h2, ⟨h3, _⟩, ⟨h4, _⟩ => by simp at h4
  | l + 1, i, u::us, v::vs, h1, h2, ⟨h3, h3'⟩, ⟨h4, h4'⟩ => by
    obtain ⟨a, rfl⟩ := h3' u (List.mem_cons_self ..)
    obtain ⟨b, rfl⟩ := h4' v (List.mem_cons_self ..)
    have g1 : xs.toList[i]? = some (.int k a) := by
      have := congrArg (·[0]?) h1;simpa using this
    have g2 : ys.toList[i]? = some (.int k b) := by
      have := congrArg (·[0]?) h2;simpa using this
    have r1 : (part e xs (i * 1)).run P w = .ok (.int k a) w := by
      have := run_part P (t := e) (xs := xs.toList) (off := i * 1) (v := .int k a) (w := w) (by unfold readVar;rw [ht];simpa using g1)
      simpa using this
    have r2 : (part e ys (i * 1)).run P w = .ok (.int k b) w := by
      have := run_part P (t := e) (xs := ys.toList) (off := i * 1) (v := .int k b) (w := w) (by unfold readVar;rw [ht];simpa using g2)
      simpa using this
    have r3 : (Op.equalIn (d + 1) e (.int k a) (.int k b)).run P w = .ok (a == b) w := by
      unfold Op.equalIn
      simp only [Sem.run_bind, pureV_run he w, Result.andThen_ok, if_true, Sem.run_pure]
    have ih := eq_row he ht d xs ys w l (i + 1) us vs (by rw [← List.drop_drop, h1];rfl) (by rw [← List.drop_drop, h2];rfl) ⟨by simpa using h3, fun v hv => h3' v (List.mem_cons_of_mem _ hv)⟩ ⟨by simpa using h4, fun v hv => h4' v (List.mem_cons_of_mem _ hv)⟩
    rcases Bool.eq_false_or_eq_true (a == b) with hab | hab
    · have hv : vEq (.int k a::us) (.int k b::vs) = vEq us vs := by simp only [vEq, hab, Bool.true_and]
      rw [hab] at r3
      rw [hv]
      simp only [List.range'_succ, List.forIn_cons, Sem.run_bind]
      have e1 : (eqStepA (d + 1) xs ys e 1 i (none, ())).run P w = .ok (ForInStep.yield (none, ())) w := by
        simp only [eqStepA, Sem.run_bind, r1, r2, r3, Result.andThen_ok, Bool.not_true, Bool.false_eq_true, if_false, Sem.run_pure]
      rw [e1]
      exact ih
    · have hv : vEq (.int k a::us) (.int k b::vs) = false := by simp only [vEq, hab, Bool.false_and]
      rw [hab] at r3
      rw [hv]
      simp only [List.range'_succ, List.forIn_cons, Sem.run_bind]
      have e1 : (eqStepA (d + 1) xs ys e 1 i (none, ())).run P w = .ok (ForInStep.done (some false, ())) w := by
        simp only [eqStepA, Sem.run_bind, r1, r2, r3, Result.andThen_ok, Bool.not_false, if_true, Sem.run_pure]
      rw [e1]
      rfl
theorem eq_sound : ∀ (n : Nat),
    (∀ (t : TypeId) (x y : Value) (ps : List Prop) (b : Bool) (d : Nat) (w : World), eqV P n t x y = some (ps, b) → allP ps → n ≤ d → (Op.equalIn d t x y).run P w = .ok b w) ∧
    (∀ (fs : List Field) (xs ys : List Value) (ps : List Prop) (b : Bool) (d : Nat) (w : World), eqFs P n fs xs ys = some (ps, b) → allP ps → n ≤ d + 1 →
      (forIn fs ((none : Option Bool), ()) (eqStep d xs.toArray ys.toArray)).run P w = .ok (if b then none else some false, ()) w) := by
  intro n
  induction n with
  | zero => exact ⟨fun _ _ _ _ _ _ _ h => by simp [eqV] at h, fun _ _ _ _ _ _ _ h => by simp [eqFs] at h⟩
  | succ n ih =>
    constructor
    · intro t x y ps b d w h hp hd
      obtain ⟨d, rfl⟩ : ∃ m, d = m + 1 := ⟨d - 1, by omega⟩
      unfold eqV at h
      split at h
      · rename_i a b' ht
        simp at h;obtain ⟨rfl, rfl⟩ := h
        unfold Op.equalIn
        simp only [Sem.run_bind, pureV_run ht w, Result.andThen_ok, Sem.run_pure]
      · rename_i q k a k' b' ht
        split at h
        · rename_i hk
          simp at hk h;subst hk;obtain ⟨rfl, rfl⟩ := h
          unfold Op.equalIn
          simp only [Sem.run_bind, pureV_run ht w, Result.andThen_ok, if_true, Sem.run_pure]
        · cases h
      · rename_i a b' ht
        simp at h;obtain ⟨rfl, rfl⟩ := h
        unfold Op.equalIn
        simp only [Sem.run_bind, pureV_run ht w, Result.andThen_ok, Sem.run_pure]
      · rename_i fs xs ys ht
        split at h
        · rename_i hst
          have := ih.2 fs.toList xs.toList ys.toList ps b d w h hp (by omega)
          unfold Op.equalIn
          simp only [Sem.run_bind, pureV_run ht w, Result.andThen_ok, run_program, hst, Bool.false_eq_true, if_false]
          rw [← Array.forIn_toList]
          have e : (forIn fs.toList ((none : Option Bool), ()) (eqStep d xs.toList.toArray ys.toList.toArray)).run P w = .ok (if b then none else some false, ()) w := this
          simp only [Array.toArray_toList] at e
          unfold eqStep at e
          rw [e]
          cases b <;> rfl
        · cases h
      · rename_i m e xs ys ht
        split at h
        · rename_i n' k he hi
          simp only [Option.some.injEq, Prod.mk.injEq] at h
          obtain ⟨rfl, rfl⟩ := h
          obtain ⟨h1, h2⟩ := hp
          obtain ⟨d, rfl⟩ : ∃ m, d = m + 1 := ⟨d - 1, by omega⟩
          have := eq_row P he hi d xs ys w m 0 xs.toList ys.toList (by simp) (by simp) h1 h2
          unfold Op.equalIn
          simp only [Sem.run_bind, pureV_run ht w, Result.andThen_ok, (tinfo_run hi).2 w]
          rw [Std.Legacy.Range.forIn_eq_forIn_range']
          unfold eqStepA at this
          simp only [Std.Legacy.Range.size, Nat.sub_zero, Nat.add_sub_cancel, Nat.div_one] at this ⊢
          rw [this]
          cases vEq xs.toList ys.toList <;> rfl
        · cases h
      · cases h
    · intro fs xs ys ps b d w h hp hd
      cases fs with
      | nil =>
        simp [eqFs] at h;obtain ⟨rfl, rfl⟩ := h
        simp
      | cons f fs =>
        simp only [eqFs] at h
        split at h
        · rename_i a b' hn ha hb
          split at h
          · rename_i qs q qs' q' h1 h2
            simp only [Option.some.injEq, Prod.mk.injEq] at h
            obtain ⟨rfl, rfl⟩ := h
            obtain ⟨p1, p2⟩ := allP_append hp
            have i1 := ih.1 f.type a b' qs q d w h1 p1 (by omega)
            have i2 := ih.2 fs xs ys qs' q' d w h2 p2 (by omega)
            have hn' : f.name ≠ "_" := by simpa using hn
            simp only [List.forIn_cons, Sem.run_bind]
            have e1 : (eqStep d xs.toArray ys.toArray f (none, ())).run P w = .ok (if (!q) = true then ForInStep.done (some false, ()) else ForInStep.yield (none, ())) w := by
              unfold eqStep
              rw [if_pos hn']
              simp only [Sem.run_bind, run_part P ha, run_part P hb, Result.andThen_ok, i1]
              cases q <;> rfl
            rw [e1]
            cases q with
            | true => simp only [Bool.not_true, Bool.false_eq_true, if_false, Result.andThen_ok, Bool.true_and];exact i2
            | false => simp
          · cases h
        · cases h
def effEq : Eff := match o.op with
  | .binOp .eql t x y _ => match ev s.tm x, ev s.tm y, pureV P (eqGuard .eql t x y (ev s.tm x) (ev s.tm y)) with
    | .agg xs, .agg ys, some () => match eqV P 40 t (.agg xs) (.agg ys) with
      | some ([], b) => .val (.bool b)
      | some (ps, b) => .det (allP ps) (.bool b) []
      | none => .no
    | _, _, _ => .no
  | .binOp .neq t x y _ => match ev s.tm x, ev s.tm y, pureV P (eqGuard .neq t x y (ev s.tm x) (ev s.tm y)) with
    | .agg xs, .agg ys, some () => match eqV P 40 t (.agg xs) (.agg ys) with
      | some ([], b) => .val (.bool !b)
      | some (ps, b) => .det (allP ps) (.bool !b) []
      | none => .no
    | _, _, _ => .no
  | _ => .no
theorem effEq_ok : EffOK P o s R (effEq P o s) := by
  unfold effEq
  split
  · rename_i t x y t' ho
    split
    · rename_i xs ys hx hy hg
      have key : ∀ ps b, eqV P 40 t (.agg xs) (.agg ys) = some (ps, b) → allP ps → ∀ w : World, (execOp (ev s.tm) o).run P w = .ok (.value (.bool b)) w := by
        intro ps b he hp w
        refine run_binOp_pure P o ho (pureV_run hg w) ?_
        rw [hx, hy]
        simp only [binOp, Sem.run_bind, Op.equal, (eq_sound P 40).1 t _ _ ps b Op.maxDepth w he hp (by decide), Result.andThen_ok, Sem.run_pure]
      split
      · rename_i b he;exact .val (key [] b he trivial)
      · rename_i ps b hne he;exact .det0 fun hp w Rx hR hs => key ps b he hp w
      · exact .no
    · exact .no
  · rename_i t x y t' ho
    split
    · rename_i xs ys hx hy hg
      have key : ∀ ps b, eqV P 40 t (.agg xs) (.agg ys) = some (ps, b) → allP ps → ∀ w : World, (execOp (ev s.tm) o).run P w = .ok (.value (.bool !b)) w := by
        intro ps b he hp w
        refine run_binOp_pure P o ho (pureV_run hg w) ?_
        rw [hx, hy]
        simp only [binOp, Sem.run_bind, Op.equal, (eq_sound P 40).1 t _ _ ps b Op.maxDepth w he hp (by decide), Result.andThen_ok, Sem.run_pure]
      split
      · rename_i b he;exact .val (key [] b he trivial)
      · rename_i ps b hne he;exact .det0 fun hp w Rx hR hs => key ps b he hp w
      · exact .no
    · exact .no
  · exact .no
def effCv (v : Value) : Eff := .det (∀ w : World, (execOp (ev s.tm) o).run P w = .ok (.value v) w) v []
theorem effCv_ok (v : Value) : EffOK P o s R (effCv P o s v) := .det0 fun h w Rx hR hs => h w
def effCall (fp nn : List Nat) (X : Type) (g : X → Value×Hp) : Eff :=
  match pureE P (execOp (ev s.tm) o), nodupN (fp ++ nn), freshN s.hp nn with
  | some (f, args), true, true => .gen (Does P f args.toList R (fp.map s.hp.at) fun r G B => G = R∧∃ x, r = .ret (g x).1∧B = (g x).2) X (fun _ => True) fun x => ((g x).1, zipU (fp ++ nn) (g x).2)
  | _, _, _ => .no
theorem effCall_ok (fp nn : List Nat) (X : Type) (g : X → Value×Hp) : EffOK P o s R (effCall P o s R fp nn X g) := by
  unfold effCall
  split
  · rename_i f args h1 h2 h3;exact .call h1 h2 h3
  · exact .no
def effCallG (fp nn : List Nat) (X : Type) (q : X → RO → Prop) (g : X → Value×Hp) : Eff :=
  match pureE P (execOp (ev s.tm) o), nodupN (fp ++ nn), freshN s.hp nn with
  | some (f, args), true, true => .genG (Does P f args.toList R (fp.map s.hp.at) fun r G B => ∃ x, q x G∧r = .ret (g x).1∧B = (g x).2) X q fun x => ((g x).1, zipU (fp ++ nn) (g x).2)
  | _, _, _ => .no
theorem effCallG_ok (fp nn : List Nat) (X : Type) (q : X → RO → Prop) (g : X → Value×Hp) : EffOK P o s R (effCallG P o s R fp nn X q g) := by
  unfold effCallG
  split
  · rename_i f args h1 h2 h3;exact .callG h1 h2 h3
  · exact .no
def effCall0 (fp nn : List Nat) (r : Out) (B : Hp) : Eff :=
  match pureE P (execOp (ev s.tm) o), nodupN (fp ++ nn), freshN s.hp nn with
  | some (f, args), true, true => match r with
    | .ret v => .det (Gives P f args.toList R (fp.map s.hp.at) (.ret v) B) v (zipU (fp ++ nn) B)
    | .pan v => .panc (Gives P f args.toList R (fp.map s.hp.at) (.pan v) B) v (zipU (fp ++ nn) B)
  | _, _, _ => .no
theorem effCall0_ok (fp nn : List Nat) (r : Out) (B : Hp) : EffOK P o s R (effCall0 P o s R fp nn r B) := by
  unfold effCall0
  split
  · rename_i f args h1 h2 h3
    split
    · exact .call0 h1 h2 h3
    · exact .callp h1 h2 h3
  · exact .no
def effCallR (fp : List Nat) (r : Out) : Eff :=
  match pureE P (execOp (ev s.tm) o), nodupN fp with
  | some (f, args), true => match r with
    | .ret v => .det (Gives P f args.toList R (fp.map s.hp.at) (.ret v) (fp.map s.hp.at)) v []
    | .pan v => .no
  | _, _ => .no
theorem effCallR_ok (fp : List Nat) (r : Out) : EffOK P o s R (effCallR P o s R fp r) := by
  unfold effCallR
  split
  · rename_i f args h1 h2
    split
    · exact .callR h1 h2
    · exact .no
  · exact .no
def effPr (fp nn : List Nat) (X : Type) (q : X → Prop) (g : X → Value×Hp) : Eff :=
  match pcOf (ev s.tm) o, nodupN (fp ++ nn), freshN s.hp nn with
  | some c, true, true => .gen (PrimOK P c R (fp.map s.hp.at) X q g) X q fun x => ((g x).1, zipU (fp ++ nn) (g x).2)
  | _, _, _ => .no
theorem effPr_ok (fp nn : List Nat) (X : Type) (q : X → Prop) (g : X → Value×Hp) : EffOK P o s R (effPr P o s R fp nn X q g) := by
  unfold effPr
  split
  · rename_i c h1 h2 h3;exact .prim h1 h2 h3
  · exact .no
def effPr0 (fp nn : List Nat) (v : Value) (B : Hp) : Eff :=
  match pcOf (ev s.tm) o, nodupN (fp ++ nn), freshN s.hp nn with
  | some c, true, true => .det (Prim0 P c R (fp.map s.hp.at) v B) v (zipU (fp ++ nn) B)
  | _, _, _ => .no
theorem effPr0_ok (fp nn : List Nat) (v : Value) (B : Hp) : EffOK P o s R (effPr0 P o s R fp nn v B) := by
  unfold effPr0
  split
  · rename_i c h1 h2 h3;exact .prim0 h1 h2 h3
  · exact .no
def effPan : Eff := match pureP P (execOp (ev s.tm) o) with
  | some v => .pan v
  | none => .no
theorem effPan_ok : EffOK P o s R (effPan P o s) := by
  unfold effPan
  split
  · rename_i v h;exact .pan (pureP_run h)
  · exact .no
def effDfr : Eff := match pureD P (execOp (ev s.tm) o) with
  | some v => .dfr v
  | none => .no
theorem effDfr_ok : EffOK P o s R (effDfr P o s) := by
  unfold effDfr
  split
  · rename_i v h;exact .dfr (pureD_run h)
  · exact .no
def eff (h : Hint) : Eff := match h with
  | .d => effD P o s
  | .nw => effNw P o s
  | .db b => effDb P o s b
  | .dv => effDv o s
  | .sh => effSh o s
  | .ix => effIx P o s
  | .ss => effSs P o s
  | .sl0 => effSl0 P o s
  | .sl => effSl P o s
  | .ia => effIa P o s
  | .ib B O => effIb P o s B O
  | .p i => effP P o s i
  | .q i v => effQ P o s i (v (adrs s.hp [i]) (opv o s.tm))
  | .sq i cs => effSq P o s i (cs (adrs s.hp [i]) (opv o s.tm))
  | .ro cs => effRo P o s R (cs (opv o s.tm))
  | .n i => effN P o s i
  | .cv v => effCv P o s (v (opv o s.tm))
  | .call fp nn X g => effCall P o s R fp nn X (g (adrs s.hp fp) (opv o s.tm))
  | .callG fp nn X q g => effCallG P o s R fp nn X (q (adrs s.hp fp) (opv o s.tm)) (g (adrs s.hp fp) (opv o s.tm))
  | .call0 fp nn r B => effCall0 P o s R fp nn (r (adrs s.hp fp) (opv o s.tm)) (B (adrs s.hp fp) (opv o s.tm))
  | .callR fp r => effCallR P o s R fp (r (adrs s.hp fp) (opv o s.tm))
  | .pr fp nn X q g => effPr P o s R fp nn X (q (fp.map s.hp.at) (opv o s.tm)) (g (fp.map s.hp.at) (opv o s.tm))
  | .pr0 fp nn v B => effPr0 P o s R fp nn (v (adrs s.hp fp) (opv o s.tm)) (B (adrs s.hp fp) (opv o s.tm))
  | .cat => effCat o s
  | .eqs => effEq P o s
  | .pan => effPan P o s
  | .dfr => effDfr P o s
theorem eff_ok (h : Hint) : EffOK P o s R (eff P o s R h) := by
  cases h with
  | d => exact effD_ok P o s R
  | nw => exact effNw_ok P o s R
  | db b => exact effDb_ok P o s R b
  | dv => exact effDv_ok P o s R
  | sh => exact effSh_ok P o s R
  | ix => exact effIx_ok P o s R
  | ss => exact effSs_ok P o s R
  | sl0 => exact effSl0_ok P o s R
  | sl => exact effSl_ok P o s R
  | ia => exact effIa_ok P o s R
  | ib B O => exact effIb_ok P o s R B O
  | p i => exact effP_ok P o s R i
  | q i v => exact effQ_ok P o s R i _
  | sq i cs => exact effSq_ok P o s R i _
  | ro cs => exact effRo_ok P o s R _
  | n i => exact effN_ok P o s R i
  | cv v => exact effCv_ok P o s R _
  | call fp nn X g => exact effCall_ok P o s R fp nn X _
  | callG fp nn X q g => exact effCallG_ok P o s R fp nn X _ _
  | call0 fp nn r B => exact effCall0_ok P o s R fp nn _ _
  | callR fp r => exact effCallR_ok P o s R fp _
  | pr fp nn X q g => exact effPr_ok P o s R fp nn X _ _
  | pr0 fp nn v B => exact effPr0_ok P o s R fp nn _ _
  | cat => exact effCat_ok P o s R
  | eqs => exact effEq_ok P o s R
  | pan => exact effPan_ok P o s R
  | dfr => exact effDfr_ok P o s R
end
end Vc
set_option linter.unusedVariables false
set_option linter.unusedSimpArgs false
namespace Vc
open Go
def gd (all : Array Oper) (tm : List Value) (o : Oper) : Option Bool :=
  match o.guard with
  | none => some true
  | some (j, want) => match all[j]? with
    | some g => match g.dst with
      | some d => match tget tm d with
        | .bool true => some want
        | .bool false => some (!want)
        | .tuple _ => some false
        | _ => none
      | none => none
    | none => none
theorem gd_spec {all : Array Oper} {s : St} {o : Oper} {b : Bool} (h : gd all s.tm o = some b) : Region.wanted o (yielded all s.act.tmps) = b := by
  unfold gd at h
  unfold Region.wanted
  cases hg : o.guard with
  | none => simp [hg] at h;simp [h]
  | some x =>
    obtain ⟨j, want⟩ := x
    simp only [hg] at h ⊢
    cases hj : all[j]? with
    | none => simp [hj] at h
    | some g =>
      cases hd : g.dst with
      | none => simp [hj, hd] at h
      | some d =>
        simp only [hj, hd] at h
        have he : ∀ c, tget s.tm d = .bool c → yielded all s.act.tmps j = some c := fun c hc => by
          rw [tget_eq] at hc
          unfold yielded
          simp only [hj, Option.bind_some, hd, St.act]
          have : s.tm.toArray[d]? = some (.bool c) := by
            rw [Array.getD_eq_getD_getElem?] at hc
            cases hx : s.tm.toArray[d]? with
            | none => rw [hx] at hc;simp [undef] at hc
            | some v => rw [hx] at hc;simp at hc;rw [hc]
          rw [this]
        cases ht : tget s.tm d with
        | bool c =>
          rw [he c ht]
          cases c <;> simp [ht] at h <;> cases want <;> simp_all
        | tuple l =>
          simp [ht] at h
          have hn : yielded all s.act.tmps j = none := by
            rw [tget_eq] at ht
            unfold yielded
            simp only [hj, Option.bind_some, hd, St.act]
            cases hx : s.tm.toArray[d]? with
            | none => rfl
            | some v =>
              rw [Array.getD_eq_getD_getElem?, hx] at ht
              simp at ht
              rw [ht]
          rw [hn, h]
          rfl
        | _ => simp [ht] at h
theorem oper_mono {P : Program} {o : Oper} {Q Q' : Exit → Act → World → Prop} {n n' : Act → World → Prop} {a : Act} {w : World} (h : ∀ e a w, Q e a w → Q' e a w) (hn : ∀ a w, n a w → n' a w)
    (hh : o.wp P a w n Q) : o.wp P a w n' Q' := by
  unfold Oper.wp at *
  generalize (execOp a.eval o).run P w = r at *
  cases r with
  | ok x w' =>
    cases x <;> simp only [Oper.upon] at hh ⊢ <;>
      first
        | exact hn _ _ hh
        | exact Calls.mono hh (fun e w'' he => by
            cases e <;> first
              | exact hn _ _ he
              | exact h _ _ _ he
              | exact (let ⟨a', w', hq⟩ := he;⟨a', w', h _ _ _ hq⟩))
        | exact Rows.mono hh (fun _ _ he => hn _ _ he)
  | halt x w' => cases x <;> simp only [Oper.upon] at hh ⊢ <;> first | exact h _ _ _ hh | exact hh
theorem wpOps_mono {P : Program} {all : Array Oper} {Q Q' : Exit → Act → World → Prop} (h : ∀ e a w, Q e a w → Q' e a w) : ∀ {l : List Nat} {a : Act} {w : World}, wpOps P all Q l a w → wpOps P all Q' l a w
| [], a, w, hh => h _ _ _ hh
| i::l, a, w, hh => by
  simp only [wpOps] at hh ⊢
  split
  · rename_i ho
    simp only [ho] at hh
    exact wpOps_mono h hh
  · rename_i o ho
    simp only [ho] at hh
    split
    · rename_i hw
      simp only [hw, if_true] at hh
      rcases hh with hh | ⟨h1, a', w', h2⟩
      · left
        exact oper_mono h (fun a w => wpOps_mono h) hh
      · exact .inr ⟨h1, a', w', h _ _ _ h2⟩
    · rename_i hw
      simp only [hw, if_false, Bool.false_eq_true] at hh
      exact wpOps_mono h hh
structure GE where
  p : Prop
  X : Type
  gr : Bool
  g : X → Prop
  q : X → RO → Prop
  f : X → Value×Upd
def GE.st (e : GE) (x : e.X) (R G : RO) : Prop := match e.gr with
  | true => R.le G∧e.q x G
  | false => e.g x∧G = R
theorem GE.st_t {e : GE} {x : e.X} {R G : RO} (h : e.gr = true) : e.st x R G ↔ R.le G∧e.q x G := by unfold GE.st;rw [h]
theorem GE.st_f {e : GE} {x : e.X} {R G : RO} (h : e.gr = false) : e.st x R G ↔ e.g x∧G = R := by unfold GE.st;rw [h]
def Eff.toG : Eff → Option GE
  | .val v => some ⟨True, Unit, false, fun _ => True, fun _ _ => True, fun _ => (v, [])⟩
  | .det p v u => some ⟨p, Unit, false, fun _ => True, fun _ _ => True, fun _ => (v, u)⟩
  | .new f => some ⟨True, Nat, false, fun _ => True, fun _ _ => True, f⟩
  | .gen p X g f => some ⟨p, X, false, g, fun _ _ => True, f⟩
  | .genG p X q f => some ⟨p, X, true, fun _ => True, q, f⟩
  | _ => none
theorem Eff.run_toG {E : Eff} {e : GE} (h : E.toG = some e) (s : St) (R : RO) (dst : Option Tmp) (k : St → RO → Prop) (kp : Value → St → RO → Prop) :
    E.run s R dst k kp ↔ e.p∧∀ x G, e.st x R G → k (s.set dst (e.f x).1 (e.f x).2) G := by
  cases E <;> simp [Eff.toG] at h <;> subst h <;> simp [Eff.run, GE.st]
def nmH : Hint → List Nat
  | .p i | .q i _ | .sq i _ | .n i => [i]
  | .call fp nn _ _ | .callG fp nn _ _ _ | .call0 fp nn _ _ | .pr fp nn _ _ _ | .pr0 fp nn _ _ => fp ++ nn
  | .callR fp _ => fp
  | _ => []
def wmH : Hint → List Nat
  | .callR _ _ => []
  | h => nmH h
def wnH (o : Oper) (h : Hint) : List Nat := match o.op with
  | .load _ _ => []
  | _ => wmH h
def rdep : Hint → Bool
  | .ro _ | .call .. | .callG .. | .call0 .. | .callR .. | .pr .. | .pr0 .. => true
  | _ => false
def grow : Hint → Bool
  | .callG .. => true
  | _ => false
def roH : Hint → Bool
  | .ro _ => true
  | _ => false
def disj : List Nat → List Nat → Bool
  | [], _ => true
  | x::xs, ys => match memN x ys with
    | true => false
    | false => disj xs ys
theorem disj_spec : ∀ {xs ys : List Nat}, disj xs ys = true → ∀ x ∈ xs, x ∉ ys
  | [], ys, h, x, hx => by cases hx
  | a::xs, ys, h, x, hx => by
    simp only [disj] at h
    cases hm : memN a ys with
    | true => simp [hm] at h
    | false =>
      simp [hm] at h
      cases hx with
      | head => intro hy;rw [memN_iff.2 hy] at hm;cases hm
      | tail _ hx => exact disj_spec h x hx
section
variable (P : Program)
theorem freshN_congr {H H' : Hp} : ∀ {l : List Nat}, (∀ n ∈ l, H.at n = H'.at n) → freshN H l = freshN H' l
  | [], _ => rfl
  | i::l, h => by simp only [freshN, h i (List.mem_cons_self ..), freshN_congr (l := l) fun n hn => h n (List.mem_cons_of_mem _ hn)]
theorem map_at_congr {H H' : Hp} {l : List Nat} (h : ∀ n ∈ l, H.at n = H'.at n) : l.map H.at = l.map H'.at := List.map_congr_left h
theorem pcOf_congr {o : Oper} {ρ ρ' : Operand → Value} (h : ∀ x ∈ o.op.operands, ρ x = ρ' x) : pcOf ρ o = pcOf ρ' o := by
  obtain ⟨dst, op, type, pos, after, guard⟩ := o
  cases op <;> simp only [Op.operands] at h <;> try rfl
  case makeSlice t l c => simp only [pcOf, h l (by simp), h c (by simp)]
  case lookup t m k ok => simp only [pcOf, h m (by simp), h k (by simp)]
  case mapUpdate t m k v => simp only [pcOf, h m (by simp), h k (by simp), h v (by simp)]
  case convert t u x => simp only [pcOf, h x (by simp)]
  case range t x => simp only [pcOf, h x (by simp)]
  case next x b => simp only [pcOf, h x (by simp)]
  case entry x => simp only [pcOf, h x (by simp)]
  case sliceToArrayPointer t x => simp only [pcOf, h x (by simp)]
  case slice t x lo hi mx => cases lo <;> cases hi <;> cases mx <;> simp_all [pcOf]
  case build t ps =>
    obtain ⟨ps⟩ := ps
    simp only [pcOf]
    congr 2
    exact List.map_congr_left fun p hp => by rw [h p.2 (List.mem_toArray.2 (List.mem_map.2 ⟨p, hp, rfl⟩))]
  case call c =>
    obtain ⟨callee, ⟨args⟩, ⟨ts⟩⟩ := c
    cases callee <;> try rfl
    rename_i b
    simp only [pcOf]
    rcases args with _ | ⟨x, _ | ⟨y, _ | ⟨z, l⟩⟩⟩ <;> rcases ts with _ | ⟨t, _ | ⟨u, _ | ⟨v, m⟩⟩⟩ <;> cases b <;> first | rfl | (simp [Call.operands] at h;simp [h];done)
theorem eff_local {o : Oper} {s s' : St} {R R' : RO} {h : Hint} (hsel : ∀ cs b, o.op ≠ .select cs b) (hev : ∀ x ∈ o.op.operands, ev s.tm x = ev s'.tm x)
    (hn : ∀ n ∈ nmH h, s.hp.at n = s'.hp.at n) (hr : rdep h = true → R = R') : eff P o s R h = eff P o s' R' h := by
  have hx : execOp (ev s.tm) o = execOp (ev s'.tm) o := execOp_congr o hsel hev
  have ho : opv o s.tm = opv o s'.tm := List.map_congr_left fun x hx => hev x (by simpa using hx)
  have ha : ∀ l, (∀ n ∈ l, s.hp.at n = s'.hp.at n) → adrs s.hp l = adrs s'.hp l := fun l hl => List.map_congr_left fun n hm => by
    unfold adr;rw [hl n hm]
  obtain ⟨dst, op, type, pos, after, guard⟩ := o
  cases h with
  | d => simp only [eff, effD, hx]
  | db b => simp only [eff, effDb, hx]
  | cv v => simp only [eff, effCv, hx, ho]
  | pan => simp only [eff, effPan, hx]
  | dfr => simp only [eff, effDfr, hx]
  | call0 fp nn r B =>
    have h1 := hr rfl
    subst h1
    simp only [nmH, List.mem_append] at hn
    simp only [eff, effCall0, hx, ho, ha fp fun n hm => hn n (.inl hm), freshN_congr (l := nn) fun n hm => hn n (.inr hm), map_at_congr (l := fp) fun n hm => hn n (.inl hm)]
  | callR fp r =>
    have h1 := hr rfl
    subst h1
    simp only [nmH] at hn
    simp only [eff, effCallR, hx, ho, ha fp hn, map_at_congr (l := fp) hn]
  | pr fp nn X q g =>
    have h1 := hr rfl
    subst h1
    simp only [nmH, List.mem_append] at hn
    simp only [eff, effPr, pcOf_congr hev, ho, ha fp fun n hm => hn n (.inl hm), freshN_congr (l := nn) fun n hm => hn n (.inr hm), map_at_congr (l := fp) fun n hm => hn n (.inl hm)]
  | pr0 fp nn v B =>
    have h1 := hr rfl
    subst h1
    simp only [nmH, List.mem_append] at hn
    simp only [eff, effPr0, pcOf_congr hev, ho, ha fp fun n hm => hn n (.inl hm), freshN_congr (l := nn) fun n hm => hn n (.inr hm), map_at_congr (l := fp) fun n hm => hn n (.inl hm)]
  | call fp nn X g =>
    have h1 := hr rfl
    subst h1
    simp only [nmH, List.mem_append] at hn
    simp only [eff, effCall, hx, ho, ha fp fun n hm => hn n (.inl hm), freshN_congr (l := nn) fun n hm => hn n (.inr hm), map_at_congr (l := fp) fun n hm => hn n (.inl hm)]
  | callG fp nn X q g =>
    have h1 := hr rfl
    subst h1
    simp only [nmH, List.mem_append] at hn
    simp only [eff, effCallG, hx, ho, ha fp fun n hm => hn n (.inl hm), freshN_congr (l := nn) fun n hm => hn n (.inr hm), map_at_congr (l := fp) fun n hm => hn n (.inl hm)]
  | n i =>
    simp only [nmH, List.mem_singleton, forall_eq] at hn
    simp only [eff, effN, hn]
    cases op <;> simp only [Op.operands] at hev <;> try rfl
    case box e x => simp only [hev x (by simp)]
    case makeMap t r => cases r <;> rfl
    case buildSlice t len parts =>
      have : (parts.map fun (i, x) => (i, ev s.tm x)) = (parts.map fun (i, x) => (i, ev s'.tm x)) := Array.map_congr_left fun p hm => by
        obtain ⟨i, x⟩ := p
        have h2 : x ∈ (List.map (fun x => x.2) parts.toList) := List.mem_map.2 ⟨(i, x), by simpa using hm, rfl⟩
        simp only [hev x (by simpa using h2)]
      simp only [this]
  | ro cs =>
    have h1 := hr rfl
    subst h1
    simp only [eff, effRo, ho]
    cases op <;> simp only [Op.operands] at hev <;> try rfl
    case load t a => simp only [hev a (by simp)]
  | p i =>
    simp only [nmH, List.mem_singleton, forall_eq] at hn
    simp only [eff, effP, hn]
    cases op <;> simp only [Op.operands] at hev <;> try rfl
    case load t a => simp only [hev a (by simp)]
    case store t a x => simp only [hev a (by simp), hev x (by simp)]
  | q i v =>
    have ha1 := ha [i] hn
    simp only [nmH, List.mem_singleton, forall_eq] at hn
    simp only [eff, effQ, hn, ho, ha1]
    cases op <;> simp only [Op.operands] at hev <;> try rfl
    case load t a => simp only [hev a (by simp)]
  | sq i cs =>
    have ha1 := ha [i] hn
    simp only [nmH, List.mem_singleton, forall_eq] at hn
    simp only [eff, effSq, hn, ho, ha1]
    cases op <;> simp only [Op.operands] at hev <;> try rfl
    case store t a x => simp only [hev a (by simp), hev x (by simp)]
  | nw =>
    simp only [eff, effNw]
    cases op <;> simp only [Op.operands] at hev <;> try rfl
    case binOp b t x y t' => cases b <;> simp only [hev x (by simp), hev y (by simp)]
    case convert a b x => simp only [hev x (by simp)]
  | dv =>
    simp only [eff, effDv]
    cases op <;> simp only [Op.operands] at hev <;> try rfl
    case binOp b t x y t' => cases b <;> simp only [hev x (by simp), hev y (by simp)]
  | sh =>
    simp only [eff, effSh]
    cases op <;> simp only [Op.operands] at hev <;> try rfl
    case binOp b t x y t' => cases b <;> simp only [hev x (by simp), hev y (by simp)]
  | eqs =>
    simp only [eff, effEq]
    cases op <;> simp only [Op.operands] at hev <;> try rfl
    case binOp b t x y t' => cases b <;> simp only [hev x (by simp), hev y (by simp)]
  | cat =>
    simp only [eff, effCat]
    cases op <;> simp only [Op.operands] at hev <;> try rfl
    case binOp b t x y t' => cases b <;> simp only [hev x (by simp), hev y (by simp)]
  | ix =>
    simp only [eff, effIx]
    cases op <;> simp only [Op.operands] at hev <;> try rfl
    case index t x i => simp only [hev x (by simp), hev i (by simp)]
  | ib B O =>
    simp only [eff, effIb]
    cases op <;> simp only [Op.operands] at hev <;> try rfl
    case indexAddr t x i => simp only [hev x (by simp), hev i (by simp)]
  | ia =>
    simp only [eff, effIa]
    cases op <;> simp only [Op.operands] at hev <;> try rfl
    case indexAddr t x i => simp only [hev x (by simp), hev i (by simp)]
  | ss =>
    simp only [eff, effSs]
    cases op <;> simp only [Op.operands] at hev <;> try rfl
    case slice t x lo hi mx => cases lo <;> cases hi <;> cases mx <;> simp_all
  | sl0 =>
    simp only [eff, effSl0]
    cases op <;> simp only [Op.operands] at hev <;> try rfl
    case slice t x lo hi mx => cases lo <;> cases hi <;> cases mx <;> simp_all
  | sl =>
    simp only [eff, effSl]
    cases op <;> simp only [Op.operands] at hev <;> try rfl
    case slice t x lo hi mx => cases lo <;> cases hi <;> cases mx <;> simp_all
theorem zipU_names : ∀ (ns : List Nat) (B : Hp) (n : Nat) (b : Option (Nat×Blk)), (n, b) ∈ zipU ns B → n ∈ ns
  | [], B, n, b, h => by simp [zipU] at h
  | i::is, [], n, b, h => by
    simp only [zipU, List.mem_cons] at h
    rcases h with h | h
    · cases h;exact List.mem_cons_self ..
    · exact List.mem_cons_of_mem _ (zipU_names is [] n b h)
  | i::is, c::B, n, b, h => by
    simp only [zipU, List.mem_cons] at h
    rcases h with h | h
    · cases h;exact List.mem_cons_self ..
    · exact List.mem_cons_of_mem _ (zipU_names is B n b h)
def upOk (l : List Nat) (u : Upd) : Prop := ∀ n b, (n, b) ∈ u → n ∈ l
theorem eff_names {o : Oper} {s : St} {R : RO} {h : Hint} {e : GE} (he : (eff P o s R h).toG = some e) (x : e.X) : upOk (wnH o h) (e.f x).2 := by
  have nil : ∀ l, upOk l [] := fun l n b hm => by cases hm
  have one : ∀ (i : Nat) (y : Option (Nat×Blk)), upOk [i] [(i, y)] := fun i y n b hm => by
    simp at hm;simp [hm.1]
  cases h with
  | d => simp only [eff, effD] at he;split at he <;> simp [Eff.toG] at he;subst he;exact nil _
  | db b => simp only [eff, effDb] at he;split at he <;> simp [Eff.toG] at he;subst he;exact nil _
  | cv v => simp [eff, effCv, Eff.toG] at he;subst he;exact nil _
  | pan => simp only [eff, effPan] at he;split at he <;> simp [Eff.toG] at he
  | dfr => simp only [eff, effDfr] at he;split at he <;> simp [Eff.toG] at he
  | nw => simp only [eff, effNw] at he;(repeat' split at he) <;> simp [Eff.toG] at he <;> subst he <;> exact nil _
  | dv => simp only [eff, effDv] at he;(repeat' split at he) <;> simp [Eff.toG] at he <;> subst he <;> exact nil _
  | sh => simp only [eff, effSh] at he;(repeat' split at he) <;> simp [Eff.toG] at he <;> subst he <;> exact nil _
  | cat => simp only [eff, effCat] at he;(repeat' split at he) <;> simp [Eff.toG] at he <;> subst he <;> exact nil _
  | eqs => simp only [eff, effEq] at he;(repeat' split at he) <;> simp [Eff.toG] at he <;> subst he <;> exact nil _
  | ix => simp only [eff, effIx] at he;(repeat' split at he) <;> simp [Eff.toG] at he <;> subst he <;> exact nil _
  | ia => simp only [eff, effIa] at he;(repeat' split at he) <;> simp [Eff.toG] at he <;> subst he <;> exact nil _
  | ib B O => simp only [eff, effIb] at he;(repeat' split at he) <;> simp [Eff.toG] at he <;> subst he <;> exact nil _
  | ss => simp only [eff, effSs] at he;(repeat' split at he) <;> simp [Eff.toG] at he <;> subst he <;> exact nil _
  | sl0 => simp only [eff, effSl0] at he;(repeat' split at he) <;> simp [Eff.toG] at he <;> subst he <;> exact nil _
  | sl => simp only [eff, effSl] at he;(repeat' split at he) <;> simp [Eff.toG] at he <;> subst he <;> exact nil _
  | ro cs => simp only [eff, effRo] at he;(repeat' split at he) <;> simp [Eff.toG] at he <;> subst he <;> exact nil _
  | q i v => simp only [eff, effQ] at he;(repeat' split at he) <;> simp [Eff.toG] at he <;> subst he <;> exact nil _
  | p i =>
    simp only [eff, effP] at he
    split at he
    · (repeat' split at he) <;> simp [Eff.toG] at he <;> subst he <;> exact nil _
    · rename_i t a y ho
      (repeat' split at he) <;> simp [Eff.toG] at he <;> subst he
      simp only [wnH, ho, wmH, nmH];exact one _ _
    · simp [Eff.toG] at he
  | sq i cs =>
    simp only [eff, effSq] at he
    split at he
    · rename_i t a y ho
      (repeat' split at he) <;> simp [Eff.toG] at he <;> subst he
      simp only [wnH, ho, wmH, nmH];exact one _ _
    · simp [Eff.toG] at he
  | n i =>
    simp only [eff, effN] at he
    split at he
    · simp [Eff.toG] at he
    · split at he
      · rename_i e ho
        split at he <;> simp [Eff.toG] at he;subst he
        simp only [wnH, ho, wmH, nmH];exact one _ _
      · rename_i e y ho
        simp [Eff.toG] at he;subst he
        simp only [wnH, ho, wmH, nmH];exact one _ _
      · rename_i t ho
        simp [Eff.toG] at he;subst he
        simp only [wnH, ho, wmH, nmH];exact one _ _
      · rename_i t len parts ho
        split at he <;> simp [Eff.toG] at he;subst he
        simp only [wnH, ho, wmH, nmH];exact one _ _
      · simp [Eff.toG] at he
  | call0 fp nn r B =>
    simp only [eff, effCall0] at he
    split at he
    · rename_i f args h1 h2 h3
      split at he <;> simp [Eff.toG] at he;subst he
      intro n b hm;rw [show wnH o _ = fp ++ nn from wn_call h1 rfl];exact zipU_names _ _ _ _ hm
    · simp [Eff.toG] at he
  | callR fp r =>
    simp only [eff, effCallR] at he
    (repeat' split at he) <;> simp [Eff.toG] at he <;> subst he <;> exact nil _
  | call fp nn X g =>
    simp only [eff, effCall] at he
    split at he
    · rename_i f args h1 h2 h3
      simp [Eff.toG] at he;subst he
      intro n b hm;rw [show wnH o _ = fp ++ nn from wn_call h1 rfl];exact zipU_names _ _ _ _ hm
    · simp [Eff.toG] at he
  | callG fp nn X q g =>
    simp only [eff, effCallG] at he
    split at he
    · rename_i f args h1 h2 h3
      simp [Eff.toG] at he;subst he
      intro n b hm;rw [show wnH o _ = fp ++ nn from wn_call h1 rfl];exact zipU_names _ _ _ _ hm
    · simp [Eff.toG] at he
  | pr fp nn X q g =>
    simp only [eff, effPr] at he
    split at he
    · rename_i c h1 h2 h3
      simp [Eff.toG] at he;subst he
      intro n b hm;rw [show wnH o _ = fp ++ nn from wn_pr h1 rfl];exact zipU_names _ _ _ _ hm
    · simp [Eff.toG] at he
  | pr0 fp nn v B =>
    simp only [eff, effPr0] at he
    split at he
    · rename_i c h1 h2 h3
      simp [Eff.toG] at he;subst he
      intro n b hm;rw [show wnH o _ = fp ++ nn from wn_pr h1 rfl];exact zipU_names _ _ _ _ hm
    · simp [Eff.toG] at he
  where
  wn_pr {o : Oper} {ρ : Operand → Value} {c : PC} {h : Hint} {l : List Nat} (he : pcOf ρ o = some c) (hl : wmH h = l) : wnH o h = l := by
    unfold wnH
    split
    · rename_i t a ho
      unfold pcOf at he
      rw [ho] at he
      simp at he
    · exact hl
  wn_call {P : Program} {o : Oper} {s : St} {f : FuncId} {args : Array Value} {h : Hint} {l : List Nat} (he : pureE P (execOp (ev s.tm) o) = some (f, args)) (hl : wmH h = l) : wnH o h = l := by
    unfold wnH
    split
    · rename_i t a ho
      unfold execOp at he
      rw [ho] at he
      exfalso
      have key : ∀ (x : Sem Value), pureE P (do pure (.value (← x)) : Sem Next) = none := by
        intro x
        induction x with
        | pure a => rfl
        | program k ih => exact ih P
        | mark m k ih => exact ih
        | _ => rfl
      rw [key] at he
      cases he
    · exact hl
abbrev Itm := Nat×Oper×Option Hint
def nmI : Option Hint → List Nat
  | some h => nmH h
  | none => []
def wnI (o : Oper) : Option Hint → List Nat
  | some h => wnH o h
  | none => []
def rdI : Option Hint → Bool
  | some h => rdep h
  | none => false
def grI : Option Hint → Bool
  | some h => grow h
  | none => false
def roI : Option Hint → Bool
  | some h => roH h
  | none => false
def indB (all : Array Oper) (a b : Itm) : Bool :=
  a.2.1.apart all b.2.1 && (disj (wnI a.2.1 a.2.2) (nmI b.2.2) && (disj (wnI b.2.1 b.2.2) (nmI a.2.2) && ((!grI a.2.2 || !rdI b.2.2) && (!grI b.2.2 || (!rdI a.2.2 || roI a.2.2)))))
structure Ind (all : Array Oper) (a b : Itm) : Prop where
  ap : a.2.1.apart all b.2.1 = true
  ab : ∀ n ∈ wnI a.2.1 a.2.2, n ∉ nmI b.2.2
  ba : ∀ n ∈ wnI b.2.1 b.2.2, n ∉ nmI a.2.2
  ga : grI a.2.2 = true → rdI b.2.2 = false
  gb : grI b.2.2 = true → rdI a.2.2 = false ∨ roI a.2.2 = true
theorem grow_rdep {h : Hint} (hg : grow h = true) : rdep h = true := by cases h <;> simp [grow] at hg <;> rfl
theorem grow_ro {h : Hint} (hg : grow h = true) : roH h = false := by cases h <;> simp [grow] at hg <;> rfl
theorem indB_spec {all : Array Oper} {a b : Itm} (h : indB all a b = true) : Ind all a b := by
  unfold indB at h
  simp only [Bool.and_eq_true, Bool.or_eq_true, Bool.not_eq_true'] at h
  obtain ⟨h1, h2, h3, h4, h5⟩ := h
  exact ⟨h1, disj_spec h2, disj_spec h3, fun hg => h4.resolve_left (by simp [hg]), fun hg => h5.resolve_left (by simp [hg])⟩
theorem apart_symm {all : Array Oper} {x y : Oper} (h : x.apart all y = true) : y.apart all x = true := by
  unfold Oper.apart at h ⊢
  cases h1 : x.dst <;> cases h2 : y.dst <;> simp [h1, h2] at h ⊢ <;> try exact h
  rename_i d e
  exact ⟨⟨h.2, fun he => h.1.2 he.symm⟩, h.1.1⟩
def Ok (all : Array Oper) (a : Itm) (s : St) (R : RO) : Prop := match a with
  | (_, o, none) => gd all s.tm o = some false
  | (_, o, some h) => gd all s.tm o = some true∧∃ ge, (eff P o s R h).toG = some ge∧ge.p
def Tr (a : Itm) (s : St) (R : RO) (s' : St) (G : RO) : Prop := match a with
  | (_, o, none) => s' = s.set o.dst undef []∧G = R
  | (_, o, some h) => ∃ ge, (eff P o s R h).toG = some ge∧∃ x, ge.st x R G∧s' = s.set o.dst (ge.f x).1 (ge.f x).2
def GD (all : Array Oper) : List Itm → St → RO → (St → RO → Prop) → Prop
  | [], s, R, k => k s R
  | a::L, s, R, k => Ok P all a s R∧∀ s' G, Tr P a s R s' G → GD all L s' G k
theorem upds_at {l : List Nat} : ∀ {u : Upd} {H : Hp} {n : Nat}, upOk l u → n ∉ l → (H.upds u).at n = H.at n
  | [], H, n, h, hn => rfl
  | (i, b)::u, H, n, h, hn => by
    have h1 := h i b (List.mem_cons_self ..)
    simp only [Hp.upds]
    rw [upds_at (u := u) (fun m c hm => h m c (List.mem_cons_of_mem _ hm)) hn, Hp.at_put_ne]
    intro he;subst he;exact hn h1
theorem put_comm : ∀ (H : Hp) (n m : Nat) (b c : Option (Nat×Blk)), n ≠ m → (H.put n b).put m c = (H.put m c).put n b
  | [], 0, 0, b, c, h => absurd rfl h
  | [], 0, m + 1, b, c, h => by simp [Hp.put]
  | [], n + 1, 0, b, c, h => by simp [Hp.put]
  | [], n + 1, m + 1, b, c, h => by simp only [Hp.put];rw [put_comm [] n m b c (by omega)]
  | _::l, 0, 0, b, c, h => absurd rfl h
  | _::l, 0, m + 1, b, c, h => by simp [Hp.put]
  | _::l, n + 1, 0, b, c, h => by simp [Hp.put]
  | _::l, n + 1, m + 1, b, c, h => by simp only [Hp.put];rw [put_comm l n m b c (by omega)]
theorem upds_put {l : List Nat} : ∀ {u : Upd} {H : Hp} {n : Nat} {b : Option (Nat×Blk)}, upOk l u → n ∉ l → (H.put n b).upds u = (H.upds u).put n b
  | [], H, n, b, h, hn => rfl
  | (i, c)::u, H, n, b, h, hn => by
    have h1 := h i c (List.mem_cons_self ..)
    simp only [Hp.upds]
    rw [put_comm H n i b c (fun he => hn (he ▸ h1)), upds_put (u := u) (fun m c hm => h m c (List.mem_cons_of_mem _ hm)) hn]
theorem upds_comm {l m : List Nat} (hd : ∀ n ∈ l, n ∉ m) : ∀ {u v : Upd} {H : Hp}, upOk l u → upOk m v → (H.upds u).upds v = (H.upds v).upds u
  | [], v, H, hu, hv => rfl
  | (i, c)::u, v, H, hu, hv => by
    have h1 := hd i (hu i c (List.mem_cons_self ..))
    simp only [Hp.upds]
    rw [upds_comm hd (fun m c hm => hu m c (List.mem_cons_of_mem _ hm)) hv, upds_put hv h1]
theorem set_comm (s : St) {x y : Option Tmp} (v u : Value) {a b : Upd} {l m : List Nat} (h : ∀ d, x = some d → y ≠ some d) (hd : ∀ n ∈ l, n ∉ m) (ha : upOk l a) (hb : upOk m b) :
    (s.set x v a).set y u b = (s.set y u b).set x v a := by
  unfold St.set
  simp only [St.mk.injEq, true_and]
  refine ⟨?_, upds_comm hd ha hb⟩
  cases x with
  | none => rfl
  | some d =>
    cases y with
    | none => rfl
    | some e =>
      have hne : d ≠ e := fun he => h d rfl (he ▸ rfl)
      simp only [put, tput_eq, List.set_comm _ _ hne]
theorem ev_set (s : St) {x : Option Tmp} {v : Value} {a : Upd} {y : Operand} (h : ∀ d, x = some d → y ≠ .tmp d) : ev (s.set x v a).tm y = ev s.tm y := by
  have h1 := Act.eval_put (a := s.act) (v := v) h
  rw [St.put_set s x v a, St.eval, St.eval] at h1
  exact h1
theorem tget_set (s : St) {x : Option Tmp} {v : Value} {a : Upd} {d : Nat} (h : x ≠ some d) : tget (s.set x v a).tm d = tget s.tm d :=
  ev_set s (y := .tmp d) fun e he hd => by cases hd;exact h he
variable {P}
theorem Tr.shape {a : Itm} {s : St} {R : RO} {s' : St} {G : RO} (h : Tr P a s R s' G) : ∃ v u, s' = s.set a.2.1.dst v u∧upOk (wnI a.2.1 a.2.2) u∧(grI a.2.2 = false → G = R)∧R.le G := by
  obtain ⟨i, o, hh⟩ := a
  cases hh with
  | none => exact ⟨undef, [], h.1, fun n b hm => (by cases hm), fun _ => h.2, h.2 ▸ RO.le_refl _⟩
  | some hh =>
    obtain ⟨ge, h1, x, h2, h3⟩ := h
    refine ⟨_, _, h3, eff_names P h1 x, fun hg => ?_, ?_⟩
    · have : ge.gr = false := gr_of hg h1
      unfold GE.st at h2;rw [this] at h2;exact h2.2
    · unfold GE.st at h2
      split at h2
      · exact h2.1
      · rw [h2.2];exact RO.le_refl _
  where
  gr_of {P : Program} {o : Oper} {s : St} {R : RO} {h : Hint} {ge : GE} (hg : grow h = false) (he : (eff P o s R h).toG = some ge) : ge.gr = false := by
    cases h with
    | callG fp nn X q g => simp [grow] at hg
    | d => simp only [eff, effD] at he;(repeat' split at he) <;> simp [Eff.toG] at he <;> subst he <;> rfl
    | db b => simp only [eff, effDb] at he;(repeat' split at he) <;> simp [Eff.toG] at he <;> subst he <;> rfl
    | cv v => simp only [eff, effCv] at he;(repeat' split at he) <;> simp [Eff.toG] at he <;> subst he <;> rfl
    | pan => simp only [eff, effPan] at he;(repeat' split at he) <;> simp [Eff.toG] at he
    | dfr => simp only [eff, effDfr] at he;(repeat' split at he) <;> simp [Eff.toG] at he
    | nw => simp only [eff, effNw] at he;(repeat' split at he) <;> simp [Eff.toG] at he <;> subst he <;> rfl
    | dv => simp only [eff, effDv] at he;(repeat' split at he) <;> simp [Eff.toG] at he <;> subst he <;> rfl
    | sh => simp only [eff, effSh] at he;(repeat' split at he) <;> simp [Eff.toG] at he <;> subst he <;> rfl
    | cat => simp only [eff, effCat] at he;(repeat' split at he) <;> simp [Eff.toG] at he <;> subst he <;> rfl
    | eqs => simp only [eff, effEq] at he;(repeat' split at he) <;> simp [Eff.toG] at he <;> subst he <;> rfl
    | ix => simp only [eff, effIx] at he;(repeat' split at he) <;> simp [Eff.toG] at he <;> subst he <;> rfl
    | ia => simp only [eff, effIa] at he;(repeat' split at he) <;> simp [Eff.toG] at he <;> subst he <;> rfl
    | ib B O => simp only [eff, effIb] at he;(repeat' split at he) <;> simp [Eff.toG] at he <;> subst he <;> rfl
    | pr fp nn X q g => simp only [eff, effPr] at he;(repeat' split at he) <;> simp [Eff.toG] at he <;> subst he <;> rfl
    | pr0 fp nn v B => simp only [eff, effPr0] at he;(repeat' split at he) <;> simp [Eff.toG] at he <;> subst he <;> rfl
    | ss => simp only [eff, effSs] at he;(repeat' split at he) <;> simp [Eff.toG] at he <;> subst he <;> rfl
    | sl0 => simp only [eff, effSl0] at he;(repeat' split at he) <;> simp [Eff.toG] at he <;> subst he <;> rfl
    | sl => simp only [eff, effSl] at he;(repeat' split at he) <;> simp [Eff.toG] at he <;> subst he <;> rfl
    | ro cs => simp only [eff, effRo] at he;(repeat' split at he) <;> simp [Eff.toG] at he <;> subst he <;> rfl
    | p i => simp only [eff, effP] at he;(repeat' split at he) <;> simp [Eff.toG] at he <;> subst he <;> rfl
    | q i v => simp only [eff, effQ] at he;(repeat' split at he) <;> simp [Eff.toG] at he <;> subst he <;> rfl
    | sq i cs => simp only [eff, effSq] at he;(repeat' split at he) <;> simp [Eff.toG] at he <;> subst he <;> rfl
    | n i => simp only [eff, effN] at he;(repeat' split at he) <;> simp [Eff.toG] at he <;> subst he <;> rfl
    | call fp nn X g => simp only [eff, effCall] at he;(repeat' split at he) <;> simp [Eff.toG] at he <;> subst he <;> rfl
    | callR fp r => simp only [eff, effCallR] at he;(repeat' split at he) <;> simp [Eff.toG] at he <;> subst he <;> rfl
    | call0 fp nn r B => simp only [eff, effCall0] at he;(repeat' split at he) <;> simp [Eff.toG] at he <;> subst he <;> rfl
theorem eff_same {all : Array Oper} (hsel : Region.noSelect all = true) {a b : Itm} (hb : all[b.1]? = some b.2.1) (hi : Ind all a b) {s : St} {R : RO} {s' : St} {G : RO} (h : Tr P a s R s' G) {hh : Hint} (hbh : b.2.2 = some hh) :
    eff P b.2.1 s' G hh = eff P b.2.1 s R hh := by
  obtain ⟨v, u, rfl, h2, h3, h4⟩ := h.shape
  obtain ⟨a1, a2, a3⟩ := Oper.apart_spec hi.ap
  refine eff_local P (Region.noSelect_spec hsel _ _ · · hb) (fun x hx => ev_set s fun d hd he => ?_) (fun n hn => ?_) (fun hr => ?_)
  · refine a1 d hd ?_
    unfold Oper.looksAt
    refine List.mem_append.2 (.inl (List.mem_filterMap.2 ⟨x, by simpa using hx, by rw [he]⟩))
  · exact upds_at h2 fun hm => hi.ab n hm (by rw [hbh];exact hn)
  · cases hg : grI a.2.2 with
    | false => exact h3 hg
    | true => have := hi.ga hg;rw [hbh] at this;simp only [rdI] at this;rw [this] at hr;cases hr
theorem eff_state {all : Array Oper} (hsel : Region.noSelect all = true) {a b : Itm} (hb : all[b.1]? = some b.2.1) (hap : a.2.1.apart all b.2.1 = true) (hab : ∀ n ∈ wnI a.2.1 a.2.2, n ∉ nmI b.2.2) {s : St} {R : RO} {s' : St} {G : RO} (h : Tr P a s R s' G) {hh : Hint} (hbh : b.2.2 = some hh) :
    eff P b.2.1 s' G hh = eff P b.2.1 s G hh := by
  obtain ⟨v, u, rfl, h2, h3, h4⟩ := h.shape
  obtain ⟨a1, a2, a3⟩ := Oper.apart_spec hap
  refine eff_local P (Region.noSelect_spec hsel _ _ · · hb) (fun x hx => ev_set s fun d hd he => ?_) (fun n hn => ?_) (fun hr => rfl)
  · refine a1 d hd ?_
    unfold Oper.looksAt
    refine List.mem_append.2 (.inl (List.mem_filterMap.2 ⟨x, by simpa using hx, by rw [he]⟩))
  · exact upds_at h2 fun hm => hab n hm (by rw [hbh];exact hn)
theorem eff_ro (o : Oper) (s : St) (R G : RO) (hh : Hint) (hr : roH hh = true) :
    (eff P o s G hh = .no∧eff P o s R hh = .no) ∨ ∃ b off cs v, eff P o s G hh = .det (G.cells b off cs) v []∧eff P o s R hh = .det (R.cells b off cs) v [] := by
  cases hh <;> simp [roH] at hr
  rename_i cs
  simp only [eff, effRo]
  cases ho : o.op with
  | load t x =>
    dsimp only
    cases hx : ev s.tm x with
    | pointer ad =>
      cases ad with
      | none => exact .inl ⟨rfl, rfl⟩
      | some ad =>
        obtain ⟨b, off, sp⟩ := ad
        cases sp with
        | some z => exact .inl ⟨rfl, rfl⟩
        | none =>
          cases hv : readVar P t (cs (opv o s.tm)) 0 with
          | none => exact .inl ⟨rfl, rfl⟩
          | some v => exact .inr ⟨b, off, cs (opv o s.tm), v, rfl, rfl⟩
    | _ => exact .inl ⟨rfl, rfl⟩
  | _ => exact .inl ⟨rfl, rfl⟩
theorem eff_back {all : Array Oper} (hsel : Region.noSelect all = true) {a b : Itm} (ha : all[a.1]? = some a.2.1) (hi : Ind all a b) {s : St} {R : RO} {s' : St} {G : RO} (h : Tr P b s R s' G) {hh : Hint} (hah : a.2.2 = some hh) :
    eff P a.2.1 s' G hh = eff P a.2.1 s R hh ∨ ∃ x off cs v, R.le G∧eff P a.2.1 s' G hh = .det (G.cells x off cs) v []∧eff P a.2.1 s R hh = .det (R.cells x off cs) v [] := by
  have e := eff_state hsel ha (apart_symm hi.ap) hi.ba h hah
  obtain ⟨v, u, e1, h2, h3, h4⟩ := h.shape
  rw [e]
  cases hg : grI b.2.2 with
  | false => rw [h3 hg];exact .inl rfl
  | true =>
    rcases hi.gb hg with hr | hr
    · refine .inl (eff_local P (Region.noSelect_spec hsel _ _ · · ha) (fun _ _ => rfl) (fun _ _ => rfl) (fun hr' => ?_))
      rw [hah] at hr
      simp only [rdI] at hr
      rw [hr] at hr';cases hr'
    · rw [hah] at hr
      rcases eff_ro a.2.1 s R G hh hr with ⟨h5, h6⟩ | ⟨x, off, cs, v, h5, h6⟩
      · exact .inl (h5.trans h6.symm)
      · exact .inr ⟨x, off, cs, v, h4, h5, h6⟩
theorem gd_same0 {all : Array Oper} {a b : Itm} (hi : a.2.1.apart all b.2.1 = true) {s : St} {R : RO} {s' : St} {G : RO} (h : Tr P a s R s' G) : gd all s'.tm b.2.1 = gd all s.tm b.2.1 := by
  obtain ⟨v, u, rfl, h2, h3, h4⟩ := h.shape
  obtain ⟨a1, a2, a3⟩ := Oper.apart_spec hi
  unfold gd
  cases hg : b.2.1.guard with
  | none => rfl
  | some x =>
    obtain ⟨j, want⟩ := x
    cases hj : all[j]? with
    | none => simp only [hj]
    | some g =>
      cases hd : g.dst with
      | none => simp only [hj, hd]
      | some d =>
        simp only [hj, hd]
        rw [tget_set]
        intro he
        refine a1 d he ?_
        unfold Oper.looksAt
        refine List.mem_append.2 (.inr ?_)
        simp [hg, hj, hd]
theorem gd_same {all : Array Oper} {a b : Itm} (hi : Ind all a b) {s : St} {R : RO} {s' : St} {G : RO} (h : Tr P a s R s' G) : gd all s'.tm b.2.1 = gd all s.tm b.2.1 := gd_same0 hi.ap h
theorem ok_same {all : Array Oper} (hsel : Region.noSelect all = true) {a b : Itm} (hb : all[b.1]? = some b.2.1) (hi : Ind all a b) {s : St} {R : RO} {s' : St} {G : RO} (h : Tr P a s R s' G) :
    Ok P all b s' G ↔ Ok P all b s R := by
  have h1 := gd_same hi h
  obtain ⟨j, o, hh⟩ := b
  cases hh with
  | none => simp only [Ok];simp only at h1;rw [h1]
  | some hh =>
    have h2 := eff_same hsel hb hi h rfl
    simp only [Ok]
    simp only at h1 h2
    rw [h1, h2]
theorem ok_back {all : Array Oper} (hsel : Region.noSelect all = true) {a b : Itm} (ha : all[a.1]? = some a.2.1) (hi : Ind all a b) {s : St} {R : RO} {s' : St} {G : RO} (h : Tr P b s R s' G) (ho : Ok P all a s R) : Ok P all a s' G := by
  have h1 := gd_same0 (apart_symm hi.ap) h
  obtain ⟨j, o, hh⟩ := a
  cases hh with
  | none => simp only [Ok] at ho ⊢;simp only at h1;rw [h1];exact ho
  | some hh =>
    have h2 := eff_back hsel ha hi h rfl
    simp only [Ok] at ho ⊢
    simp only at h1 h2
    rw [h1]
    refine ⟨ho.1, ?_⟩
    obtain ⟨ge, h3, h4⟩ := ho.2
    rcases h2 with h2 | ⟨x, off, cs, v, hle, h5, h6⟩
    · rw [h2];exact ⟨ge, h3, h4⟩
    · rw [h6] at h3
      simp [Eff.toG] at h3
      subst h3
      exact ⟨_, by rw [h5];rfl, RO.cells_mono hle h4⟩
theorem tr_comm {all : Array Oper} (hsel : Region.noSelect all = true) {a b : Itm} (ha : all[a.1]? = some a.2.1) (hb : all[b.1]? = some b.2.1) (hi : Ind all a b)
    {s : St} {R : RO} {sb : St} {Gb : RO} {s' : St} {G' : RO} (h : Tr P b s R sb Gb) (h' : Tr P a sb Gb s' G') :
    ∃ sa Ga, Tr P a s R sa Ga∧Tr P b sa Ga s' G' := by
  obtain ⟨a1, a2, a3⟩ := Oper.apart_spec hi.ap
  obtain ⟨vb, ub, e1, hub, hgb, hlb⟩ := h.shape
  obtain ⟨va, ua, e2, hua, hga, hla⟩ := h'.shape

  have key : ∀ (c : Itm) (t : St) (S : RO) (t' : St) (S' : RO), Tr P c t S t' S' ↔ (match c.2.2 with
      | none => t' = t.set c.2.1.dst undef []∧S' = S
      | some hh => ∃ ge, (eff P c.2.1 t S hh).toG = some ge∧∃ x, ge.st x S S'∧t' = t.set c.2.1.dst (ge.f x).1 (ge.f x).2) := by
    rintro ⟨i, o, hh⟩ t S t' S'
    cases hh <;> rfl
  have stc : ∀ (ga gb : GE) (xa : ga.X) (xb : gb.X), (ga.gr = true → gb.gr = false) → gb.st xb R Gb → ga.st xa Gb G' → ∃ Ga, ga.st xa R Ga∧gb.st xb Ga G' := by
    intro ga gb xa xb hn h1 h2
    rcases Bool.eq_false_or_eq_true ga.gr with g1 | g1
    · have g2 := hn g1
      rw [GE.st_f g2] at h1
      rw [GE.st_t g1] at h2
      obtain ⟨h1, rfl⟩ := h1
      exact ⟨G', (GE.st_t g1).2 h2, (GE.st_f g2).2 ⟨h1, rfl⟩⟩
    · rw [GE.st_f g1] at h2
      obtain ⟨h2, rfl⟩ := h2
      rcases Bool.eq_false_or_eq_true gb.gr with g2 | g2
      · exact ⟨R, (GE.st_f g1).2 ⟨h2, rfl⟩, h1⟩
      · rw [GE.st_f g2] at h1
        obtain ⟨h1, rfl⟩ := h1
        exact ⟨_, (GE.st_f g1).2 ⟨h2, rfl⟩, (GE.st_f g2).2 ⟨h1, rfl⟩⟩
  have hdst : ∀ d, a.2.1.dst = some d → b.2.1.dst ≠ some d := a2
  have hdis : ∀ n ∈ wnI a.2.1 a.2.2, n ∉ wnI b.2.1 b.2.2 := fun n hn hm => hi.ab n hn (wn_sub _ _ _ hm)
  rw [key] at h h'
  cases hah : a.2.2 with
  | none =>
    simp only [hah] at h'
    obtain ⟨rfl, rfl⟩ := h'
    refine ⟨s.set a.2.1.dst undef [], R, (key ..).2 (by rw [hah];exact ⟨rfl, rfl⟩), ?_⟩
    have htr : Tr P a s R (s.set a.2.1.dst undef []) R := (key ..).2 (by rw [hah];exact ⟨rfl, rfl⟩)
    rw [key]
    cases hbh : b.2.2 with
    | none =>
      simp only [hbh] at h
      obtain ⟨rfl, rfl⟩ := h
      refine ⟨?_, rfl⟩
      exact (set_comm s undef undef (l := []) (m := []) hdst (by simp) (fun n b hm => by cases hm) (fun n b hm => by cases hm)).symm
    | some hh =>
      simp only [hbh] at h
      obtain ⟨ge, g1, x, g2, rfl⟩ := h
      refine ⟨ge, ?_, x, g2, ?_⟩
      · rw [eff_same hsel hb hi htr hbh];exact g1
      · exact (set_comm s undef _ (l := []) hdst (by simp) (fun n b hm => by cases hm) (eff_names P g1 x)).symm
  | some ha' =>
    simp only [hah] at h'
    obtain ⟨ga, g1, xa, g2, rfl⟩ := h'
    have htb : Tr P b s R sb Gb := (key ..).2 h
    obtain ⟨pa, ge1⟩ : ∃ pa, (eff P a.2.1 s R ha').toG = some ⟨pa, ga.X, ga.gr, ga.g, ga.q, ga.f⟩ := by
      rcases eff_back hsel ha hi htb hah with h2 | ⟨x, off, cs, v, hle, h5, h6⟩
      · exact ⟨ga.p, by rw [← h2];exact g1⟩
      · rw [h5] at g1
        simp [Eff.toG] at g1
        subst g1
        exact ⟨_, by rw [h6];rfl⟩
    have hnx := eff_names P ge1 xa
    cases hbh : b.2.2 with
    | none =>
      simp only [hbh] at h
      obtain ⟨rfl, rfl⟩ := h
      refine ⟨s.set a.2.1.dst (ga.f xa).1 (ga.f xa).2, G', (key ..).2 (by rw [hah];exact ⟨_, ge1, xa, g2, rfl⟩), ?_⟩
      rw [key, hbh]
      exact ⟨(set_comm s _ undef (m := []) hdst (by simp) hnx (fun n b hm => by cases hm)).symm, rfl⟩
    | some hb' =>
      simp only [hbh] at h
      obtain ⟨gb, g3, xb, g4, rfl⟩ := h
      have hgg : ga.gr = true → gb.gr = false := fun hg => by
        cases hgb' : grow hb' with
        | false => exact Tr.shape.gr_of hgb' g3
        | true =>
          have r1 := hi.gb (by rw [hbh];exact hgb')
          have hga : grow ha' = true := by
            cases hga' : grow ha' with
            | true => rfl
            | false => have := Tr.shape.gr_of hga' ge1;simp only at this;rw [this] at hg;cases hg
          rw [hah] at r1
          simp only [rdI, roI] at r1
          rw [grow_rdep hga, grow_ro hga] at r1
          rcases r1 with r1 | r1 <;> cases r1
      obtain ⟨Ga, q1, q2⟩ := stc ga gb xa xb hgg g4 g2
      · have hta : Tr P a s R (s.set a.2.1.dst (ga.f xa).1 (ga.f xa).2) Ga := (key ..).2 (by rw [hah];exact ⟨_, ge1, xa, q1, rfl⟩)
        refine ⟨_, Ga, hta, ?_⟩
        rw [key]
        simp only [hbh]
        refine ⟨gb, ?_, xb, q2, ?_⟩
        · rw [eff_same hsel hb hi hta hbh];exact g3
        · rw [hah, hbh] at hdis
          exact (set_comm s _ _ hdst hdis hnx (eff_names P g3 xb)).symm
  where
  wn_sub (o : Oper) (h : Option Hint) (n : Nat) (hm : n ∈ wnI o h) : n ∈ nmI h := by
    cases h with
    | none => exact hm
    | some h =>
      simp only [wnI, wnH] at hm
      split at hm
      · cases hm
      · unfold wmH at hm
        split at hm
        · cases hm
        · exact hm
theorem drop_item {all : Array Oper} (hsel : Region.noSelect all = true) {it : Itm} (hit : all[it.1]? = some it.2.1) {L2 : List Itm} : ∀ (L1 : List Itm) (s : St) (R : RO) (k : St → RO → Prop),
    (∀ a ∈ L1, all[a.1]? = some a.2.1∧Ind all a it) → GD P all (L1 ++ it::L2) s R k → ∀ s' G, Tr P it s R s' G → GD P all (L1 ++ L2) s' G k
  | [], s, R, k, _, h, s', G, ht => h.2 s' G ht
  | a::L1, s, R, k, hL, h, s', G, ht => by
    obtain ⟨h1, h2⟩ := h
    obtain ⟨ha, hi⟩ := hL a (List.mem_cons_self ..)
    refine ⟨ok_back hsel ha hi ht h1, fun s'' G'' ht' => ?_⟩
    obtain ⟨sa, Ga, t1, t2⟩ := tr_comm hsel ha hit hi ht ht'
    exact drop_item hsel hit L1 sa Ga k (fun b hb => hL b (List.mem_cons_of_mem _ hb)) (h2 sa Ga t1) s'' G'' t2
theorem step_item {all : Array Oper} {a : Itm} (ha : all[a.1]? = some a.2.1) {s : St} {R Rx : RO} {w : World} (ho : Ok P all a s R) (hR : R.le Rx) (hs : Sat w Rx s.hp)
    {Q : Exit → Act → World → Prop} {next : Act → World → Prop} (hn : ∀ s' G Rx' w', Tr P a s R s' G → Ext R Rx G Rx' → Sat w' Rx' s'.hp → next s'.act w') : wpOp P all Q a.1 next s.act w := by
  obtain ⟨i, o, hh⟩ := a
  unfold wpOp
  simp only at ha
  simp only [ha]
  cases hh with
  | none =>
    rw [gd_spec ho]
    simp only [Bool.false_eq_true, if_false]
    rw [St.put_set s _ _ []]
    exact hn _ R Rx w ⟨rfl, rfl⟩ (.refl hR) hs
  | some hh =>
    obtain ⟨h1, ge, h2, h3⟩ := ho
    rw [gd_spec h1]
    simp only [if_true]
    left
    refine eff_ok P o s R hh (fun s' G => Tr P (i, o, some hh) s R s' G) (fun _ _ _ => False) ?_ Rx w hR hs next Q (fun s' G Rx' w' hk hx hs' => hn s' G Rx' w' hk hx hs') (fun v s' G Rx' w' hk => hk.elim)
    rw [Eff.run_toG h2]
    exact ⟨h3, fun x G hx => ⟨ge, h2, x, hx, rfl⟩⟩
theorem wp_exists {o : Oper} {a : Act} {w : World} {next : Act → World → Prop} (h : o.wp P a w next (fun _ _ _ => False)) : ∃ a' w', next a' w' := by
  unfold Oper.wp at h
  generalize (execOp a.eval o).run P w = r at h
  cases r with
  | ok n w' =>
    cases n <;> simp only [Oper.upon] at h <;> first
      | exact ⟨_, _, h⟩
      | (obtain ⟨e, w'', fr, h1, _⟩ := h []
         cases e <;> first
          | exact ⟨_, _, h1⟩
          | exact h1.elim
          | (obtain ⟨_, _, h2⟩ := h1;exact h2.elim))
      | (obtain ⟨v, w'', h1, _⟩ := h default [];exact ⟨_, _, h1⟩)
  | halt x w' => cases x <;> simp only [Oper.upon] at h
theorem tr_exists {all : Array Oper} {a : Itm} (ha : all[a.1]? = some a.2.1) {s : St} {R Rx : RO} {w : World} (ho : Ok P all a s R) (hR : R.le Rx) (hs : Sat w Rx s.hp) :
    ∃ s' G Rx' w', Tr P a s R s' G∧Ext R Rx G Rx'∧Sat w' Rx' s'.hp := by
  have h := step_item (Q := fun _ _ _ => False) (next := fun _ _ => ∃ s' G Rx' w', Tr P a s R s' G∧Ext R Rx G Rx'∧Sat w' Rx' s'.hp) ha ho hR hs
    (fun s' G Rx' w' h1 h2 h3 => ⟨s', G, Rx', w', h1, h2, h3⟩)
  unfold wpOp at h
  simp only [ha] at h
  split at h
  · rcases h with h | ⟨_, _, _, h⟩
    · obtain ⟨_, _, h⟩ := wp_exists h;exact h
    · exact h.elim
  · exact h
theorem ok_item {all : Array Oper} (hsel : Region.noSelect all = true) {it : Itm} (hit : all[it.1]? = some it.2.1) {L2 : List Itm} : ∀ (L1 : List Itm) (s : St) (R Rx : RO) (w : World) (k : St → RO → Prop),
    (∀ a ∈ L1, all[a.1]? = some a.2.1∧Ind all a it) → GD P all (L1 ++ it::L2) s R k → R.le Rx → Sat w Rx s.hp → Ok P all it s R
  | [], s, R, Rx, w, k, _, h, _, _ => h.1
  | a::L1, s, R, Rx, w, k, hL, h, hR, hs => by
    obtain ⟨h1, h2⟩ := h
    obtain ⟨ha, hi⟩ := hL a (List.mem_cons_self ..)
    obtain ⟨s', G, Rx', w', t, hx, hs'⟩ := tr_exists ha h1 hR hs
    have := ok_item hsel hit L1 s' G Rx' w' k (fun b hb => hL b (List.mem_cons_of_mem _ hb)) (h2 s' G t) hx.leg hs'
    exact (ok_same hsel hit hi t).1 this
def isAhead (all : Array Oper) (ahead : Nat → Nat → Prop) : Prop :=
  ∀ (S : Nat → Prop), (∀ i o, all[i]? = some o → S i → ∀ e ∈ o.after, Region.binds .any e = true → S e.on) →
    ∀ j o, all[j]? = some o → (∀ e ∈ o.after, Region.binds .any e = true → S e.on) → ∀ i, ahead j i → S i
theorem wpAny_of {all : Array Oper} (hsel : Region.noSelect all = true) {ahead : Nat → Nat → Prop} (hah : isAhead all ahead)
    (hback : ∀ i o, all[i]? = some o → ∀ e ∈ o.after, Region.binds .any e = true → e.on < i) (R₀ Rx₀ : RO) (k : St → RO → Prop) :
    ∀ (n : Nat) (L : List Itm) (hn : L.length = n) (listed : Array Bool) (hsz : listed.size = all.size) (hmem : ∀ i, i < all.size → (listed.getD i false = false ↔ ∃ a ∈ L, a.1 = i))
      (hit : ∀ a ∈ L, all[a.1]? = some a.2.1) (hsort : L.Pairwise fun a b => a.1 < b.1) (hind : L.Pairwise fun a b => ahead b.1 a.1 ∨ Ind all a b)
      (hcl : ∀ i o, all[i]? = some o → listed.getD i false = true → ∀ e ∈ o.after, Region.binds .any e = true → listed.getD e.on false = true)
      (s : St) (R Rx : RO) (w : World), Ext R₀ Rx₀ R Rx → Sat w Rx s.hp → GD P all L s R k →
      wpAny P .any all (Lift R₀ Rx₀ fun e s' G => match e with | .normal => k s' G | _ => False) n listed s.act w := by
  intro n
  have ready : ∀ (L : List Itm) (listed : Array Bool), listed.size = all.size → (∀ i, i < all.size → (listed.getD i false = false ↔ ∃ a ∈ L, a.1 = i)) → ∀ i ∈ Region.ready .any all listed,
      ∃ a ∈ L, a.1 = i∧(∀ o, all[i]? = some o → ∀ e ∈ o.after, Region.binds .any e = true → listed.getD e.on false = true) := by
    intro L listed hsz hmem i hi
    obtain ⟨h1, o, h2, h3⟩ := mem_ready.1 hi
    have hlt : i < all.size := by
      rcases Nat.lt_or_ge i all.size with h | h
      · exact h
      · simp [Array.getElem?_eq_none h] at h2
    have h4 : listed.getD i false = false := by
      simp [Array.getD, show i < listed.size by omega] at h1 ⊢
      exact h1
    obtain ⟨a, ha, rfl⟩ := (hmem i hlt).1 h4
    refine ⟨a, ha, rfl, fun o' ho' e he hb => ?_⟩
    rw [h2] at ho';cases ho'
    exact h3 e he hb
  induction n with
  | zero =>
    intro L hn listed hsz hmem hit hsort hind hcl s R Rx w hx hs h
    have hL : L = [] := List.length_eq_zero_iff.1 hn
    subst hL
    refine ⟨?_, .normal, s, R, Rx, rfl, rfl, h, hx, hs⟩
    apply List.eq_nil_iff_forall_not_mem.2
    intro i hi
    obtain ⟨a, ha, _⟩ := ready [] listed hsz hmem i hi
    cases ha
  | succ n ih =>
    intro L hn listed hsz hmem hit hsort hind hcl s R Rx w hx hs h
    refine ⟨fun hr => ?_, fun i hi => ?_⟩
    ·
      exfalso
      cases L with
      | nil => simp at hn
      | cons a L =>
        have ha := hit a (List.mem_cons_self ..)
        have hlt : a.1 < all.size := by
          rcases Nat.lt_or_ge a.1 all.size with h | h
          · exact h
          · simp [Array.getElem?_eq_none h] at ha
        have : a.1 ∈ Region.ready .any all listed := by
          refine mem_ready.2 ⟨?_, a.2.1, ha, fun e he hb => ?_⟩
          · have := (hmem a.1 hlt).2 ⟨a, List.mem_cons_self .., rfl⟩
            simp [Array.getD, show a.1 < listed.size by omega] at this ⊢
            exact this
          · have h1 := hback _ _ ha e he hb
            cases hl : listed.getD e.on false with
            | true => rfl
            | false =>
              obtain ⟨b, hb1, hb2⟩ := (hmem e.on (by omega)).1 hl
              cases hb1 with
              | head => omega
              | tail _ hb1 =>
                have := (List.pairwise_cons.1 hsort).1 b hb1
                omega
        rw [hr] at this
        cases this
    · obtain ⟨it, hm, rfl, hdone⟩ := ready L listed hsz hmem i hi
      obtain ⟨L1, L2, rfl⟩ := List.append_of_mem hm
      have hitt := hit it (by simp)
      have hL1 : ∀ a ∈ L1, all[a.1]? = some a.2.1∧Ind all a it := by
        intro a ha
        refine ⟨hit a (by simp [ha]), ?_⟩
        have h1 := (List.pairwise_append.1 hind).2.2 a ha it (by simp)
        refine h1.resolve_left fun hb => ?_
        have h2 := hah (fun i => listed.getD i false = true) (fun i o ho hS e he hb => hcl i o ho hS e he hb) it.1 it.2.1 hitt (hdone _ hitt) a.1 hb
        have hlt : a.1 < all.size := by
          have := hit a (by simp [ha])
          rcases Nat.lt_or_ge a.1 all.size with h | h
          · exact h
          · simp [Array.getElem?_eq_none h] at this
        have h3 := (hmem a.1 hlt).2 ⟨a, by simp [ha], rfl⟩
        rw [h3] at h2;cases h2
      have hok := ok_item hsel hitt L1 s R Rx w k hL1 h hx.leg hs
      refine step_item hitt hok hx.leg hs fun s' G Rx' w' ht hx' hs' => ?_
      have hltI : it.1 < all.size := by
        rcases Nat.lt_or_ge it.1 all.size with h | h
        · exact h
        · simp [Array.getElem?_eq_none h] at hitt
      have hnd : ∀ a ∈ L1 ++ L2, a.1 ≠ it.1 := by
        intro a ha
        rcases List.mem_append.1 ha with ha | ha
        · have := (List.pairwise_append.1 hsort).2.2 a ha it (by simp);omega
        · have := (List.pairwise_cons.1 (List.pairwise_append.1 hsort).2.1).1 a ha;omega
      have hget : ∀ j, (listed.setIfInBounds it.1 true).getD j false = if j = it.1 then true else listed.getD j false := by
        intro j
        by_cases hj : j = it.1
        · subst hj;simp [Array.getD, show it.1 < listed.size by omega]
        · rw [if_neg hj, getD_set_ne];exact fun he => hj he.symm
      have hsub : List.Sublist (L1 ++ L2) (L1 ++ it::L2) := List.Sublist.append (List.Sublist.refl _) (List.sublist_cons_self ..)
      refine ih (L1 ++ L2) (by simp at hn ⊢;omega) _ (by simpa using hsz) (fun j hj => ?_) (fun a ha => hit a (hsub.subset ha)) (hsort.sublist hsub) (hind.sublist hsub) (fun j o ho hj e he hb => ?_)
        s' G Rx' w' (hx.trans hx') hs' (drop_item hsel hitt L1 s R k hL1 h s' G ht)
      · rw [hget]
        by_cases hji : j = it.1
        · subst hji
          simp only [if_true]
          constructor
          · intro h;cases h
          · rintro ⟨a, ha, he⟩;exact (hnd a ha he).elim
        · rw [if_neg hji, hmem j hj]
          constructor
          · rintro ⟨a, ha, rfl⟩
            refine ⟨a, ?_, rfl⟩
            simp at ha ⊢
            rcases ha with ha | rfl | ha
            · exact .inl ha
            · exact (hji rfl).elim
            · exact .inr ha
          · rintro ⟨a, ha, rfl⟩;exact ⟨a, hsub.subset ha, rfl⟩
      · rw [hget]
        split
        · rfl
        · by_cases hji : j = it.1
          · subst hji
            exact hdone o ho e he hb
          · rw [hget, if_neg hji] at hj
            exact hcl j o ho hj e he hb
end
end Vc
set_option linter.unusedVariables false
set_option linter.unusedSimpArgs false
namespace Vc
open Go
def nth : List Nat → Nat → Nat
  | [], _ => 0
  | x::_, 0 => x
  | _::l, n + 1 => nth l n
def orE (acc : List Nat) : List Edge → Nat → Nat
  | [], m => m
  | e::es, m => match Region.binds .any e with
    | true => orE acc es (m ||| 2 ^ e.on ||| nth acc e.on)
    | false => orE acc es m
def masks : List Oper → List Nat → List Nat
  | [], acc => acc
  | o::l, acc => masks l (acc ++ [orE acc o.after.toList 0])
def backB : Nat → List Oper → Bool
  | _, [] => true
  | i, o::l => match go i o.after.toList with
    | true => backB (i + 1) l
    | false => false
  where
  go (i : Nat) : List Edge → Bool
    | [] => true
    | e::es => match Region.binds .any e with
      | true => match Nat.ble (e.on + 1) i with
        | true => go i es
        | false => false
      | false => go i es
def noSel : List Oper → Bool
  | [] => true
  | o::l => match o.op with
    | .select .. => false
    | _ => noSel l
def itms : Nat → List Oper → List (Option Hint) → List Itm
  | i, o::l, h::hs => (i, o, h)::itms (i + 1) l hs
  | _, _, _ => []
def pairOK (all : Array Oper) (ms : List Nat) (b : Itm) : List Itm → Bool
  | [] => true
  | a::l => match (nth ms b.1).testBit a.1 with
    | true => pairOK all ms b l
    | false => match indB all a b with
      | true => pairOK all ms b l
      | false => false
def pairsOK (all : Array Oper) (ms : List Nat) : List Itm → List Itm → Bool
  | _, [] => true
  | acc, b::l => match pairOK all ms b acc with
    | true => pairsOK all ms (b::acc) l
    | false => false
def drawOK (all : Array Oper) (hs : List (Option Hint)) : Bool :=
  match noSel all.toList, backB 0 all.toList, Nat.beq all.toList.length hs.length with
  | true, true, true => pairsOK all (masks all.toList []) [] (itms 0 all.toList hs)
  | _, _, _ => false
theorem nth_append : ∀ (l : List Nat) (x j : Nat), nth (l ++ [x]) j = if j = l.length then x else nth l j
  | [], x, 0 => by simp [nth]
  | [], x, j + 1 => by simp [nth]
  | a::l, x, 0 => by simp [nth]
  | a::l, x, j + 1 => by simp [nth, nth_append l x j]
theorem nth_out : ∀ (l : List Nat) (j : Nat), l.length ≤ j → nth l j = 0
  | [], j, _ => by cases j <;> rfl
  | a::l, 0, h => by simp at h
  | a::l, j + 1, h => by simp at h;simp [nth, nth_out l j h]
section
variable {all : Array Oper}
def mInv (all : Array Oper) (acc : List Nat) : Prop :=
  ∀ (S : Nat → Prop), (∀ i o, all[i]? = some o → S i → ∀ e ∈ o.after, Region.binds .any e = true → S e.on) →
    ∀ j, j < acc.length → ∀ o, all[j]? = some o → (∀ e ∈ o.after, Region.binds .any e = true → S e.on) → ∀ i, (nth acc j).testBit i = true → S i
theorem orE_bits {acc : List Nat} (hacc : mInv all acc) (hlen : acc.length ≤ all.size) {S : Nat → Prop}
    (hS : ∀ i o, all[i]? = some o → S i → ∀ e ∈ o.after, Region.binds .any e = true → S e.on) :
    ∀ (es : List Edge) (m : Nat), (∀ e ∈ es, Region.binds .any e = true → S e.on) → (∀ i, m.testBit i = true → S i) → ∀ i, (orE acc es m).testBit i = true → S i
  | [], m, he, hm, i, h => hm i h
  | e::es, m, he, hm, i, h => by
    simp only [orE] at h
    split at h
    · rename_i hb
      have hon := he e (List.mem_cons_self ..) hb
      refine orE_bits hacc hlen hS es _ (fun e' h' => he e' (List.mem_cons_of_mem _ h')) (fun i hi => ?_) i h
      simp only [Nat.testBit_or, Bool.or_eq_true] at hi
      rcases hi with (hi | hi) | hi
      · exact hm i hi
      · rw [Nat.testBit_two_pow] at hi
        simp at hi
        exact hi ▸ hon
      · rcases Nat.lt_or_ge e.on acc.length with hl | hl
        · have hlt : e.on < all.size := by omega
          have ho : all[e.on]? = some all[e.on] := Array.getElem?_eq_getElem hlt
          exact hacc S hS e.on hl _ ho (hS e.on _ ho hon) i hi
        · rw [nth_out _ _ hl] at hi;simp at hi
    · exact orE_bits hacc hlen hS es m (fun e' h' => he e' (List.mem_cons_of_mem _ h')) hm i h
theorem masks_inv : ∀ (l : List Oper) (acc : List Nat), (∀ k o, l[k]? = some o → all[acc.length + k]? = some o) → acc.length + l.length ≤ all.size → mInv all acc → mInv all (masks l acc)
  | [], acc, _, _, h => h
  | o::l, acc, hl, hlen, h => by
    simp only [masks]
    simp at hlen
    refine masks_inv l _ (fun k o' hk => ?_) (by simp;omega) ?_
    · have := hl (k + 1) o' (by simpa using hk)
      simp only [List.length_append, List.length_cons, List.length_nil]
      rw [show acc.length + (0 + 1) + k = acc.length + (k + 1) by omega]
      exact this
    · intro S hS j hj o' ho' he i hi
      rw [nth_append] at hi
      split at hi
      · rename_i hj'
        subst hj'
        have h0 := hl 0 o (by simp)
        simp only [Nat.add_zero] at h0
        rw [h0] at ho';cases ho'
        exact orE_bits h (by omega) hS o.after.toList 0 (fun e h' hb => he e (by simpa using h') hb) (fun i h' => by simp at h') i hi
      · rename_i hj'
        simp at hj
        exact h S hS j (by omega) o' ho' he i hi
theorem masks_ahead : isAhead all fun j i => (nth (masks all.toList []) j).testBit i = true := by
  intro S hS j o ho he i hi
  have hlen : ∀ (l : List Oper) (acc : List Nat), (masks l acc).length = acc.length + l.length := by
    intro l
    induction l with
    | nil => intro acc;simp [masks]
    | cons o l ih => intro acc;simp [masks, ih];omega
  have hj : j < all.size := by
    rcases Nat.lt_or_ge j all.size with h | h
    · exact h
    · simp [Array.getElem?_eq_none h] at ho
  exact masks_inv all.toList [] (fun k o h => by simpa using h) (by simp) (fun _ _ j hj => by simp at hj) S hS j (by rw [hlen];simpa using hj) o ho he i hi
theorem noSel_spec : ∀ {l : List Oper}, noSel l = true → ∀ o ∈ l, ∀ cs b, o.op ≠ .select cs b
  | [], _, o, ho => by cases ho
  | x::l, h, o, ho => by
    simp only [noSel] at h
    split at h
    · cases h
    · rename_i hne
      cases ho with
      | head => exact fun cs b he => hne cs b he
      | tail _ hm => exact noSel_spec h o hm
theorem noSelect_of (h : noSel all.toList = true) : Region.noSelect all = true := by
  unfold Region.noSelect
  rw [Array.all_eq_true_iff_forall_mem]
  intro o ho
  have := noSel_spec h o (by simpa using ho)
  split
  · rename_i cs b he;exact (this cs b he).elim
  · rfl
theorem back_go {i : Nat} : ∀ {es : List Edge}, backB.go i es = true → ∀ e ∈ es, Region.binds .any e = true → e.on < i
  | [], _, e, he, _ => by cases he
  | x::es, h, e, he, hb => by
    simp only [backB.go] at h
    split at h
    · split at h
      · rename_i h2
        cases he with
        | head => have := Nat.le_of_ble_eq_true h2;omega
        | tail _ hm => exact back_go h e hm hb
      · cases h
    · rename_i h1
      cases he with
      | head => rw [hb] at h1;cases h1
      | tail _ hm => exact back_go h e hm hb
theorem backB_spec : ∀ {l : List Oper} {i : Nat}, backB i l = true → ∀ k o, l[k]? = some o → ∀ e ∈ o.after, Region.binds .any e = true → e.on < i + k
  | [], i, _, k, o, hk, _, _, _ => by simp at hk
  | x::l, i, h, 0, o, hk, e, he, hb => by
    simp only [backB] at h
    split at h
    · rename_i h1
      simp at hk;subst hk
      exact back_go h1 e (by simpa using he) hb
    · cases h
  | x::l, i, h, k + 1, o, hk, e, he, hb => by
    simp only [backB] at h
    split at h
    · have := backB_spec h k o (by simpa using hk) e he hb
      omega
    · cases h
theorem itms_spec : ∀ (i : Nat) (l : List Oper) (hs : List (Option Hint)) (hl : l.length = hs.length),
    (itms i l hs).length = l.length∧(∀ a ∈ itms i l hs, i ≤ a.1∧l[a.1 - i]? = some a.2.1)∧(itms i l hs).Pairwise (fun a b => a.1 < b.1)∧(∀ k, k < l.length → ∃ a ∈ itms i l hs, a.1 = i + k)
  | i, [], [], _ => by simp [itms]
  | i, [], _::_, h => by simp at h
  | i, _::_, [], h => by simp at h
  | i, o::l, h::hs, hl => by
    obtain ⟨h1, h2, h3, h4⟩ := itms_spec (i + 1) l hs (by simpa using hl)
    simp only [itms]
    refine ⟨by simp [h1], ?_, ?_, ?_⟩
    · intro a ha
      cases ha with
      | head => simp
      | tail _ hm =>
        obtain ⟨q1, q2⟩ := h2 a hm
        refine ⟨by omega, ?_⟩
        rw [show a.1 - i = (a.1 - (i + 1)) + 1 by omega]
        simpa using q2
    · refine List.pairwise_cons.2 ⟨fun a ha => ?_, h3⟩
      have := (h2 a ha).1
      show i < a.1
      omega
    · intro k hk
      cases k with
      | zero => exact ⟨(i, o, h), List.mem_cons_self .., rfl⟩
      | succ k =>
        obtain ⟨a, q1, q2⟩ := h4 k (by simpa using hk)
        exact ⟨a, List.mem_cons_of_mem _ q1, by omega⟩
theorem pairOK_spec {ms : List Nat} {b : Itm} : ∀ {l : List Itm}, pairOK all ms b l = true → ∀ a ∈ l, (nth ms b.1).testBit a.1 = true ∨ Ind all a b
  | [], _, a, ha => by cases ha
  | x::l, h, a, ha => by
    simp only [pairOK] at h
    split at h
    · rename_i h1
      cases ha with
      | head => exact .inl h1
      | tail _ hm => exact pairOK_spec h a hm
    · split at h
      · rename_i h2
        cases ha with
        | head => exact .inr (indB_spec h2)
        | tail _ hm => exact pairOK_spec h a hm
      · cases h
theorem pairsOK_spec {ms : List Nat} : ∀ {l acc : List Itm}, pairsOK all ms acc l = true → l.Pairwise (fun a b => (nth ms b.1).testBit a.1 = true ∨ Ind all a b) ∧
      ∀ a ∈ acc, ∀ b ∈ l, (nth ms b.1).testBit a.1 = true ∨ Ind all a b
  | [], acc, _ => ⟨List.Pairwise.nil, fun _ _ _ h => by cases h⟩
  | b::l, acc, h => by
    simp only [pairsOK] at h
    split at h
    · rename_i h1
      obtain ⟨h2, h3⟩ := pairsOK_spec h
      refine ⟨List.pairwise_cons.2 ⟨fun c hc => h3 b (List.mem_cons_self ..) c hc, h2⟩, fun a ha c hc => ?_⟩
      cases hc with
      | head => exact pairOK_spec h1 a ha
      | tail _ hm => exact h3 a (List.mem_cons_of_mem _ ha) c hm
    · cases h
variable (P : Program)
def okE : Hint → Bool
  | .dfr => false
  | _ => true
def wopsD (all : Array Oper) : List Oper → List (Option Hint) → St → RO → (St → RO → Prop) → Prop
  | [], [], s, R, k => k s R
  | o::l, none::hs, s, R, k => match gd all s.tm o with
    | some false => wopsD all l hs ⟨put s.tm o.dst undef, s.df, s.hp⟩ R k
    | _ => False
  | o::l, some h::hs, s, R, k => match gd all s.tm o, okE h with
    | some true, true => (eff P o s R h).run s R o.dst (fun s' R' => wopsD all l hs s' R' k) (fun _ _ _ => False)
    | _, _ => False
  | _, _, _, _, _ => False
variable {P}
theorem toG_of_run {o : Oper} {s : St} {R : RO} {h : Hint} {k : St → RO → Prop} (hh : okE h = true) (hr : (eff P o s R h).run s R o.dst k (fun _ _ _ => False)) :
    ∃ ge, (eff P o s R h).toG = some ge := by
  generalize he : eff P o s R h = E at hr
  cases E with
  | no => exact hr.elim
  | pan v => exact hr.elim
  | panc p v u => exact hr.2.elim
  | dfr d =>
    exfalso
    cases h with
    | dfr => simp [okE] at hh
    | d => simp only [eff, effD] at he;(repeat' split at he) <;> cases he
    | db b => simp only [eff, effDb] at he;(repeat' split at he) <;> cases he
    | cv v => simp only [eff, effCv] at he;cases he
    | pan => simp only [eff, effPan] at he;(repeat' split at he) <;> cases he
    | nw => simp only [eff, effNw] at he;(repeat' split at he) <;> cases he
    | dv => simp only [eff, effDv] at he;(repeat' split at he) <;> cases he
    | sh => simp only [eff, effSh] at he;(repeat' split at he) <;> cases he
    | cat => simp only [eff, effCat] at he;(repeat' split at he) <;> cases he
    | eqs => simp only [eff, effEq] at he;(repeat' split at he) <;> cases he
    | ix => simp only [eff, effIx] at he;(repeat' split at he) <;> cases he
    | ib B O => simp only [eff, effIb] at he;(repeat' split at he) <;> cases he
    | pr fp nn X q g => simp only [eff, effPr] at he;(repeat' split at he) <;> cases he
    | pr0 fp nn v B => simp only [eff, effPr0] at he;(repeat' split at he) <;> cases he
    | ia => simp only [eff, effIa] at he;(repeat' split at he) <;> cases he
    | ss => simp only [eff, effSs] at he;(repeat' split at he) <;> cases he
    | sl0 => simp only [eff, effSl0] at he;(repeat' split at he) <;> cases he
    | sl => simp only [eff, effSl] at he;(repeat' split at he) <;> cases he
    | ro cs => simp only [eff, effRo] at he;(repeat' split at he) <;> cases he
    | p i => simp only [eff, effP] at he;(repeat' split at he) <;> cases he
    | q i v => simp only [eff, effQ] at he;(repeat' split at he) <;> cases he
    | sq i cs => simp only [eff, effSq] at he;(repeat' split at he) <;> cases he
    | n i => simp only [eff, effN] at he;(repeat' split at he) <;> cases he
    | call fp nn X g => simp only [eff, effCall] at he;(repeat' split at he) <;> cases he
    | callG fp nn X q g => simp only [eff, effCallG] at he;(repeat' split at he) <;> cases he
    | callR fp r => simp only [eff, effCallR] at he;(repeat' split at he) <;> cases he
    | call0 fp nn r B => simp only [eff, effCall0] at he;(repeat' split at he) <;> cases he
  | val v => exact ⟨_, rfl⟩
  | det p v u => exact ⟨_, rfl⟩
  | new f => exact ⟨_, rfl⟩
  | gen p X g f => exact ⟨_, rfl⟩
  | genG p X q f => exact ⟨_, rfl⟩
theorem wopsD_GD : ∀ (l : List Oper) (hs : List (Option Hint)) (i : Nat) (s : St) (R : RO) (k : St → RO → Prop), wopsD P all l hs s R k → GD P all (itms i l hs) s R k
  | [], [], i, s, R, k, h => h
  | [], _::_, i, s, R, k, h => by simp [wopsD] at h
  | _::_, [], i, s, R, k, h => by simp [wopsD] at h
  | o::l, none::hs, i, s, R, k, h => by
    simp only [wopsD] at h
    split at h
    · rename_i hg
      refine ⟨hg, ?_⟩
      rintro s' G ⟨rfl, rfl⟩
      exact wopsD_GD l hs (i + 1) _ _ k h
    · exact h.elim
  | o::l, some hh::hs, i, s, R, k, h => by
    simp only [wopsD] at h
    split at h
    · rename_i hg hk
      obtain ⟨ge, hge⟩ := toG_of_run hk h
      rw [Eff.run_toG hge] at h
      refine ⟨⟨hg, ge, hge, h.1⟩, ?_⟩
      rintro s' G ⟨ge', hge', x, hx, rfl⟩
      rw [hge] at hge';cases hge'
      exact wopsD_GD l hs (i + 1) _ _ k (h.2 x G hx)
    · exact h.elim
theorem draw_sound {id : Nat} {hs : List (Option Hint)} (hm : P.follows .mixedOrders = true) (hd : drawOK all hs = true) {s : St} {R : RO} {k : St → RO → Prop}
    (h : wopsD P all all.toList hs s R k) : CT P (.region id all true) s R fun e s' G => match e with | .normal => k s' G | _ => False := by
  intro Rx w hR hsat
  unfold drawOK at hd
  split at hd
  · rename_i h1 h2 h3
    have hlen : all.toList.length = hs.length := Nat.eq_of_beq_eq_true h3
    obtain ⟨i1, i2, i3, i4⟩ := itms_spec 0 all.toList hs hlen
    refine wp_region_any hm ?_
    refine wpAny_of (noSelect_of h1) masks_ahead (fun i o ho e he hb => ?_) R Rx k all.size (itms 0 all.toList hs) (by rw [i1];simp) _ (by simp) (fun i hi => ?_) (fun a ha => ?_) i3
      (pairsOK_spec hd).1 (fun i o ho hl => ?_) s R Rx _ (.refl hR) (hsat.heap rfl ⟨rfl, rfl, rfl⟩) (wopsD_GD _ _ 0 s R k h)
    · have := backB_spec h2 i o (by simpa using ho) e he hb
      omega
    · constructor
      · intro _
        obtain ⟨a, ha, he⟩ := i4 i (by simpa using hi)
        exact ⟨a, ha, by omega⟩
      · intro _
        simp [Array.getD]
    · have := (i2 a ha).2
      simpa using this
    · have hlt : i < all.size := by
        rcases Nat.lt_or_ge i all.size with h | h
        · exact h
        · simp [Array.getElem?_eq_none h] at ho
      simp [Array.getD] at hl
  · cases hd
end
end Vc
set_option linter.unusedVariables false
set_option linter.unusedSimpArgs false
namespace Vc
open Go
inductive Sc : Type 1 where
  | fin (keep : List Nat) (rp : List (Nat×Option Value))
  | op (h : Hint) (k : Sc)
  | br (d : Nat) (b : Bool) (k : Sc)
  | sp (d : Nat) (k l : Sc)
  | cs (c : Bool) (k l : Sc)
  | opx (fp nn : List Nat) (X : Type) (g : X → Value×Hp) (k : X → Sc)
  | opg (fp nn : List Nat) (X : Type) (q : X → RO → Prop) (g : X → Value×Hp) (k : X → Sc)
  | opn (i : Nat) (k : Nat → Sc)
  | opp (fp nn : List Nat) (X : Type) (q : X → Prop) (g : X → Value×Hp) (k : X → Sc)
  | adr (i : Nat) (k : Nat → Sc)
  | un (n : Nat) (k : Sc)
  | rw (s' : St) (k : Sc)
  | ex (X : Type) (q : X → Prop) (k : X → Sc)
  | or (p q : Prop) (k l : Sc)
  | dr (hs : List (Option Hint)) (k : Sc)
  | alt (X : Type) (q : X → Prop) (out : X → Exit'×St) (k : X → Sc) (rest : Sc)
  | altG (X : Type) (q : X → RO → Prop) (out : X → Exit'×St) (k : X → Sc) (rest : Sc)
  | altn
def ops : List Hint → Sc → Sc
  | [], k => k
  | h::l, k => .op h (ops l k)
def pre : Sc → St → (St → Sc → Prop) → Prop
  | .br d b k, s, f => match tget s.tm d with
    | .bool c => c = b∧pre k ⟨tput s.tm d (.bool b), s.df, s.hp⟩ f
    | _ => False
  | .sp d k l, s, f => match tget s.tm d with
    | .bool c => (c = true → pre k ⟨tput s.tm d (.bool true), s.df, s.hp⟩ f)∧(c = false → pre l ⟨tput s.tm d (.bool false), s.df, s.hp⟩ f)
    | _ => False
  | .cs c k l, s, f => (c = true → pre k s f)∧(c = false → pre l s f)
  | .adr i k, s, f => pre (k (adr s.hp i)) s f
  | .rw s' k, s, f => s = s'∧pre k s' f
  | .ex X q k, s, f => (∃ x, q x)∧∀ x, q x → pre (k x) s f
  | .or p q k l, s, f => (p ∨ q)∧(p → pre k s f)∧(q → pre l s f)
  | sc, s, f => f s sc
theorem tput_tget : ∀ (l : List Value) (d : Nat), tput l d (tget l d) = l
  | [], d => by simp [tput]
  | x::l, 0 => rfl
  | x::l, d + 1 => by simp [tput, tget, tput_tget l d]
theorem pre_sound : ∀ {sc : Sc} {s : St} {f : St → Sc → Prop}, pre sc s f → ∃ sc', f s sc'
  | .fin keep rp, s, f, h => ⟨_, h⟩
  | .op _ _, s, f, h => ⟨_, h⟩
  | .opx _ _ _ _ _, s, f, h => ⟨_, h⟩
  | .opg _ _ _ _ _ _, s, f, h => ⟨_, h⟩
  | .opn _ _, s, f, h => ⟨_, h⟩
  | .un _ _, s, f, h => ⟨_, h⟩
  | .opp _ _ _ _ _ _, s, f, h => ⟨_, h⟩
  | .adr i k, s, f, h => by
    simp only [pre] at h
    exact pre_sound h
  | .rw s' k, s, f, h => by
    simp only [pre] at h
    obtain ⟨rfl, h⟩ := h
    exact pre_sound h
  | .ex X q k, s, f, h => by
    simp only [pre] at h
    obtain ⟨⟨x, hx⟩, h⟩ := h
    exact pre_sound (h x hx)
  | .or p q k l, s, f, h => by
    simp only [pre] at h
    obtain ⟨h0 | h0, h1, h2⟩ := h
    · exact pre_sound (h1 h0)
    · exact pre_sound (h2 h0)
  | .dr hs k, s, f, h => ⟨_, h⟩
  | .alt X q out k rest, s, f, h => ⟨_, h⟩
  | .altG X q out k rest, s, f, h => ⟨_, h⟩
  | .altn, s, f, h => ⟨_, h⟩
  | .br d b k, s, f, h => by
    simp only [pre] at h
    split at h
    · rename_i c hc
      obtain ⟨rfl, h⟩ := h
      rw [← hc, tput_tget] at h
      exact pre_sound h
    · exact h.elim
  | .cs c k l, s, f, h => by
    simp only [pre] at h
    cases c with
    | true => exact pre_sound (h.1 rfl)
    | false => exact pre_sound (h.2 rfl)
  | .sp d k l, s, f, h => by
    simp only [pre] at h
    split at h
    · rename_i c hc
      cases c with
      | true =>
        have h := h.1 rfl
        rw [← hc, tput_tget] at h
        exact pre_sound h
      | false =>
        have h := h.2 rfl
        rw [← hc, tput_tget] at h
        exact pre_sound h
    · exact h.elim
def St.up (s : St) (l : List (Nat×Value)) (h : Hp) : St := ⟨l.foldl (fun t p => tput t p.1 p.2) s.tm, s.df, h⟩
def St.cut (s t : St) : Prop := s.tm = t.tm∧s.df = t.df∧s.hp.take t.hp.length = t.hp
theorem Hp.at_take : ∀ {H : Hp} {n i : Nat} {x : Nat×Blk}, Hp.at (H.take n) i = some x → H.at i = some x
  | [], n, i, x, h => by simp [Hp.at_nil] at h
  | a::l, 0, i, x, h => by simp [Hp.at_nil] at h
  | a::l, n + 1, 0, x, h => by simpa [Hp.at] using h
  | a::l, n + 1, i + 1, x, h => by
    simp only [List.take_succ_cons, Hp.at] at h ⊢
    exact Hp.at_take h
theorem St.cut_act {s t : St} (h : s.cut t) : s.act = t.act := by
  unfold St.act;rw [h.1, h.2.1]
theorem St.cut_sat {s t : St} (h : s.cut t) {w : World} {R : RO} (hs : Sat w R s.hp) : Sat w R t.hp := by
  rw [← h.2.2]
  exact ⟨hs.ro, fun i a B hi => hs.own i a B (Hp.at_take hi), fun i a B hi => hs.off i a B (Hp.at_take hi), fun i j a B C hi hj => hs.one i j a B C (Hp.at_take hi) (Hp.at_take hj), hs.os, hs.tape, hs.out⟩
def altPost (R : RO) : Sc → Exit' → St → RO → Prop
  | .alt X q out _ rest, e, s', G => (G = R∧∃ x : X, q x∧e = (out x).1∧s'.cut (out x).2) ∨ altPost R rest e s' G
  | .altG X q out _ rest, e, s', G => (∃ x : X, q x G∧e = (out x).1∧s'.cut (out x).2) ∨ altPost R rest e s' G
  | _, _, _, _ => False
def altK (R : RO) (K : Exit' → St → RO → Sc → Prop) : Sc → Prop
  | .alt X q out k rest => (∀ x : X, q x → K (out x).1 (out x).2 R (k x))∧altK R K rest
  | .altG X q out k rest => (∀ (x : X) (G : RO), R.le G → q x G → K (out x).1 (out x).2 G (k x))∧altK R K rest
  | _ => True
section
variable (P : Program)
def wops (all : Array Oper) : List Oper → St → RO → Sc → (St → RO → Sc → Prop) → (Value → St → RO → Sc → Prop) → Prop
  | [], s, R, sc, k, kp => k s R sc
  | o::l, s, R, sc, k, kp => pre sc s fun s sc => match gd all s.tm o with
    | some true => match sc with
      | .op h sc' => (eff P o s R h).run s R o.dst (fun s' R' => wops all l s' R' sc' k kp) (fun v s' R' => kp v s' R' sc')
      | .opn i kk => match effN P o s i with
        | .new f => ∀ a : Nat, wops all l (s.set o.dst (f a).1 (f a).2) R (kk a) k kp
        | _ => False
      | .opp fp nn X q g kk => match pcOf (ev s.tm) o, nodupN (fp ++ nn), freshN s.hp nn with
        | some c, true, true => PrimOK P c R (fp.map s.hp.at) X q g∧∀ x : X, q x → wops all l (s.set o.dst (g x).1 (zipU (fp ++ nn) (g x).2)) R (kk x) k kp
        | _, _, _ => False
      | .opx fp nn X g kk => match pureE P (execOp (ev s.tm) o), nodupN (fp ++ nn), freshN s.hp nn with
        | some (f, args), true, true => Does P f args.toList R (fp.map s.hp.at) (fun r G B => G = R∧∃ x, r = .ret (g x).1∧B = (g x).2) ∧
            ∀ x : X, wops all l (s.set o.dst (g x).1 (zipU (fp ++ nn) (g x).2)) R (kk x) k kp
        | _, _, _ => False
      | .opg fp nn X q g kk => match pureE P (execOp (ev s.tm) o), nodupN (fp ++ nn), freshN s.hp nn with
        | some (f, args), true, true => Does P f args.toList R (fp.map s.hp.at) (fun r G B => ∃ x, q x G∧r = .ret (g x).1∧B = (g x).2) ∧
            ∀ (x : X) (G : RO), R.le G → q x G → wops all l (s.set o.dst (g x).1 (zipU (fp ++ nn) (g x).2)) G (kk x) k kp
        | _, _, _ => False
      | _ => False
    | some false => wops all l ⟨put s.tm o.dst undef, s.df, s.hp⟩ R sc k kp
    | none => False
def unr (W : St → RO → Sc → (Exit' → St → RO → Sc → Prop) → Prop) (K : Exit' → St → RO → Sc → Prop) : Nat → St → RO → Sc → Prop
  | 0, _, _, _ => False
  | n + 1, s, R, sc => W s R sc fun e s' R' sc' => match e with
    | .normal => unr W K n s' R' sc'
    | e => K e s' R' sc'
def wp : Code → St → RO → Sc → (Exit' → St → RO → Sc → Prop) → Prop
  | .skip, s, R, sc, K => K .normal s R sc
  | .label _, s, R, sc, K => K .normal s R sc
  | .region i ops false, s, R, sc, K => pre sc s fun s sc => match sc with
    | .alt X q out k rest => CT P (.region i ops false) s R (altPost R (.alt X q out k rest))∧altK R K (.alt X q out k rest)
    | .altG X q out k rest => CT P (.region i ops false) s R (altPost R (.altG X q out k rest))∧altK R K (.altG X q out k rest)
    | sc => wops P ops ops.toList s R sc (fun s' R' sc' => K .normal s' R' sc') (fun v s' R' sc' => K (.panic v) s' R' sc')
  | .seq a b, s, R, sc, K => wp a s R sc fun e s' R' sc' => match e with
    | .normal => wp b s' R' sc' K
    | e => K e s' R' sc'
  | .cond c x y, s, R, sc, K => pre sc s fun s sc => match sc with
    | .alt X q out k rest => CT P (.cond c x y) s R (altPost R (.alt X q out k rest))∧altK R K (.alt X q out k rest)
    | .altG X q out k rest => CT P (.cond c x y) s R (altPost R (.altG X q out k rest))∧altK R K (.altG X q out k rest)
    | sc => match ev s.tm c with
      | .bool true => wp x s R sc K
      | .bool false => wp y s R sc K
      | _ => False
  | .ret, s, R, sc, K => K .ret s R sc
  | .exit i, s, R, sc, K => K (.exit i) s R sc
  | .goto i, s, R, sc, K => K (.goto i) s R sc
  | .block i c, s, R, sc, K => wp c s R sc fun e s' R' sc' => match e with
    | .exit j => match Nat.beq j i with
      | true => K .normal s' R' sc'
      | false => K (.exit j) s' R' sc'
    | e => K e s' R' sc'
  | .loop c, s, R, sc, K => pre sc s fun s sc => match sc with
    | .alt X q out k rest => CT P (.loop c) s R (altPost R (.alt X q out k rest))∧altK R K (.alt X q out k rest)
    | .altG X q out k rest => CT P (.loop c) s R (altPost R (.altG X q out k rest))∧altK R K (.altG X q out k rest)
    | .un 0 (.alt X q out k rest) => CT P (.loop c) s R (altPost R (.alt X q out k rest))∧altK R K (.alt X q out k rest)
    | .un 0 (.altG X q out k rest) => CT P (.loop c) s R (altPost R (.altG X q out k rest))∧altK R K (.altG X q out k rest)
    | .un n k => unr (fun s R sc K => wp c s R sc K) K n s R k
    | _ => False
  | .rangeFunc f ps aZ c, s, R, sc, K => pre sc s fun s sc => match sc with
    | .alt X q out k rest => CT P (.rangeFunc f ps aZ c) s R (altPost R (.alt X q out k rest))∧altK R K (.alt X q out k rest)
    | .altG X q out k rest => CT P (.rangeFunc f ps aZ c) s R (altPost R (.altG X q out k rest))∧altK R K (.altG X q out k rest)
    | _ => False
  | .region i ops true, s, R, sc, K => pre sc s fun s sc => match sc with
    | .alt X q out k rest => CT P (.region i ops true) s R (altPost R (.alt X q out k rest))∧altK R K (.alt X q out k rest)
    | .altG X q out k rest => CT P (.region i ops true) s R (altPost R (.altG X q out k rest))∧altK R K (.altG X q out k rest)
    | .un _ (.alt X q out k rest) => CT P (.region i ops true) s R (altPost R (.alt X q out k rest))∧altK R K (.alt X q out k rest)
    | .un _ (.altG X q out k rest) => CT P (.region i ops true) s R (altPost R (.altG X q out k rest))∧altK R K (.altG X q out k rest)
    | .dr hs k => match P.follows .mixedOrders, drawOK ops hs with
      | true, true => wopsD P ops ops.toList hs s R (fun s' R' => K .normal s' R' k)
      | _, _ => False
    | _ => False
  | .scope _, _, _, _, _ => False
  | .refuse _, _, _, _, _ => False
variable {P}
theorem wops_sound {all : Array Oper} (hall : ∀ i, i < all.size → True) : ∀ (l : List Nat) (ol : List Oper) (_ : l.map (all[·]?) = ol.map some) (s : St) (R : RO) (sc : Sc)
    (k : St → RO → Sc → Prop) (kp : Value → St → RO → Sc → Prop), wops P all ol s R sc k kp → ∀ Rx w, R.le Rx → Sat w Rx s.hp →
    wpOps P all (Lift R Rx fun e s' G => match e with
      | .normal => ∃ sc', k s' G sc'
      | .panic v => ∃ sc', kp v s' G sc'
      | _ => False) l s.act w
  | [], [], _, s, R, sc, k, kp, h, Rx, w, hR, hs => ⟨.normal, s, R, Rx, rfl, rfl, ⟨sc, h⟩, .refl hR, hs⟩
  | [], _::_, hm, s, R, sc, k, kp, h, Rx, w, hR, hs => by simp at hm
  | _::_, [], hm, s, R, sc, k, kp, h, Rx, w, hR, hs => by simp at hm
  | i::l, o::ol, hm, s, R, sc, k, kp, h, Rx, w, hR, hs => by
    simp only [List.map_cons, List.cons.injEq] at hm
    obtain ⟨hi, hm⟩ := hm
    simp only [wops] at h
    obtain ⟨sc, h⟩ := pre_sound h
    simp only [wpOps, hi]
    split at h
    · rename_i hg
      rw [gd_spec hg]
      simp only [if_true]
      split at h
      · rename_i hh sc'
        left
        refine eff_ok P o s R hh _ _ h Rx w hR hs _ _ ?_ ?_
        · intro s' G Rx' w' hk hx hs'
          have ih := wops_sound hall l ol hm s' G sc' k kp hk Rx' w' hx.leg hs'
          exact wpOps_mono (fun e a w hl => Lift.later hx hl) ih
        · intro v s' G Rx' w' hk hx hs'
          exact ⟨.panic v, s', G, Rx', rfl, rfl, ⟨_, hk⟩, hx, hs'⟩
      · rename_i i' kk
        split at h
        · rename_i f hf
          left
          have hE := effN_ok P o s R i'
          rw [hf] at hE
          refine hE (fun s' G => ∃ sc', wops P all ol s' G sc' k kp) (fun _ _ _ => False) (fun a => ⟨_, h a⟩) Rx w hR hs _ _ ?_ (fun v s' G Rx' w' hk => hk.elim)
          intro s' G Rx' w' ⟨sc', hk⟩ hx hs'
          exact wpOps_mono (fun e a w hl => Lift.later hx hl) (wops_sound hall l ol hm s' G sc' k kp hk Rx' w' hx.leg hs')
        · exact h.elim
      · rename_i fp nn X q g kk
        split at h
        · rename_i c h1 h2 h3
          left
          refine EffOK.prim (P := P) (o := o) (s := s) (R := R) (X := X) (q := q) (g := g) h1 h2 h3 (fun s' G => ∃ sc', wops P all ol s' G sc' k kp) (fun _ _ _ => False) ⟨h.1, fun x hx => ⟨_, h.2 x hx⟩⟩ Rx w hR hs _ _ ?_ (fun v s' G Rx' w' hk => hk.elim)
          intro s' G Rx' w' ⟨sc', hk⟩ hx hs'
          exact wpOps_mono (fun e a w hl => Lift.later hx hl) (wops_sound hall l ol hm s' G sc' k kp hk Rx' w' hx.leg hs')
        · exact h.elim
      · rename_i fp nn X g kk
        split at h
        · rename_i f args h1 h2 h3
          left
          refine EffOK.call (P := P) (o := o) (s := s) (R := R) (X := X) (g := g) h1 h2 h3 (fun s' G => ∃ sc', wops P all ol s' G sc' k kp) (fun _ _ _ => False) ⟨h.1, fun x _ => ⟨_, h.2 x⟩⟩ Rx w hR hs _ _ ?_ (fun v s' G Rx' w' hk => hk.elim)
          intro s' G Rx' w' ⟨sc', hk⟩ hx hs'
          exact wpOps_mono (fun e a w hl => Lift.later hx hl) (wops_sound hall l ol hm s' G sc' k kp hk Rx' w' hx.leg hs')
        · exact h.elim
      · rename_i fp nn X q g kk
        split at h
        · rename_i f args h1 h2 h3
          left
          refine EffOK.callG (P := P) (o := o) (s := s) (R := R) (X := X) (q := q) (g := g) h1 h2 h3 (fun s' G => ∃ sc', wops P all ol s' G sc' k kp) (fun _ _ _ => False) ⟨h.1, fun x G hG hq => ⟨_, h.2 x G hG hq⟩⟩ Rx w hR hs _ _ ?_ (fun v s' G Rx' w' hk => hk.elim)
          intro s' G Rx' w' ⟨sc', hk⟩ hx hs'
          exact wpOps_mono (fun e a w hl => Lift.later hx hl) (wops_sound hall l ol hm s' G sc' k kp hk Rx' w' hx.leg hs')
        · exact h.elim
      · exact h.elim
    · rename_i hg
      rw [gd_spec hg]
      simp only [Bool.false_eq_true, if_false]
      have ih := wops_sound hall l ol hm _ R sc k kp h Rx w hR hs
      rw [St.put_act]
      exact ih
    · exact h.elim
theorem range_map_toList (ops : Array Oper) : (List.range ops.size).map (ops[·]?) = ops.toList.map some := by
  apply List.ext_getElem?
  intro i
  by_cases hi : i < ops.size
  · simp [hi]
  · simp [hi]
theorem alt_sound {c : Code} {s : St} {R : RO} {K : Exit' → St → RO → Sc → Prop} {sc : Sc} (h : CT P c s R (altPost R sc)∧altK R K sc) :
    CT P c s R fun e s' G => ∃ sc', K e s' G sc' := fun Rx w hR hs => wp_mono (h.1 Rx w hR hs) fun e a w' hl => by
  obtain ⟨e', s', G, Rx', h1, h2, h3, h6, h7⟩ := hl
  have key : ∀ (sc : Sc), altPost R sc e' s' G → altK R K sc → ∃ t, s'.cut t∧∃ sc', K e' t G sc' := by
    intro sc
    induction sc with
    | alt X q out k rest _ ih =>
      intro hp hk
      rcases hp with ⟨rfl, x, hq, rfl, hc⟩ | hp
      · exact ⟨_, hc, k x, hk.1 x hq⟩
      · exact ih hp hk.2
    | altG X q out k rest _ ih =>
      intro hp hk
      rcases hp with ⟨x, hq, rfl, hc⟩ | hp
      · exact ⟨_, hc, k x, hk.1 x G h6.le hq⟩
      · exact ih hp hk.2
    | _ => intro hp;exact hp.elim
  obtain ⟨t, hc, hk⟩ := key sc h3 h.2
  exact ⟨e', t, G, Rx', h1, by rw [h2, St.cut_act hc], hk, h6, St.cut_sat hc h7⟩
theorem unr_sound {c : Code} (hc : ∀ (s : St) (R : RO) (sc : Sc) (K : Exit' → St → RO → Sc → Prop), wp P c s R sc K → CT P c s R fun e s' G => ∃ sc', K e s' G sc')
    {K : Exit' → St → RO → Sc → Prop} : ∀ (n : Nat) (s : St) (R : RO) (sc : Sc), unr (fun s R sc K => wp P c s R sc K) K n s R sc → ∀ Rx w, R.le Rx → Sat w Rx s.hp → ∀ b k cs,
      ∃ e a' w', Lift R Rx (fun e s' G => ∃ sc', K e s' G sc') e a' w'∧Arrives P (lone (b.at s.act (.code c::.inLoop c::k)) cs w) b k cs e a' w'
  | 0, s, R, sc, h => h.elim
  | n + 1, s, R, sc, h => fun Rx w hR hs b k cs => by
    simp only [unr] at h
    obtain ⟨e, a₁, w₁, ⟨e', s', G', Rx', rfl, rfl, ⟨sc', hq⟩, hx, hs'⟩, harr⟩ := hc s R sc _ h Rx w hR hs b (.inLoop c::k) cs
    cases e' with
    | normal =>
      obtain ⟨e₂, a₂, w₂, hq₂, harr₂⟩ := unr_sound hc n s' G' sc' hq Rx' w₁ hx.leg hs' b k cs
      exact ⟨e₂, a₂, w₂, Lift.later hx hq₂, .of_steps (Steps.trans harr (.one step_inLoop)) harr₂⟩
    | exit id => exact ⟨_, s'.act, w₁, ⟨.exit id, s', G', Rx', rfl, rfl, ⟨sc', hq⟩, hx, hs'⟩, .pass (x := .inLoop c) rfl (fun _ _ => .inl (by simp [Exit'.to])) harr⟩
    | goto l => exact ⟨_, s'.act, w₁, ⟨.goto l, s', G', Rx', rfl, rfl, ⟨sc', hq⟩, hx, hs'⟩, .pass (x := .inLoop c) rfl (fun _ _ => .inl (by simp [Exit'.to])) harr⟩
    | ret => exact ⟨_, s'.act, w₁, ⟨.ret, s', G', Rx', rfl, rfl, ⟨sc', hq⟩, hx, hs'⟩, .pass (x := .inLoop c) rfl (fun _ _ => .inl (by simp [Exit'.to])) harr⟩
    | panic v => exact ⟨_, s'.act, w₁, ⟨.panic v, s', G', Rx', rfl, rfl, ⟨sc', hq⟩, hx, hs'⟩, .pass (x := .inLoop c) rfl (fun _ _ => .inl (by simp [Exit'.to])) harr⟩
theorem wp_sound : ∀ (c : Code) (s : St) (R : RO) (sc : Sc) (K : Exit' → St → RO → Sc → Prop), wp P c s R sc K → CT P c s R fun e s' G => ∃ sc', K e s' G sc'
  | .skip, s, R, sc, K, h => fun Rx w hR hs => Go.wp_skip ⟨.normal, s, R, Rx, rfl, rfl, ⟨sc, h⟩, .refl hR, hs⟩
  | .label _, s, R, sc, K, h => fun Rx w hR hs => Go.wp_label ⟨.normal, s, R, Rx, rfl, rfl, ⟨sc, h⟩, .refl hR, hs⟩
  | .ret, s, R, sc, K, h => fun Rx w hR hs => Go.wp_ret ⟨.ret, s, R, Rx, rfl, rfl, ⟨sc, h⟩, .refl hR, hs⟩
  | .exit i, s, R, sc, K, h => fun Rx w hR hs => Go.wp_exit ⟨.exit i, s, R, Rx, rfl, rfl, ⟨sc, h⟩, .refl hR, hs⟩
  | .goto i, s, R, sc, K, h => fun Rx w hR hs => Go.wp_goto ⟨.goto i, s, R, Rx, rfl, rfl, ⟨sc, h⟩, .refl hR, hs⟩
  | .region i ops false, s, R, sc, K, h => by
    simp only [wp] at h
    obtain ⟨sc', h⟩ := pre_sound h
    split at h
    · exact alt_sound h
    · exact alt_sound h
    rename_i sc' _ _
    intro Rx w hR hs
    have := wops_sound (fun _ _ => trivial) _ _ (range_map_toList ops) s R _ _ _ h Rx w hR hs
    refine Go.wp_region (wpOps_mono (fun e a w hl => Lift.mono ?_ hl) this)
    intro e s' G _ hk
    cases e <;> first | exact hk | exact hk.elim
  | .seq a b, s, R, sc, K, h => fun Rx w hR hs => by
    simp only [wp] at h
    have ha := wp_sound a s R sc _ h Rx w hR hs
    refine Go.wp_seq (wp_mono ha ?_)
    rintro e a' w' ⟨e', s', G, Rx', rfl, rfl, ⟨sc', hk⟩, hx, hs'⟩
    cases e' with
    | normal =>
      have hb := wp_sound b s' G sc' K hk Rx' w' hx.leg hs'
      exact wp_mono hb fun e a w hl => Lift.later hx hl
    | exit i => exact ⟨.exit i, s', G, Rx', rfl, rfl, ⟨sc', hk⟩, hx, hs'⟩
    | goto i => exact ⟨.goto i, s', G, Rx', rfl, rfl, ⟨sc', hk⟩, hx, hs'⟩
    | ret => exact ⟨.ret, s', G, Rx', rfl, rfl, ⟨sc', hk⟩, hx, hs'⟩
    | panic v => exact ⟨.panic v, s', G, Rx', rfl, rfl, ⟨sc', hk⟩, hx, hs'⟩
  | .cond c x y, s, R, sc, K, h => by
    simp only [wp] at h
    obtain ⟨sc', h⟩ := pre_sound h
    split at h
    · exact alt_sound h
    · exact alt_sound h
    · intro Rx w hR hs
      split at h
      · rename_i hc
        exact Go.wp_cond_true (by rw [St.eval];exact hc) (wp_sound x s R _ K h Rx w hR hs)
      · rename_i hc
        exact Go.wp_cond_false (by rw [St.eval];exact hc) (wp_sound y s R _ K h Rx w hR hs)
      · exact h.elim
  | .block i c, s, R, sc, K, h => fun Rx w hR hs => by
    simp only [wp] at h
    have ha := wp_sound c s R sc _ h Rx w hR hs
    refine Go.wp_block (wp_mono ha ?_)
    rintro e a' w' ⟨e', s', G, Rx', rfl, rfl, ⟨sc', hk⟩, hx, hs'⟩
    cases e' with
    | exit j =>
      simp only at hk
      show (if j = i then _ else _)
      split at hk
      · rename_i hb
        rw [if_pos (Nat.eq_of_beq_eq_true hb)]
        exact ⟨.normal, s', G, Rx', rfl, rfl, ⟨sc', hk⟩, hx, hs'⟩
      · rename_i hb
        rw [if_neg (Nat.ne_of_beq_eq_false hb)]
        exact ⟨.exit j, s', G, Rx', rfl, rfl, ⟨sc', hk⟩, hx, hs'⟩
    | normal => exact ⟨.normal, s', G, Rx', rfl, rfl, ⟨sc', hk⟩, hx, hs'⟩
    | goto i => exact ⟨.goto i, s', G, Rx', rfl, rfl, ⟨sc', hk⟩, hx, hs'⟩
    | ret => exact ⟨.ret, s', G, Rx', rfl, rfl, ⟨sc', hk⟩, hx, hs'⟩
    | panic v => exact ⟨.panic v, s', G, Rx', rfl, rfl, ⟨sc', hk⟩, hx, hs'⟩
  | .loop c, s, R, sc, K, h => by
    simp only [wp] at h
    obtain ⟨sc', h⟩ := pre_sound h
    split at h
    · exact alt_sound h
    · exact alt_sound h
    · exact alt_sound h
    · exact alt_sound h
    · intro Rx w hR hs b k cs
      obtain ⟨e, a', w', h1, h2⟩ := unr_sound (fun s R sc K h => wp_sound c s R sc K h) _ _ _ _ h Rx w hR hs b k cs
      exact ⟨e, a', w', h1, .of_steps (.one step_loop) h2⟩
    · exact h.elim
  | .rangeFunc f ps aZ c, s, R, sc, K, h => by
    simp only [wp] at h
    obtain ⟨sc', h⟩ := pre_sound h
    split at h
    · exact alt_sound h
    · exact alt_sound h
    · exact h.elim
  | .region i ops true, s, R, sc, K, h => by
    simp only [wp] at h
    obtain ⟨sc', h⟩ := pre_sound h
    split at h
    · exact alt_sound h
    · exact alt_sound h
    · exact alt_sound h
    · exact alt_sound h
    · split at h
      · rename_i h1 h2
        refine (draw_sound h1 h2 h).mono fun e s' G _ hk => ?_
        cases e <;> first | exact ⟨_, hk⟩ | exact hk.elim
      · exact h.elim
    · exact h.elim
  | .scope _, _, _, _, _, h => h.elim
  | .refuse _, _, _, _, _, h => h.elim
variable (P)
def resK : List ResultVar → List (Nat×Option Value) → St → List Value → (List Value → Prop) → Prop
  | [], _, s, acc, k => k acc.reverse
  | .tmp t::rs, rp, s, acc, k => resK rs rp s (tget s.tm t::acc) k
  | .cell a t::rs, (i, none)::rp, s, acc, k => match tget s.tm a, s.hp.at i with
    | .pointer (some ⟨b, off, none⟩), some (ad, .row cs _ _) => match readVar P t cs off with
      | some v => b = ad∧resK rs rp s (v::acc) k
      | none => False
    | _, _ => False
  | .cell a t::rs, (i, some v)::rp, s, acc, k => match tget s.tm a, s.hp.at i with
    | .pointer (some ⟨b, off, none⟩), some (ad, .row cs _ _) => (b = ad∧readVar P t cs off = some v)∧resK rs rp s (v::acc) k
    | _, _ => False
  | .cell a t::rs, [], s, acc, k => False
def tupV : List Value → Value
  | [v] => v
  | vs => .tuple vs.toArray
def Fin (fn : Func) (Q : Out → RO → Hp → Prop) : Exit' → St → RO → Sc → Prop
  | .normal, s, R, .fin keep rp => match s.df, nodupN keep with
    | [], true => resK P fn.results.toList rp s [] fun vs => Q (.ret (tupV vs)) R (keep.map s.hp.at)
    | _, _ => False
  | .ret, s, R, .fin keep rp => match s.df, nodupN keep with
    | [], true => resK P fn.results.toList rp s [] fun vs => Q (.ret (tupV vs)) R (keep.map s.hp.at)
    | _, _ => False
  | .panic v, s, R, .fin keep rp => match s.df, nodupN keep with
    | [], true => Q (.pan v) R (keep.map s.hp.at)
    | _, _ => False
  | _, _, _, _ => False
variable {P}
def resOne (s : St) : ResultVar → Sem Value
  | .tmp t => pure (s.tm.toArray.getD t undef)
  | .cell a t => do loadVar t (← asAddr (s.tm.toArray.getD a undef))
theorem resK_sound {w : World} {Rx : RO} {s : St} (hs : Sat w Rx s.hp) : ∀ (rs : List ResultVar) (rp : List (Nat×Option Value)) (acc : List Value) (k : List Value → Prop),
    resK P rs rp s acc k → ∃ vs, (rs.mapM (resOne s)).run P w = .ok vs w∧k (acc.reverse ++ vs)
  | [], rp, acc, k, h => ⟨[], by simp, by simpa [resK] using h⟩
  | .tmp t::rs, rp, acc, k, h => by
    simp only [resK] at h
    obtain ⟨vs, h1, h2⟩ := resK_sound hs rs rp _ k h
    refine ⟨tget s.tm t::vs, ?_, by simpa using h2⟩
    rw [List.mapM_cons]
    simp [resOne, h1, tget_eq]
  | .cell a t::rs, (i, none)::rp, acc, k, h => by
    simp only [resK] at h
    split at h
    · rename_i b off ad cs t' n ha hi
      split at h
      · rename_i v hv
        obtain ⟨rfl, h⟩ := h
        obtain ⟨vs, h1, h2⟩ := resK_sound hs rs rp _ k h
        refine ⟨v::vs, ?_, by simpa using h2⟩
        rw [tget_eq] at ha
        rw [List.mapM_cons]
        simp only [resOne, Sem.run_bind, ha, asAddr, Sem.run_pure, Result.andThen_ok, run_loadVar_of (P := P) (t := t) (fun i x hx => Blk.cells (hs.own _ _ _ hi) i x hx) hv, h1]
      · exact h.elim
    · exact h.elim
  | .cell a t::rs, (i, some v)::rp, acc, k, h => by
    simp only [resK] at h
    split at h
    · rename_i b off ad cs t' n ha hi
      obtain ⟨⟨rfl, hv⟩, h⟩ := h
      obtain ⟨vs, h1, h2⟩ := resK_sound hs rs rp _ k h
      refine ⟨v::vs, ?_, by simpa using h2⟩
      rw [tget_eq] at ha
      rw [List.mapM_cons]
      simp only [resOne, Sem.run_bind, ha, asAddr, Sem.run_pure, Result.andThen_ok, run_loadVar_of (P := P) (t := t) (fun i x hx => Blk.cells (hs.own _ _ _ hi) i x hx) hv, h1]
    · exact h.elim
  | .cell a t::rs, [], acc, k, h => h.elim
theorem results_run {w : World} {s : St} {fn : Func} {vs : List Value} (h : (fn.results.toList.mapM (resOne s)).run P w = .ok vs w) :
    (results fn s.tm.toArray).run P w = .ok (tupV vs) w := by
  have he : results fn s.tm.toArray = (do let vs ← fn.results.mapM (resOne s);pure (if h : vs.size = 1 then vs[0] else .tuple vs)) := by
    unfold results
    congr 1
  rw [he, Array.mapM_eq_mapM_toList]
  simp only [Sem.run_bind, Sem.run_map, h, Result.andThen_ok, Sem.run_pure]
  congr 1
  rcases vs with _ | ⟨v, _ | ⟨u, vs⟩⟩ <;> simp [tupV]
theorem Sat.keep {w : World} {R : RO} {H : Hp} {l : List Nat} (h : Sat w R H) (hd : l.Nodup) : Sat w R (l.map H.at) := by
  refine ⟨h.ro, fun j a B hj => ?_, fun j a B hj => ?_, fun j k a B C hj hk => ?_, h.os, h.tape, h.out⟩
  · obtain ⟨i, h1, h2⟩ := at_map_fp hj
    exact h.own i a B h2
  · obtain ⟨i, h1, h2⟩ := at_map_fp hj
    exact h.off i a B h2
  · obtain ⟨i, h1, h2⟩ := at_map_fp hj
    obtain ⟨i', h3, h4⟩ := at_map_fp hk
    have := h.one _ _ _ _ _ h2 h4
    subst this
    have h5 : j < l.length := by
      rcases Nat.lt_or_ge j l.length with h | h
      · exact h
      · simp [List.getElem?_eq_none h] at h1
    exact (List.getElem?_inj h5 hd).1 (h1.trans h3.symm)
def entry (fn : Func) (args : List Value) (H : Hp) : St := ⟨args ++ List.replicate (fn.ntmps - args.length) undef, [], H⟩
theorem Does.of_ct {f : FuncId} {fn : Func} {c : Code} {args : List Value} {R : RO} {H : Hp} {Q : Out → RO → Hp → Prop}
    (hf : P.funcs[f]? = some fn) (hb : fn.body = some c) (h : CT P c (entry fn args H) R fun e s G => ∃ sc, Fin P fn Q e s G sc) : Does P f args R H Q := by
  intro Rx w hR hs
  refine calls_of_wp hf hb ?_
  have := h Rx w hR hs
  have ha : (entry fn args H).act = { tmps := args.toArray ++ Array.replicate (fn.ntmps - args.toArray.size) undef, defers := [] } := by
    simp [entry, St.act]
  rw [ha] at this
  refine wp_mono this ?_
  rintro e a w' ⟨e', s, G, Rx', rfl, rfl, ⟨sc, hk⟩, hx, hs'⟩
  have hret : (match s.df, sc with
      | [], .fin keep rp => nodupN keep = true∧resK P fn.results.toList rp s [] fun vs => Q (.ret (tupV vs)) G (keep.map s.hp.at)
      | _, _ => False) → s.act.defers = []∧∃ v, (results fn s.act.tmps).run P w' = .ok v w' ∧
        (∃ o G H' Rx', Ending.returned v = Out.fin o∧Q o G H'∧Ext R Rx G Rx'∧Sat w' Rx' H') := by
    intro h
    split at h
    · rename_i keep rp hk' hdf
      obtain ⟨h0, h⟩ := h
      obtain ⟨vs, h1, h2⟩ := resK_sound hs' _ _ _ _ h
      exact ⟨hdf, _, results_run h1, .ret (tupV vs), G, keep.map s.hp.at, Rx', rfl, by simpa using h2, hx, hs'.keep (nodupN_spec h0)⟩
    · exact h.elim
  cases e' with
  | normal =>
    refine hret ?_
    unfold Fin at hk
    cases sc <;> simp only at hk <;> try exact hk.elim
    split at hk
    · rename_i h1 h2;simp only [h1];exact ⟨h2, hk⟩
    · exact hk.elim
  | ret =>
    refine hret ?_
    unfold Fin at hk
    cases sc <;> simp only at hk <;> try exact hk.elim
    split at hk
    · rename_i h1 h2;simp only [h1];exact ⟨h2, hk⟩
    · exact hk.elim
  | panic v =>
    unfold Fin at hk
    cases sc <;> simp only at hk <;> try exact hk.elim
    split at hk
    · rename_i h1 h2
      exact ⟨h1, .pan v, G, _, Rx', rfl, hk, hx, hs'.keep (nodupN_spec h2)⟩
    · exact hk.elim
  | exit i => unfold Fin at hk;cases sc <;> exact hk.elim
  | goto i => unfold Fin at hk;cases sc <;> exact hk.elim
theorem Does.of_wp {f : FuncId} {fn : Func} {c : Code} {args : List Value} {R : RO} {H : Hp} {Q : Out → RO → Hp → Prop} (sc : Sc)
    (hf : P.funcs[f]? = some fn) (hb : fn.body = some c) (h : wp P c (entry fn args H) R sc (Fin P fn Q)) : Does P f args R H Q :=
  Does.of_ct hf hb (wp_sound _ _ _ _ _ h)
theorem Does.of_wp_eq {f : FuncId} {fn : Func} {args : List Value} {R : RO} {H : Hp} {Q : Out → RO → Hp → Prop} {VC : Prop} (sc : Sc)
    (hf : P.funcs[f]? = some fn) (hb : fn.body = some (fn.body.getD .skip)) (he : wp P (fn.body.getD .skip) (entry fn args H) R sc (Fin P fn Q) = VC) (h : VC) : Does P f args R H Q :=
  Does.of_wp sc hf hb (he ▸ h)
theorem CT.of_wp_eq {c : Code} {s : St} {R : RO} {K : Exit' → St → RO → Prop} {VC : Prop} (sc : Sc)
    (he : wp P c s R sc (fun e s' G _ => K e s' G) = VC) (h : VC) : CT P c s R K :=
  (wp_sound c s R sc _ (he ▸ h)).mono fun e s' G _ ⟨_, hk⟩ => hk
def LK {ι : Type} (inv : ι → St) (I : ι → RO → Prop) (μ : ι → Nat) (K : Exit' → St → RO → Prop) (i : ι) : Exit' → St → RO → Prop := fun e s' G' => match e with
  | .normal => ∃ j, I j G'∧μ j < μ i∧s'.cut (inv j)
  | e => K e s' G'
theorem CT.loop {ι : Type} (inv : ι → St) (I : ι → RO → Prop) (μ : ι → Nat) {c : Code} {R : RO} {K : Exit' → St → RO → Prop} (i₀ : ι) (h₀ : I i₀ R)
    (hb : ∀ i G, R.le G → I i G → CT P c (inv i) G (LK inv I μ K i)) : CT P (.loop c) (inv i₀) R K := by
  intro Rx₀ w₀ hR₀ hs₀ b k cs
  have key : ∀ n i G Rx w, μ i = n → I i G → Ext R Rx₀ G Rx → Sat w Rx (inv i).hp →
      ∃ e a' w', Lift R Rx₀ K e a' w'∧Arrives P (lone (b.at (inv i).act (.code c::.inLoop c::k)) cs w) b k cs e a' w' := by
    intro n
    induction n using Nat.strongRecOn with
    | _ n ih =>
      intro i G Rx w hn hI hx hs
      obtain ⟨e, a₁, w₁, ⟨e', s', G', Rx', rfl, rfl, hq, hx', hs'⟩, harr⟩ := hb i G hx.le hI Rx w hx.leg hs b (.inLoop c::k) cs
      have hxx := hx.trans hx'
      cases e' with
      | normal =>
        obtain ⟨j, hj, hlt, hcut⟩ := hq
        obtain ⟨e₂, a₂, w₂, hq₂, harr₂⟩ := ih (μ j) (hn ▸ hlt) j G' Rx' w₁ rfl hj hxx (St.cut_sat hcut hs')
        rw [← St.cut_act hcut] at harr₂
        exact ⟨e₂, a₂, w₂, hq₂, .of_steps (Steps.trans harr (.one step_inLoop)) harr₂⟩
      | exit id => exact ⟨_, s'.act, w₁, ⟨.exit id, s', G', Rx', rfl, rfl, hq, hxx, hs'⟩, .pass (x := .inLoop c) rfl (fun _ _ => .inl (by simp [Exit'.to])) harr⟩
      | goto l => exact ⟨_, s'.act, w₁, ⟨.goto l, s', G', Rx', rfl, rfl, hq, hxx, hs'⟩, .pass (x := .inLoop c) rfl (fun _ _ => .inl (by simp [Exit'.to])) harr⟩
      | ret => exact ⟨_, s'.act, w₁, ⟨.ret, s', G', Rx', rfl, rfl, hq, hxx, hs'⟩, .pass (x := .inLoop c) rfl (fun _ _ => .inl (by simp [Exit'.to])) harr⟩
      | panic v => exact ⟨_, s'.act, w₁, ⟨.panic v, s', G', Rx', rfl, rfl, hq, hxx, hs'⟩, .pass (x := .inLoop c) rfl (fun _ _ => .inl (by simp [Exit'.to])) harr⟩
  obtain ⟨e, a', w', hq, harr⟩ := key _ i₀ R Rx₀ w₀ rfl h₀ (.refl hR₀) hs₀
  exact ⟨e, a', w', hq, .of_steps (.one step_loop) harr⟩
theorem CT.loop_eq {ι : Type} (inv : ι → St) (I : ι → RO → Prop) (μ : ι → Nat) {c c' : Code} {s : St} {R : RO} {K : Exit' → St → RO → Prop} (i₀ : ι) (hc : c' = .loop c) (hs : s = inv i₀) (h₀ : I i₀ R)
    (hb : ∀ i G, R.le G → I i G → CT P c (inv i) G (LK inv I μ K i)) : CT P c' s R K := by
  subst hc;subst hs;exact CT.loop inv I μ i₀ h₀ hb
theorem LKn {ι : Type} {inv : ι → St} {I : ι → RO → Prop} {μ : ι → Nat} {K : Exit' → St → RO → Prop} {i : ι} {s : St} {G : RO} (f : NV → ι)
    (h : I (f (tget s.tm)) G∧μ (f (tget s.tm)) < μ i∧s.cut (inv (f (tget s.tm)))) : LK inv I μ K i .normal s G := ⟨_, h⟩
theorem altA {R : RO} {X : Type} {q : X → Prop} {out : X → Exit'×St} {rest : Sc} {e : Exit'} {s : St} (f : NV → X)
    (h : q (f (tget s.tm))∧e = (out (f (tget s.tm))).1∧s.cut (out (f (tget s.tm))).2) : altPost R (.alt X q out (fun _ => .altn) rest) e s R := Or.inl ⟨rfl, _, h⟩
theorem CT.loop_eqs {ι : Type} (inv : ι → St) (I : ι → RO → Prop) (μ : ι → Nat) {c c' : Code} {s : St} {R : RO} {K : Exit' → St → RO → Prop} (f : NV → ι) (hc : c' = .loop c) (hs : s = inv (f (tget s.tm))) (h₀ : I (f (tget s.tm)) R)
    (hb : ∀ i G, R.le G → I i G → CT P c (inv i) G (LK inv I μ K i)) : CT P c' s R K :=
  CT.loop_eq inv I μ (f (tget s.tm)) hc hs h₀ hb
theorem Hp.at_nones {x : Nat×Blk} : ∀ {k i : Nat}, Hp.at (List.replicate k none) i = some x → False
  | 0, i, h => by simp [Hp.at_nil] at h
  | k + 1, 0, h => by simp [List.replicate_succ, Hp.at] at h
  | k + 1, i + 1, h => by
    simp only [List.replicate_succ, Hp.at] at h
    exact Hp.at_nones h
theorem Hp.at_pad {k : Nat} : ∀ {H : Hp} {i : Nat} {x : Nat×Blk}, Hp.at (H ++ List.replicate k none) i = some x → H.at i = some x
  | [], i, x, h => (Hp.at_nones (by simpa only [List.nil_append] using h)).elim
  | a::H, 0, x, h => by simpa [Hp.at] using h
  | a::H, i + 1, x, h => by
    simp only [List.cons_append, Hp.at] at h ⊢
    exact Hp.at_pad h
theorem CT.pad (k : Nat) {c : Code} {s : St} {R : RO} {K : Exit' → St → RO → Prop} (h : CT P c ⟨s.tm, s.df, s.hp ++ List.replicate k none⟩ R K) : CT P c s R K := fun Rx w hR hs =>
  h Rx w hR ⟨hs.ro, fun i a B hi => hs.own i a B (Hp.at_pad hi), fun i a B hi => hs.off i a B (Hp.at_pad hi), fun i j a B C hi hj => hs.one i j a B C (Hp.at_pad hi) (Hp.at_pad hj), hs.os, hs.tape, hs.out⟩
theorem not_t {b : Bool} (h : (!b) = true) : b = false := by cases b <;> simp_all
theorem not_f {b : Bool} (h : (!b) = false) : b = true := by cases b <;> simp_all
theorem t_not {b : Bool} (h : b = false) : (!b) = true := by cases b <;> simp_all
theorem f_not {b : Bool} (h : b = true) : (!b) = false := by cases b <;> simp_all
def sub : Code → List Nat → Code
  | c, [] => c
  | .seq a _, 0::l => sub a l
  | .seq _ b, _::l => sub b l
  | .cond _ a _, 0::l => sub a l
  | .cond _ _ b, _::l => sub b l
  | .block _ c, _::l => sub c l
  | .loop c, _::l => sub c l
  | .rangeFunc _ _ a _, 0::l => sub a l
  | .rangeFunc _ _ _ b, _::l => sub b l
  | .scope c, _::l => sub c l
  | c, _ => c
def bodyOf (f : Func) : Code := f.body.getD .skip
end
end Vc
set_option linter.unusedVariables false
set_option linter.unusedSimpArgs false
namespace Vc
open Go
theorem wu64 (n : Int) : IntKind.u64.wrap n = n % 18446744073709551616 := by
  simp [IntKind.wrap, IntKind.bits, IntKind.signed]
theorem wi64 (n : Int) : IntKind.i64.wrap n = (n + 9223372036854775808) % 18446744073709551616 - 9223372036854775808 := by
  simp [IntKind.wrap, IntKind.bits, IntKind.signed]
  split <;> omega
theorem wrapU {n : Int} (h0 : 0 ≤ n) (h1 : n ≤ 18446744073709551615) : IntKind.u64.wrap n = n := by rw [wu64];omega
theorem wrapI {n : Int} (h0 : -9223372036854775808 ≤ n) (h1 : n ≤ 9223372036854775807) : IntKind.i64.wrap n = n := by rw [wi64];omega
theorem ofInt_toNat {n : Nat} {x : Int} (h0 : 0 ≤ x) (h1 : x < 2 ^ n) : (BitVec.ofInt n x).toNat = x.toNat := by
  rw [BitVec.toNat_ofInt]
  have : x % ((2 ^ n : Nat) : Int) = x := Int.emod_eq_of_lt h0 (by exact_mod_cast h1)
  rw [this]
theorem bXor_nn {k : IntKind} {x y : Int} (hx : 0 ≤ x) (hx' : x < 2 ^ k.bits) (hy : 0 ≤ y) (hy' : y < 2 ^ k.bits) : bXor k x y = k.wrap ((x.toNat ^^^ y.toNat : Nat) : Int) := by
  unfold bXor
  rw [BitVec.toNat_xor, ofInt_toNat hx hx', ofInt_toNat hy hy']
def mx (a b : Int) : Int := if b > a then b else a
abbrev NW (k : IntKind) (e : Int) : Prop := k = k∧k.wrap e = e
theorem nwI {e : Int} (h0 : -9223372036854775808 ≤ e) (h1 : e ≤ 9223372036854775807) : NW .i64 e := ⟨rfl, wrapI h0 h1⟩
abbrev IB (i n : Int) : Prop := 0 ≤ i∧i < n
end Vc
set_option linter.unusedVariables false
set_option linter.unusedSimpArgs false
namespace Vc
open Go
def ints (ns : List Int) : List Value := ns.map (Value.int .u8)
def sI (s : ByteArray) : List Int := s.data.toList.map fun b => (b.toNat : Int)
def gsv (b : Option Nat) (len cap : Nat) : Value := .slice (b.map fun a => ⟨a, 0, none⟩) len cap
def gsb (b : Option Nat) (cs : List Value) (t : TypeId) (n : Nat) : Option (Nat×Blk) := b.map fun a => (a, .row cs t n)
theorem ints_length (a : List Int) : (ints a).length = a.length := List.length_map ..
theorem sI_length (s : ByteArray) : (sI s).length = s.size := by simp [sI]
def tyI (P : Program) (e : TypeId) : Option (Nat×Nat×List Value) := match P.info? e with
  | some i => match i.zero with
    | some z => some (i.size, i.bytes, z.cells.toList)
    | none => none
  | none => none
theorem tyI_spec {P : Program} {e : TypeId} {z b : Nat} {l : List Value} (h : tyI P e = some (z, b, l)) : ∃ i v, P.info? e = some i∧i.zero = some v∧i.size = z∧i.bytes = b∧v.cells.toList = l := by
  unfold tyI at h
  split at h
  · rename_i i hi
    split at h
    · rename_i v hv
      simp at h
      exact ⟨i, v, hi, hv, h.1, h.2.1, h.2.2⟩
    · cases h
  · cases h
def Src (R : RO) (H : Hp) (z n : Nat) (x : Value) (new : List Value) : Prop :=
  new.length = n * z∧((∃ s, x = .string s∧n = s.size∧new = ints (sI s)) ∨ (n = 0∧∃ a c, x = .slice a 0 c) ∨
    ∃ b off c, x = .slice (some ⟨b, off, none⟩) n c∧((∃ j cs t m, Hp.at H j = some (b, .row cs t m)∧(cs.drop off).take (n * z) = new) ∨ R.cells b off new))
theorem Src.string (R : RO) (H : Hp) (s : ByteArray) : Src R H 1 s.size (.string s) (ints (sI s)) :=
  ⟨by rw [ints_length, sI_length, Nat.mul_one], .inl ⟨s, rfl, rfl, rfl⟩⟩
theorem Src.nil (R : RO) (H : Hp) (z c : Nat) (a : Option Addr) : Src R H z 0 (.slice a 0 c) [] := ⟨by simp, .inr (.inl ⟨rfl, a, c, rfl⟩)⟩
theorem Src.cell {R Rx : RO} {H : Hp} {w : World} (hR : R.le Rx) (hs : Sat w Rx H) {z n : Nat} {b off : Nat} {new : List Value} (hl : new.length = n * z)
    (h : (∃ j cs t m, Hp.at H j = some (b, .row cs t m)∧(cs.drop off).take (n * z) = new) ∨ R.cells b off new) (j : Nat) (v : Value) (hj : new[j]? = some v) :
    w.cell? ((⟨b, off, none⟩ : Addr).add j) = some v := by
  rw [add_eq]
  rcases h with ⟨i, cs, t, m, h1, rfl⟩ | h
  · have hjl : j < n * z := by
      rcases Nat.lt_or_ge j (n * z) with h | h
      · exact h
      · rw [List.getElem?_eq_none (by omega)] at hj;cases hj
    rw [List.getElem?_take_of_lt hjl, List.getElem?_drop] at hj
    exact Blk.cells (hs.own _ _ _ h1) _ _ hj
  · obtain ⟨c, t, fr, h1, h2⟩ := h
    have hjl : j < new.length := by
      rcases Nat.lt_or_ge j new.length with h | h
      · exact h
      · rw [List.getElem?_eq_none (by omega)] at hj;cases hj
    have hc := hs.ro _ _ (hR.mem _ _ h1)
    have : c.toList[off + j]? = some v := by
      rw [← h2, List.getElem?_take_of_lt hjl, List.getElem?_drop] at hj
      exact hj
    simpa [World.cell?, hc] using this
theorem Src.first {P : Program} {R Rx : RO} {H : Hp} {w : World} (hR : R.le Rx) (hs : Sat w Rx H) {z n : Nat} {x : Value} {new : List Value} (h : Src R H z n x new) :
    (Builtin.lenOf x).run P w = .ok n w∧(Builtin.firstCells z n x).run P w = .ok new.toArray w := by
  obtain ⟨hl, ⟨s, rfl, rfl, rfl⟩ | ⟨rfl, a, c, rfl⟩ | ⟨b, off, c, rfl, h⟩⟩ := h
  · refine ⟨rfl, ?_⟩
    simp only [Builtin.firstCells, Sem.run_pure]
    congr 1
    have : s.extract 0 s.size = s := ByteArray.extract_zero_size
    rw [this]
    apply Array.ext'
    simp [ints, sI]
  · refine ⟨rfl, ?_⟩
    have hn : new = [] := List.eq_nil_of_length_eq_zero (by simpa using hl)
    subst hn
    cases a with
    | none => exact run_firstCells_none w z 0 0 c
    | some a => exact run_firstCells_some w z 0 a 0 c [] (by simp) (fun j v hj => by simp at hj)
  · exact ⟨rfl, run_firstCells_some w z n _ n c new hl (Src.cell hR hs hl h)⟩
theorem Sat.drew {w : World} {R : RO} {H : Hp} (h : Sat w R H) : Sat w.drew R H := h.heap rfl ⟨rfl, rfl, rfl⟩
theorem app_ok {P : Program} {R : RO} {t u ty e e' : TypeId} {z by' : Nat} {zc : List Value} {b : Option Nat} {len cap n : Nat} {x : Value} {cs new : List Value} {T : Hp}
    (ht : P.underlying t = some (.slice e)) (hu : P.underlying u = some (.slice e') ∨ P.underlying u = some .string) (hi : tyI P e = some (z, by', zc)) (hz : zc.length = z)
    (hcs : cs.length = len * z) (hlc : len ≤ cap) (hcm : cap ≤ maxLen) (hb : b = none → cap = 0)
    (hx : Src R (gsb b cs e (cap * z)::T) z n x new) (h1 : ∀ v ∈ new, v.oneCell' = true)
    (hbytes : (len + n) * by' ≤ 140737488355328) (h63 : len + n ≤ maxLen) :
    PrimOK P (.app t u ty (gsv b len cap) x) R (gsb b cs e (cap * z)::T) (Option Nat×Nat)
      (fun y => len + n ≤ y.2∧y.2 ≤ maxLen∧(y.1 = none → y.2 = 0∧b = none)) (fun y => (gsv y.1 (len + n) y.2, gsb y.1 (cs ++ new) e (y.2 * z)::T)) := by
  intro Rx w hR hs
  obtain ⟨i, v, g1, g2, g3, g4, g5⟩ := tyI_spec hi
  obtain ⟨f1, f2⟩ := Src.first (P := P) hR hs hx
  obtain ⟨f3, f4⟩ := Src.first (P := P) hR hs.drew hx
  have hnl : new.length = n * z := hx.1
  have hzs : v.cells.size = z := by rw [← hz, ← g5, Array.length_toList]
  have hsmall : len + n ≤ 9223372036854775807 := by simp only [maxLen] at h63;omega
  by_cases hroom : len + n ≤ cap
  · cases b with
    | none =>
      have hc0 : cap = 0 := hb rfl
      have hn0 : n = 0 := by omega
      have hl0 : len = 0 := by omega
      subst hc0;subst hn0;subst hl0
      have hnew : new = [] := List.eq_nil_of_length_eq_zero (by simpa using hnl)
      have hcs' : cs = [] := List.eq_nil_of_length_eq_zero (by simpa using hcs)
      subst hnew;subst hcs'
      refine ⟨(none, 0), w, ?_, ⟨by simp, by simp, by simp⟩, by simpa [gsb] using hs⟩
      rcases hu with hu | hu <;> simp [PC.sem, Builtin.append_, gsv, run_underlying ht, run_underlying hu, Go.sizeOf, typeInfo, g1, g3, f1, f2]
    | some g =>
      obtain ⟨c, lo, hi', hc, hsz, htk, hfr⟩ := hs.own 0 g (.row cs e (cap * z)) rfl
      have hmul : (len + n) * z ≤ cap * z := Nat.mul_le_mul_right _ hroom
      have hfit : len * z + 0 + new.length ≤ c.size := by rw [hnl, hsz];rw [Nat.add_mul] at hmul;omega
      obtain ⟨c', w', r1, r2, r3, r5, r4⟩ := run_storeCells_blk (P := P) g e (lo, hi') new (len * z) 0 c w hc hfit (by simpa [hsz] using hfr) h1
      refine ⟨(some g, cap), w', ?_, ⟨hroom, hcm, by simp⟩, ?_⟩
      · have hadd : (⟨g, 0, none⟩ : Addr).add (len * z) = ⟨g, len * z, none⟩ := by rw [add_eq];simp
        rcases hu with hu | hu <;> simp [PC.sem, Builtin.append_, gsv, run_underlying ht, run_underlying hu, Go.sizeOf, typeInfo, g1, g3, f1, f2, hroom, hadd, r1]
      · refine (Sat.put_upd (i := 0) (ad := g) (B := .row cs e (cap * z)) (B' := .row (cs ++ new) e (cap * z)) hs rfl r2 ⟨c', lo, hi', ?_, by omega, ?_, hfr⟩ r5 : _)
        · have hlt := (Array.getElem?_eq_some_iff.1 hc).1
          rw [r2, Array.getElem?_setIfInBounds]
          simp [hlt]
        · rw [r4]
          have hl : (cs ++ new).length = len * z + new.length := by rw [List.length_append, hcs]
          rw [hl]
          have : c.toList.take (len * z + 0) = cs := by rw [Nat.add_zero, ← hcs];exact htk
          rw [this, ← hcs, ← List.length_append]
          exact List.take_left
  · have h63' : ¬ (9223372036854775807 < ((len : Int) + (n : Int))) := by omega
    have hfits := growslice_fits (need := len + n) (old := cap) (bytes := by') (by omega) hbytes
    have h48 : ¬ (281474976710656 < Builtin.nextslicecap (len + n) cap * i.bytes) := by rw [g4];omega
    have hge := grownCap_ge w (len + n) cap e
    have hcm' : grownCap w (len + n) cap e ≤ maxLen := grownCap_le_maxLen w (len + n) cap e h63
    have hold : (Builtin.firstCells z len (gsv b len cap)).run P w.drew = .ok cs.toArray w.drew := by
      cases b with
      | none =>
        have hc0 : cap = 0 := hb rfl
        have hl0 : len = 0 := by omega
        subst hl0
        have hcs' : cs = [] := List.eq_nil_of_length_eq_zero (by simpa using hcs)
        subst hcs'
        exact run_firstCells_none w.drew z 0 0 cap
      | some g =>
        refine run_firstCells_some w.drew z len _ len cap cs hcs fun j v hj => ?_
        rw [add_eq, Nat.zero_add]
        exact Blk.cells (hs.drew.own 0 g _ rfl) _ _ hj
    refine ⟨(some w.heap.size, grownCap w (len + n) cap e), w.drew.alloc (.cells (cs.toArray ++ new.toArray ++ Builtin.zeroCells v.cells (grownCap w (len + n) cap e - (len + n))) e), ?_, ⟨hge, hcm', by simp⟩, ?_⟩
    · have hcut : (Question.appendCap (len + n) cap e).cut (w.tape w.drawn (.appendCap (len + n) cap e)) = grownCap w (len + n) cap e := rfl
      unfold gsv at hold
      rcases hu with hu | hu <;> simp [PC.sem, Builtin.append_, gsv, run_underlying ht, run_underlying hu, Go.sizeOf, typeInfo, zeroValue, g1, g2, g3, f1, f4, hroom, h63', h48, Question.forced, hold, newRow, hcut] <;> (congr 2;apply Array.ext';simp)
    · have hs1 : Sat w.drew Rx (none::T) := by
        have h := hs.drew
        refine ⟨h.ro, fun k a B hk => ?_, fun k a B hk => ?_, fun k m a B C hk hm => ?_, h.os, h.tape, h.out⟩ <;>
          (cases k with
          | zero => simp [Hp.at] at hk
          | succ k => first | exact h.own (k + 1) a B hk | exact h.off (k + 1) a B hk | (cases m with
            | zero => simp [Hp.at] at hm
            | succ m => exact h.one (k + 1) (m + 1) a B C hk hm))
      have := Sat.put_new (w' := w.drew.alloc (.cells (cs.toArray ++ new.toArray ++ Builtin.zeroCells v.cells (grownCap w (len + n) cap e - (len + n))) e)) hs1 (i := 0)
        (o := .cells (cs.toArray ++ new.toArray ++ Builtin.zeroCells v.cells (grownCap w (len + n) cap e - (len + n))) e) rfl rfl
        (B := .row (cs ++ new) e (grownCap w (len + n) cap e * z)) ⟨_, 0, 0, heap_alloc_new w.drew _, ?_, ?_, by omega⟩ ⟨rfl, rfl, rfl⟩
      · exact this
      · simp only [Array.size_append, List.size_toArray, size_zeroCells, hzs, hcs, hnl, ← Nat.add_mul]
        congr 1
        omega
      · simp only [Array.toList_append]
        exact List.take_left
theorem PrimOK.mono {P : Program} {c : PC} {R : RO} {H : Hp} {X Y : Type} {q : X → Prop} {g : X → Value×Hp} {q' : Y → Prop} {g' : Y → Value×Hp} (h : PrimOK P c R H X q g) (hm : ∀ x, q x → ∃ y, q' y∧g' y = g x) :
    PrimOK P c R H Y q' g' := fun Rx w hR hs => by
  obtain ⟨x, w', h1, h2, h3⟩ := h Rx w hR hs
  obtain ⟨y, h4, h5⟩ := hm x h2
  exact ⟨y, w', by rw [h5];exact h1, h4, by rw [h5];exact h3⟩
theorem app1_ok {P : Program} {R : RO} {t u ty e e' : TypeId} {z by' : Nat} {zc : List Value} {b : Option Nat} {len cap n : Nat} {x : Value} {cs new : List Value} {T : Hp}
    (ht : P.underlying t = some (.slice e)) (hu : P.underlying u = some (.slice e') ∨ P.underlying u = some .string) (hi : tyI P e = some (z, by', zc)) (hz : zc.length = z)
    (hcs : cs.length = len * z) (hlc : len ≤ cap) (hcm : cap ≤ maxLen) (hb : b = none → cap = 0)
    (hx : Src R (gsb b cs e (cap * z)::T) z n x new) (h1 : ∀ v ∈ new, v.oneCell' = true)
    (hbytes : (len + n) * by' ≤ 140737488355328) (h63 : len + n ≤ maxLen) (hpos : 0 < len + n) :
    PrimOK P (.app t u ty (gsv b len cap) x) R (gsb b cs e (cap * z)::T) (Nat×Nat)
      (fun y => len + n ≤ y.2∧y.2 ≤ maxLen) (fun y => (.slice (some ⟨y.1, 0, none⟩) (len + n) y.2, some (y.1, .row (cs ++ new) e (y.2 * z))::T)) :=
  (app_ok ht hu hi hz hcs hlc hcm hb hx h1 hbytes h63).mono fun y hy => by
    obtain ⟨a, c⟩ := y
    obtain ⟨h2, h3, h4⟩ := hy
    cases a with
    | none => have := (h4 rfl).1;simp at h2 this;omega
    | some a => exact ⟨(a, c), ⟨h2, h3⟩, rfl⟩
theorem Src.take {P : Program} {R Rx : RO} {H : Hp} {w : World} (hR : R.le Rx) (hs : Sat w Rx H) {z n k : Nat} {x : Value} {full : List Value} (h : Src R H z n x full) (hk : k ≤ n) (hz : (∃ s, x = .string s) → z = 1) :
    (Builtin.firstCells z k x).run P w = .ok (full.take (k * z)).toArray w := by
  have hkz : k * z ≤ n * z := Nat.mul_le_mul_right _ hk
  obtain ⟨hl, ⟨s, rfl, rfl, rfl⟩ | ⟨rfl, a, c, rfl⟩ | ⟨b, off, c, rfl, h⟩⟩ := h
  · have hz1 := hz ⟨s, rfl⟩
    subst hz1
    simp only [Builtin.firstCells, Sem.run_pure]
    congr 1
    apply Array.ext'
    simp [ints, sI, List.map_take, Function.comp_def]
  · have hk0 : k = 0 := by omega
    subst hk0
    simp only [Nat.zero_mul, List.take_zero]
    cases a with
    | none => exact run_firstCells_none w z 0 0 c
    | some a => exact run_firstCells_some w z 0 a 0 c [] (by simp) (fun j v hj => by simp at hj)
  · refine run_firstCells_some w z k _ n c _ (by rw [List.length_take, hl];exact Nat.min_eq_left hkz) (fun j v hj => ?_)
    refine Src.cell hR hs hl h j v ?_
    rw [List.getElem?_take] at hj
    split at hj
    · exact hj
    · cases hj
theorem seq (a b : ByteArray) : (a.toList == b.toList) = decide (a = b) := by
  rw [ByteArray.toList_eq, ByteArray.toList_eq]
  by_cases h : a = b
  · subst h;simp
  · rw [decide_eq_false h, beq_eq_false_iff_ne]
    intro he
    apply h
    apply ByteArray.ext
    exact Array.ext' he
theorem readVar_one {P : Program} {t : TypeId} {n : Nat} (h : tinfo P t = some (false, n)) (cs : List Value) (off : Nat) : readVar P t cs off = cs[off]? := by
  unfold readVar
  rw [h]
end Vc
set_option linter.unusedVariables false
set_option linter.unusedSimpArgs false
namespace Vc
open Go
theorem splice_of : ∀ {cs : List Value} {n : Nat} {vs : List Value}, n + vs.length ≤ cs.length → splice cs n vs = some (cs.take n ++ vs ++ cs.drop (n + vs.length))
  | cs, 0, [], h => by cases cs <;> simp [splice]
  | [], 0, v::vs, h => by simp at h
  | c::cs, 0, v::vs, h => by
    have := splice_of (cs := cs) (n := 0) (vs := vs) (by simp at h ⊢;omega)
    simp only [splice, this]
    simp
  | [], n + 1, vs, h => by simp at h
  | c::cs, n + 1, vs, h => by
    have := splice_of (cs := cs) (n := n) (vs := vs) (by simp at h ⊢;omega)
    simp only [splice, this]
    simp [show n + 1 + vs.length = n + vs.length + 1 by omega]
theorem takeL_of : ∀ {n : Nat} {l : List Value}, n ≤ l.length → takeL n l = some (l.take n)
  | 0, l, h => by cases l <;> simp [takeL]
  | n + 1, [], h => by simp at h
  | n + 1, x::l, h => by
    have := takeL_of (n := n) (l := l) (by simpa using h)
    simp [takeL, this]
theorem writeVar_of {P : Program} {t : TypeId} {n off : Nat} {cs cs' : List Value} {v : Value} (h : pureV P (Go.sizeOf t) = some n) (hv : v.cells.toList.length = n) (h1 : ones v.cells.toList = true)
    (hfit : off + n ≤ cs.length) (hl : cs'.length = cs.length) (hin : ∀ j, j < n → cs'[off + j]? = v.cells.toList[j]?) (hout : ∀ j, j < off ∨ off + n ≤ j → cs'[j]? = cs[j]?) : writeVar P t cs off v = some cs' := by
  unfold writeVar
  rw [h]
  simp only [hv, Nat.beq_refl, h1]
  rw [splice_of (by rw [hv];exact hfit)]
  congr 1
  apply List.ext_getElem?
  intro j
  by_cases h2 : j < off
  · rw [List.append_assoc, List.getElem?_append_left (by rw [List.length_take];omega), List.getElem?_take_of_lt h2, hout j (.inl h2)]
  · by_cases h3 : j < off + n
    · rw [List.getElem?_append_left (by rw [List.length_append, List.length_take, hv];omega), List.getElem?_append_right (by rw [List.length_take];omega), List.length_take, Nat.min_eq_left (by omega),
        ← hin (j - off) (by omega), show off + (j - off) = j by omega]
    · rw [List.getElem?_append_right (by rw [List.length_append, List.length_take, hv];omega), List.length_append, List.length_take, hv, Nat.min_eq_left (by omega), List.getElem?_drop, show off + n + (j - (off + n)) = j by omega, hout j (.inr (by omega))]
structure Dk where
  sure : Nat → Nat → Int
  now : Nat → Nat → Int
  waits : Nat → Bool
def Dk.zero : Dk := ⟨fun _ _ => 0, fun _ _ => 0, fun _ => false⟩
def Dk.cell (d : Dk) (j : Nat) : Value :=
  if j % 1025 < 512 then .int .u8 (d.sure (j / 1025) (j % 1025)) else if j % 1025 < 1024 then .int .u8 (d.now (j / 1025) (j % 1025 - 512)) else .bool (d.waits (j / 1025))
def Dk.row (d : Dk) (n : Nat) : List Value := (List.range (n * 1025)).map d.cell
end Vc
set_option linter.unusedVariables false
set_option linter.unusedSimpArgs false
namespace Vc
open Go
def ents {α β : Type} (kf : α → Value) (vf : β → Value) (m : List (α×β×Nat)) : List MapEntry := m.map fun x => { key := kf x.1, val := vf x.2.1, born := x.2.2 }
def aget {α β : Type} [DecidableEq α] : List (α×β×Nat) → α → Option β
  | [], _ => none
  | x::m, a => if a = x.1 then some x.2.1 else aget m a
def aput {α β : Type} [DecidableEq α] : List (α×β×Nat) → α → β → Nat → List (α×β×Nat)
  | [], a, v, c => [(a, v, c)]
  | x::m, a, v, c => if a = x.1 then (a, v, x.2.2)::m else x::aput m a v c
def adel {α β : Type} [DecidableEq α] : List (α×β×Nat) → α → List (α×β×Nat)
  | [], _ => []
  | x::m, a => if a = x.1 then m else x::adel m a
def aclk {α β : Type} [DecidableEq α] (m : List (α×β×Nat)) (a : α) (c : Nat) : Nat := if (aget m a).isSome = true then c else c + 1
def aidx {α β : Type} [DecidableEq α] : List (α×β×Nat) → α → Nat → Option (Nat×β)
  | [], _, _ => none
  | x::m, a, i => if a = x.1 then some (i, x.2.1) else aidx m a (i + 1)
structure KeyOK (P : Program) {α : Type} [DecidableEq α] (kt : TypeId) (kf : α → Value) : Prop where
  kd : ∃ d, P.underlying kt = some d∧∀ a b, Instr.sameNow d (kf a) (kf b) = some (decide (a = b))
  bits : ∀ a, Instr.sameBits 10000 (kf a) (kf a) = true
  chk : ∀ a e w, (Instr.checkKey e 10000 kt (kf a)).run P w = .ok () w
theorem aidx_get {α β : Type} [DecidableEq α] : ∀ (m : List (α×β×Nat)) (a : α) (i : Nat), (aidx m a i).map (·.2) = aget m a
  | [], a, i => rfl
  | x::m, a, i => by
    simp only [aidx, aget]
    split
    · rfl
    · exact aidx_get m a (i + 1)
theorem findNow_ents {α β : Type} [DecidableEq α] {kf : α → Value} {vf : β → Value} {d : TypeDesc} (h : ∀ a b, Instr.sameNow d (kf a) (kf b) = some (decide (a = b))) :
    ∀ (m : List (α×β×Nat)) (a : α) (i : Nat), Instr.findNow d (kf a) (ents kf vf m) i = some ((aidx m a i).map fun x => (x.1, vf x.2))
  | [], a, i => rfl
  | x::m, a, i => by
    show (match Instr.sameNow d (kf a) (kf x.1) with
      | some true => some (some (i, vf x.2.1))
      | some false => Instr.findNow d (kf a) (ents kf vf m) (i + 1)
      | none => none) = _
    rw [h]
    by_cases he : a = x.1
    · simp [aidx, he]
    · simp only [decide_eq_false he, aidx, if_neg he]
      exact findNow_ents h m a (i + 1)
theorem run_findKey {P : Program} {α β : Type} [DecidableEq α] {kf : α → Value} {vf : β → Value} {kt : TypeId} (hk : KeyOK P kt kf) (m : List (α×β×Nat)) (a : α) (w : World) :
    (Instr.findKey kt (kf a) (ents kf vf m)).run P w = .ok ((aidx m a 0).map fun x => (x.1, vf x.2)) w := by
  obtain ⟨d, h1, h2⟩ := hk.kd
  simp only [Instr.findKey, Sem.run_bind, run_underlying h1, Result.andThen_ok, findNow_ents h2, Sem.run_pure]
theorem look_ok {P : Program} {R : RO} {α β : Type} [DecidableEq α] {kf : α → Value} {vf : β → Value} {t kt et : TypeId} {A clk : Nat} {m : List (α×β×Nat)} {a : α} {z0 : β}
    (ht : P.underlying t = some (.map kt et)) (hk : KeyOK P kt kf) (hz : pureV P (zeroValue et) = some (vf z0)) :
    Prim0 P (.look t (.map (some A)) (kf a) true) R [some (A, .map (ents kf vf m) clk)] (.tuple #[vf ((aget m a).getD z0), .bool (aget m a).isSome]) [some (A, .map (ents kf vf m) clk)] := by
  intro Rx w hR hs
  refine ⟨w, ?_, hs⟩
  have hm : w.heap[A]? = some (.map (ents kf vf m).toArray clk) := hs.own 0 A _ rfl
  have hg : (getObj A).run P w = .ok (.map (ents kf vf m).toArray clk) w := by
    simp [getObj, Sem.run, hm]
  have hf := run_findKey (P := P) (vf := vf) hk m a w
  have hget := aidx_get m a 0
  simp only [PC.sem, Instr.lookup, Sem.run_bind, run_underlying ht, Result.andThen_ok, hg, Sem.run_pure, hk.chk]
  rw [hf]
  cases hi : aidx m a 0 with
  | none =>
    rw [hi] at hget
    simp only [Option.map_none] at hget
    simp [← hget, pureV_run hz]
  | some x =>
    rw [hi] at hget
    simp only [Option.map_some] at hget
    simp [← hget]
theorem look1_ok {P : Program} {R : RO} {α β : Type} [DecidableEq α] {kf : α → Value} {vf : β → Value} {t kt et : TypeId} {A clk : Nat} {m : List (α×β×Nat)} {a : α} {z0 : β}
    (ht : P.underlying t = some (.map kt et)) (hk : KeyOK P kt kf) (hz : pureV P (zeroValue et) = some (vf z0)) :
    Prim0 P (.look t (.map (some A)) (kf a) false) R [some (A, .map (ents kf vf m) clk)] (vf ((aget m a).getD z0)) [some (A, .map (ents kf vf m) clk)] := by
  intro Rx w hR hs
  refine ⟨w, ?_, hs⟩
  have hm : w.heap[A]? = some (.map (ents kf vf m).toArray clk) := hs.own 0 A _ rfl
  have hg : (getObj A).run P w = .ok (.map (ents kf vf m).toArray clk) w := by
    simp [getObj, Sem.run, hm]
  have hf := run_findKey (P := P) (vf := vf) hk m a w
  have hget := aidx_get m a 0
  simp only [PC.sem, Instr.lookup, Sem.run_bind, run_underlying ht, Result.andThen_ok, hg, Sem.run_pure, hk.chk]
  rw [hf]
  cases hi : aidx m a 0 with
  | none =>
    rw [hi] at hget
    simp only [Option.map_none] at hget
    simp [← hget, pureV_run hz]
  | some x =>
    rw [hi] at hget
    simp only [Option.map_some] at hget
    simp [← hget]
theorem ents_length {α β : Type} (kf : α → Value) (vf : β → Value) (m : List (α×β×Nat)) : (ents kf vf m).length = m.length := List.length_map ..
theorem aidx_put {α β : Type} [DecidableEq α] {kf : α → Value} {vf : β → Value} {a : α} {v : β} {c : Nat} : ∀ {m : List (α×β×Nat)} {i : Nat},
    (match aidx m a i with
      | some (j, _) => i ≤ j∧j - i < m.length∧(∃ u b, m[j - i]? = some (a, u, b))∧(ents kf vf m).modify (j - i) (fun e => { e with key := kf a, val := vf v }) = ents kf vf (aput m a v c)∧(ents kf vf m).eraseIdx (j - i) = ents kf vf (adel m a)
      | none => ents kf vf m ++ [{ key := kf a, val := vf v, born := c }] = ents kf vf (aput m a v c)∧adel m a = m)
  | [], i => by simp [aidx, aput, ents, adel]
  | x::m, i => by
    by_cases he : a = x.1
    · simp only [aidx, aput, adel, if_pos he]
      refine ⟨Nat.le_refl _, by simp, ⟨x.2.1, x.2.2, by simp [he]⟩, ?_, ?_⟩
      · simp [ents]
      · simp [ents]
    · simp only [aidx, aput, adel, if_neg he]
      have ih := aidx_put (kf := kf) (vf := vf) (a := a) (v := v) (c := c) (m := m) (i := i + 1)
      cases hi : aidx m a (i + 1) with
      | none =>
        rw [hi] at ih
        simp only at ih ⊢
        exact ⟨by simpa [ents] using ih.1, by rw [ih.2]⟩
      | some y =>
        obtain ⟨j, u⟩ := y
        rw [hi] at ih
        simp only at ih ⊢
        obtain ⟨h1, h2, h3, h4, h5⟩ := ih
        obtain ⟨k, rfl⟩ : ∃ k, j = i + 1 + k := ⟨j - (i + 1), by omega⟩
        have e1 : i + 1 + k - i = k + 1 := by omega
        have e2 : i + 1 + k - (i + 1) = k := by omega
        rw [e1]
        rw [e2] at h2 h3 h4 h5
        refine ⟨by omega, by simp;omega, by simpa using h3, ?_, ?_⟩
        · show _::(ents kf vf m).modify k _ = _
          rw [h4];rfl
        · show _::(ents kf vf m).eraseIdx k = _
          rw [h5];rfl
theorem run_setObj {P : Program} {w : World} {R : RO} {A clk clk' : Nat} {es es' : List MapEntry} {T : Hp} (hs : Sat w R (some (A, .map es clk)::T)) :
    ∃ w', (setObj A (.map es'.toArray clk')).run P w = .ok () w'∧Sat w' R (some (A, .map es' clk')::T) := by
  have hm : w.heap[A]? = some (.map es.toArray clk) := hs.own 0 A _ rfl
  have hlt := (Array.getElem?_eq_some_iff.1 hm).1
  refine ⟨{ w with heap := w.heap.setIfInBounds A (.map es'.toArray clk') }, ?_, ?_⟩
  · simp [setObj, Sem.run, hm]
  · exact Sat.put_upd (i := 0) (ad := A) (B := .map es clk) (B' := .map es' clk') hs rfl rfl (by simp [Blk.at, hlt]) ⟨rfl, rfl, rfl⟩
theorem mup_ok {P : Program} {R : RO} {α β : Type} [DecidableEq α] {kf : α → Value} {vf : β → Value} {t kt et : TypeId} {A clk : Nat} {m : List (α×β×Nat)} {a : α} {v : β}
    (ht : P.underlying t = some (.map kt et)) (hk : KeyOK P kt kf) :
    Prim0 P (.mup t (.map (some A)) (kf a) (vf v)) R [some (A, .map (ents kf vf m) clk)] undef [some (A, .map (ents kf vf (aput m a v clk)) (aclk m a clk))] := by
  intro Rx w hR hs
  have hm : w.heap[A]? = some (.map (ents kf vf m).toArray clk) := hs.own 0 A _ rfl
  have hg : (getObj A).run P w = .ok (.map (ents kf vf m).toArray clk) w := by
    simp [getObj, Sem.run, hm]
  have hf := run_findKey (P := P) (vf := vf) hk m a w
  have hget := aidx_get m a 0
  have hput := aidx_put (kf := kf) (vf := vf) (a := a) (v := v) (c := clk) (m := m) (i := 0)
  cases hi : aidx m a 0 with
  | none =>
    rw [hi] at hget hput hf
    simp only [Option.map_none] at hget hf
    obtain ⟨w', h1, h2⟩ := run_setObj (P := P) (es' := ents kf vf (aput m a v clk)) (clk' := clk + 1) hs
    refine ⟨w', ?_, by unfold aclk;rw [← hget];exact h2⟩
    rw [← hput.1] at h1
    simp only [PC.sem, Instr.mapUpdate, Sem.run_bind, run_underlying ht, Result.andThen_ok, hg, Sem.run_pure, hk.chk]
    rw [hf]
    simp only [Result.andThen_ok]
    rw [show ((ents kf vf m).toArray.push ({ key := kf a, val := vf v, born := clk } : MapEntry)) = (ents kf vf m ++ [({ key := kf a, val := vf v, born := clk } : MapEntry)]).toArray by simp, h1]
    rfl
  | some x =>
    obtain ⟨j, u⟩ := x
    rw [hi] at hget hput hf
    simp only [Option.map_some, Nat.sub_zero] at hget hput hf
    obtain ⟨_, hj, ⟨u', b, hu⟩, h4, _⟩ := hput
    obtain ⟨w', h1, h2⟩ := run_setObj (P := P) (es' := ents kf vf (aput m a v clk)) (clk' := clk) hs
    refine ⟨w', ?_, by unfold aclk;rw [← hget];exact h2⟩
    have hkey : ((((ents kf vf m).toArray[j]?).map (·.key)).getD (kf a)) = kf a := by
      simp [ents, hu]
    have hstay : (Instr.keyThatStays (kf a) (kf a)).run P w = .ok (kf a) w := by
      unfold Instr.keyThatStays
      rw [if_pos (hk.bits a)]
      rfl
    simp only [PC.sem, Instr.mapUpdate, Sem.run_bind, run_underlying ht, Result.andThen_ok, hg, Sem.run_pure, hk.chk]
    rw [hf]
    simp only [Result.andThen_ok, hkey, Sem.run_bind, hstay]
    rw [show ((ents kf vf m).toArray.modify j fun e => { e with key := kf a, val := vf v }) = ((ents kf vf m).modify j fun e => { e with key := kf a, val := vf v }).toArray by simp, h4, h1]
    rfl
theorem mlen_ok {P : Program} {R : RO} {α β : Type} {kf : α → Value} {vf : β → Value} {t ty kt et : TypeId} {A clk : Nat} {m : List (α×β×Nat)} (ht : P.underlying t = some (.map kt et)) :
    Prim0 P (.len t ty (.map (some A))) R [some (A, .map (ents kf vf m) clk)] (vi (m.length : Int)) [some (A, .map (ents kf vf m) clk)] := by
  intro Rx w hR hs
  refine ⟨w, ?_, hs⟩
  have hm : w.heap[A]? = some (.map (ents kf vf m).toArray clk) := hs.own 0 A _ rfl
  have hg : (getObj A).run P w = .ok (.map (ents kf vf m).toArray clk) w := by
    simp [getObj, Sem.run, hm]
  simp only [PC.sem, Builtin.len_, Sem.run_bind, List.getElem?_toArray, List.getElem?_cons_zero, run_underlying ht, Result.andThen_ok, hg, Sem.run_pure]
  simp [goInt, ents_length]
theorem bbeq (a b : ByteArray) : (a == b) = decide (a = b) := by
  obtain ⟨a⟩ := a
  obtain ⟨b⟩ := b
  show (a == b) = _
  by_cases h : a = b
  · subst h;simp
  · rw [decide_eq_false (fun hn => h (by cases hn;rfl)), beq_eq_false_iff_ne]
    exact h
theorem chkInt {P : Program} {kt : TypeId} {k : IntKind} (h : P.underlying kt = some (.int k)) (a : Int) (e : Bool) (w : World) (n : Nat) : (Instr.checkKey e (n + 1) kt (.int k a)).run P w = .ok () w := by
  simp [Instr.checkKey, run_underlying h]
theorem chkStr {P : Program} {kt : TypeId} (h : P.underlying kt = some .string) (a : ByteArray) (e : Bool) (w : World) (n : Nat) : (Instr.checkKey e (n + 1) kt (.string a)).run P w = .ok () w := by
  simp [Instr.checkKey, run_underlying h]
theorem keyInt {P : Program} {kt : TypeId} {k : IntKind} (h : P.underlying kt = some (.int k)) : KeyOK P kt (Value.int k) :=
  ⟨⟨_, h, fun a b => by simp [Instr.sameNow];rfl⟩, fun a => by simp [Instr.sameBits], fun a e w => chkInt h a e w 9999⟩
theorem keyStr {P : Program} {kt : TypeId} (h : P.underlying kt = some .string) : KeyOK P kt Value.string :=
  ⟨⟨_, h, fun a b => by simp only [Instr.sameNow, bbeq]⟩, fun a => by simp [Instr.sameBits, bbeq], fun a e w => chkStr h a e w 9999⟩
end Vc
set_option linter.unusedVariables false
set_option linter.unusedSimpArgs false
namespace Vc
open Go
theorem Sat.below {w w' : World} {R : RO} {H : Hp} (h : Sat w R H) (hb : Go.RowKit.Below w.heap.size w w') : Sat w' R H :=
  ⟨fun b o hr => (hb.block b (Array.getElem?_eq_some_iff.1 (h.ro b o hr)).1).trans (h.ro b o hr), fun i a B hi => Blk.at_heap (h.own i a B hi) (hb.block _ (Blk.at_lt (h.own i a B hi))), h.off, h.one, hb.os.trans h.os, hb.tape.trans h.tape, hb.output.trans h.out⟩
def strl (xs : List ByteArray) : List Value := xs.map Value.string
end Vc
namespace Go.Proofs.YtehbmooelcjfoaaDoor
open Vc Go
set_option linter.unusedVariables false
set_option linter.unusedSimpArgs false
def u32l (d : Array Int) : List Value := d.toList.map (Value.int .u32)
theorem u32l_len (d : Array Int) : (u32l d).length = d.size := by simp [u32l]
theorem swp_size (d : Array Int) (i j : Nat) : (Sort.swp d i j).size = d.size := by simp [Sort.swp]
theorem u32l_get {d : Array Int} {i : Nat} (h : i < d.size) : (u32l d)[i]? = some (vu d[i]!) := by
  simp [u32l, h]
theorem rd_u {P : Program} {t : Nat} (ht : tinfo P t = some (false, 1)) {d : Array Int} {T : List Value} {i off : Nat} (hi : i < d.size) (ho : off = i) : readVar P t (u32l d ++ T) off = some (vu d[i]!) := by
  subst ho
  rw [readVar_one ht, List.getElem?_append_left (by rw [u32l_len];exact hi), u32l_get hi]
theorem wr_u {P : Program} {t : Nat} (ht : pureV P (Go.sizeOf t) = some 1) {d : Array Int} {T : List Value} {i off : Nat} {v : Int} (hi : i < d.size) (ho : off = i) :
    writeVar P t (u32l d ++ T) off (vu v) = some (u32l (d.setIfInBounds i v) ++ T) := by
  subst ho
  refine writeVar_of ht (by simp [Value.cells]) (by rfl) (by rw [List.length_append, u32l_len];omega) (by simp [u32l_len]) (fun j hj => ?_) (fun j hj => ?_)
  · have : j = 0 := by omega
    subst this
    have h1 : off + 0 < (u32l (d.setIfInBounds off v)).length := by rw [u32l_len, Array.size_setIfInBounds];omega
    rw [List.getElem?_append_left h1, u32l_get (by rw [Array.size_setIfInBounds];omega)]
    simp [Value.cells, hi]
  · have hne : off ≠ j := by omega
    by_cases hl : j < d.size
    · have h1 : j < (u32l (d.setIfInBounds off v)).length := by rw [u32l_len, Array.size_setIfInBounds];omega
      have h2 : j < (u32l d).length := by rw [u32l_len];omega
      rw [List.getElem?_append_left h1, List.getElem?_append_left h2, u32l_get (d := d) hl, u32l_get (d := d.setIfInBounds off v) (by rw [Array.size_setIfInBounds];exact hl)]
      have : (d.setIfInBounds off v)[j]! = d[j]! := by rw [getElem!_def, getElem!_def, Array.getElem?_setIfInBounds_ne hne]
      rw [this]
    · have h1 : (u32l (d.setIfInBounds off v)).length ≤ j := by rw [u32l_len, Array.size_setIfInBounds];omega
      have h2 : (u32l d).length ≤ j := by rw [u32l_len];omega
      rw [List.getElem?_append_right h1, List.getElem?_append_right h2, u32l_len, u32l_len, Array.size_setIfInBounds]
abbrev RDu (A : Nat) (d : Array Int) (T : List Value) (i : Int) : Prop := A = A∧readVar Tryd.prog 23 (u32l d ++ T) (0 + Int.toNat i * 1) = some (vu d[Int.toNat i]!)
theorem rdu {A : Nat} {d : Array Int} {T : List Value} {i : Int} (h : Int.toNat i < d.size) : RDu A d T i := ⟨rfl, rd_u (by kernel_rfl) h (by omega)⟩
abbrev WRu (A : Nat) (d : Array Int) (T : List Value) (i v : Int) : Prop := A = A∧writeVar Tryd.prog 23 (u32l d ++ T) (0 + Int.toNat i * 1) (vu v) = some (u32l (d.setIfInBounds i.toNat v) ++ T)
theorem wru {A : Nat} {d : Array Int} {T : List Value} {i v : Int} (h : Int.toNat i < d.size) : WRu A d T i v := ⟨rfl, wr_u (by kernel_rfl) h (by omega)⟩
abbrev WRs (A : Nat) (d : Array Int) (T : List Value) (i j : Int) : Prop := A = A∧writeVar Tryd.prog 23 (u32l (d.setIfInBounds i.toNat d[Int.toNat j]!) ++ T) (0 + Int.toNat j * 1) (vu d[Int.toNat i]!) = some (u32l (Sort.swp d i.toNat j.toNat) ++ T)
theorem wrs {A : Nat} {d : Array Int} {T : List Value} {i j : Int} (h : Int.toNat j < d.size) : WRs A d T i j := ⟨rfl, wr_u (by kernel_rfl) (by rw [Array.size_setIfInBounds];exact h) (by omega)⟩
theorem lt_dec (x y : Int) : Sort.ltInt x y = decide (x < y) := rfl
theorem ins_step {d : Array Int} {a j : Int} (h1 : 0 ≤ a) (h2 : a < j) (h : decide (d[Int.toNat j]! < d[Int.toNat (j - 1)]!) = true) :
    Sort.insInner Sort.ltInt a.toNat j.toNat d = Sort.insInner Sort.ltInt a.toNat (j - 1).toNat (Sort.swp d j.toNat (j - 1).toNat) := by
  obtain ⟨k, hk⟩ : ∃ k, Int.toNat j = k + 1 := ⟨Int.toNat j - 1, by omega⟩
  have hk' : Int.toNat (j - 1) = k := by omega
  rw [hk, hk'] at h ⊢
  rw [Sort.insInner, if_pos (by simp only [lt_dec, h, Bool.and_true, decide_eq_true_eq];omega)]
theorem ins_end {d : Array Int} {a j : Int} (h1 : 0 ≤ a) (h2 : a ≤ j) (h : a = j ∨ decide (d[Int.toNat j]! < d[Int.toNat (j - 1)]!) = false) : Sort.insInner Sort.ltInt a.toNat j.toNat d = d := by
  cases hj : Int.toNat j with
  | zero => rfl
  | succ k =>
    rw [Sort.insInner, if_neg]
    rcases h with h | h
    · simp only [Bool.and_eq_true, decide_eq_true_eq];omega
    · have hk' : Int.toNat (j - 1) = k := by omega
      rw [hj, hk'] at h
      simp only [lt_dec, h, Bool.and_false, Bool.false_eq_true, not_false_eq_true]
theorem insI_size (a : Nat) : ∀ (j : Nat) (d : Array Int), (Sort.insInner Sort.ltInt a j d).size = d.size
  | 0, d => rfl
  | j + 1, d => by
    rw [Sort.insInner]
    split
    · rw [insI_size a j, swp_size]
    · rfl
theorem insO_step {d : Array Int} {a b i : Int} (h1 : 0 ≤ a) (h2 : a < i) (h3 : i < b) : Sort.insOuter Sort.ltInt a.toNat b.toNat i.toNat d = Sort.insOuter Sort.ltInt a.toNat b.toNat (i + 1).toNat (Sort.insInner Sort.ltInt a.toNat i.toNat d) := by
  rw [Sort.insOuter, if_pos (by omega), show Int.toNat i + 1 = Int.toNat (i + 1) by omega]
theorem insO_end {d : Array Int} {a b i : Int} (h3 : b ≤ i) (h0 : 0 ≤ i) : Sort.insOuter Sort.ltInt a.toNat b.toNat i.toNat d = d := by
  rw [Sort.insOuter, if_neg (by omega)]
theorem isNaN_ok (x : Int) (R : RO)  : Gives Tryd.prog 88 [vu x] R [] (.ret (.bool false)) [] :=
  Does.of_wp_eq (VC := (GQ R (.ret (.bool false)) [] (.ret (.bool (x != x))) R [])) (ops [.d, .d, .d, .d, .d] (.fin [] [])) Tryd.func88 (by kernel_rfl) (by kernel_rfl)
    (⟨rfl, (by simp), (by rfl)⟩)
theorem less_ok (x y : Int) (R : RO)  : Gives Tryd.prog 79 [vu x, vu y] R [] (.ret (.bool (decide (x < y)))) [] :=
  Does.of_wp_eq (VC := ((Gives Tryd.prog 88 [vu x] R [] (.ret (.bool false)) [])∧GQ R (.ret (.bool (decide (x < y)))) [] (.ret (.bool (decide (x < y)))) R [])) (ops [.d, .d, .call0 [] [] (fun e v => .ret (.bool false)) (fun e v => []), .d, .d, .d, .d, .d, .d, .d, .d] (.fin [] [])) Tryd.func79 (by kernel_rfl) (by kernel_rfl)
    (⟨(isNaN_ok x R), ⟨rfl, (by rfl), (by rfl)⟩⟩)
noncomputable def ins_ok_L4_inv (A0 n cap N : Nat) (T : List Value) (d : Array Int) (a b : Int) (i : Int) (f : Array Int) (u0 : Nat → Value)  : Int×(Array Int)×NV → St := fun zx => ⟨(slA A0 n cap::vi a::vi b::undef::undef::undef::vi i::vi zx.1::vi a::vi (a + 1)::vi i::vi b::.bool true::(u0 13)::(u0 14)::vi i::urun zx.2.2 16 33 []), [], [some (A0, .row (u32l zx.2.1 ++ T) 23 N)]⟩
def ins_ok_L4_I (A0 n cap N : Nat) (T : List Value) (d : Array Int) (a b : Int) (i : Int) (f : Array Int) (u0 : Nat → Value)  (R : RO) : Int×(Array Int)×NV → RO → Prop := fun zx G => G = R∧(zx.2.1.size = n∧a ≤ zx.1∧zx.1 < b∧zx.1 ≤ i∧Sort.insInner Sort.ltInt a.toNat zx.1.toNat zx.2.1 = Sort.insInner Sort.ltInt a.toNat i.toNat f)
def ins_ok_L4_mu (A0 n cap N : Nat) (T : List Value) (d : Array Int) (a b : Int) (i : Int) (f : Array Int) (u0 : Nat → Value)  : Int×(Array Int)×NV → Nat := fun zx => Int.toNat (zx.1 - a)
noncomputable def ins_ok_L4_K (A0 n cap N : Nat) (T : List Value) (d : Array Int) (a b : Int) (i : Int) (f : Array Int) (u0 : Nat → Value)  (R : RO) : Exit' → St → RO → Prop := altPost R (.alt (Int×(Array Int)×NV) (fun zx => zx.2.1 = Sort.insInner Sort.ltInt a.toNat i.toNat f) (fun zx => (.exit 2, ((ins_ok_L4_inv A0 n cap N T d a b i f u0 zx).up [] [some (A0, .row (u32l zx.2.1 ++ T) 23 N)]))) (fun _ => .altn) .altn)
theorem ins_ok_L4_body (A0 n cap N : Nat) (T : List Value) (d : Array Int) (a b : Int) (i : Int) (f : Array Int) (u0 : Nat → Value)  (R : RO) (hn : n ≤ 1152921504606846976) (ha : 0 ≤ a) (hb : b ≤ (n : Int)) (hf : f.size = n) (hai : a < i) (hib : i < b) (j : Int) (E : Array Int) (u52 : Nat → Value) (hI : E.size = n∧a ≤ j∧j < b∧j ≤ i∧Sort.insInner Sort.ltInt a.toNat j.toNat E = Sort.insInner Sort.ltInt a.toNat i.toNat f) : CT Tryd.prog (sub (bodyOf Tryd.f73) [1, 0, 0, 1, 0, 0, 1, 0, 0]) (ins_ok_L4_inv A0 n cap N T d a b i f u0 (j, E, u52)) R (LK (ins_ok_L4_inv A0 n cap N T d a b i f u0) (ins_ok_L4_I A0 n cap N T d a b i f u0 R) (ins_ok_L4_mu A0 n cap N T d a b i f u0) (ins_ok_L4_K A0 n cap N T d a b i f u0 R) (j, E, u52)) :=
  CT.of_wp_eq (VC := (let z7 := (ins_ok_L4_mu A0 n cap N T d a b i f u0);let z6 := (ins_ok_L4_K A0 n cap N T d a b i f u0 R);let z5 := (ins_ok_L4_I A0 n cap N T d a b i f u0 R);let z4 := (ins_ok_L4_inv A0 n cap N T d a b i f u0);let z3 : Option Addr := (some ⟨A0, 0 + Int.toNat j * 1, none⟩);let z2 := (E[Int.toNat (j - 1)]!);let z1 : Option Addr := (some ⟨A0, 0 + Int.toNat (j - 1) * 1, none⟩);let z0 := (decide ((E[Int.toNat j]!) < z2));((decide (j > a)) = true → ((decide (j > a)) = true)∧(IB j (n : Nat))∧(RDu A0 E T j)∧(NW .i64 (j - 1))∧(IB (j - 1) (n : Nat))∧(RDu A0 E T (j - 1))∧(Gives Tryd.prog 79 [vu (E[Int.toNat j]!), vu z2] R [] (.ret (.bool z0)) [])∧(z0 = true → (NW .i64 (j - 1))∧(NW .i64 (j - 1))∧(IB (j - 1) (n : Nat))∧(RDu A0 E T (j - 1))∧(IB j (n : Nat))∧(RDu A0 E T j)∧(IB j (n : Nat))∧(WRu A0 E T j z2)∧(IB (j - 1) (n : Nat))∧(WRs A0 E T j (j - 1))∧(NW .i64 (j - 1))∧LK z4 z5 z7 z6 (j, E, u52) .normal ⟨[slA A0 n cap, vi a, vi b, undef, undef, undef, vi i, vi (j - 1), vi a, vi (a + 1), vi i, vi b, .bool true, (u0 13), (u0 14), vi i, vi j, vi a, .bool (decide (j > a)), .bool true, slA A0 n cap, vi j, .pointer z3, vu (E[Int.toNat j]!), slA A0 n cap, vi j, vi (j - 1), .pointer z1, vu z2, .bool z0, .bool true, vi j, vi (j - 1), slA A0 n cap, vi j, slA A0 n cap, vi j, vi (j - 1), slA A0 n cap, vi j, vi (j - 1), .pointer z1, vu z2, slA A0 n cap, vi j, .pointer z3, vu (E[Int.toNat j]!), .pointer z3, .pointer z1], [], [some (A0, .row (u32l (Sort.swp E j.toNat (j - 1).toNat) ++ T) 23 N)]⟩ R)∧(z0 = false → LK z4 z5 z7 z6 (j, E, u52) (.exit 2) ((ins_ok_L4_inv A0 n cap N T d a b i f u0 (j, E, u52)).up [(16, vi j), (17, vi a), (18, .bool (decide (j > a))), (19, .bool true), (20, slA A0 n cap), (21, vi j), (22, .pointer z3), (23, vu (E[Int.toNat j]!)), (24, slA A0 n cap), (25, vi j), (26, vi (j - 1)), (27, .pointer z1), (28, vu z2), (29, .bool z0), (30, .bool false)] [some (A0, .row (u32l E ++ T) 23 N)]) R))∧((decide (j > a)) = false → ((decide (j > a)) = false)∧LK z4 z5 z7 z6 (j, E, u52) (.exit 2) ((ins_ok_L4_inv A0 n cap N T d a b i f u0 (j, E, u52)).up [(16, vi j), (17, vi a), (18, .bool (decide (j > a))), (19, .bool false), (20, undef), (21, undef), (22, undef), (23, undef), (24, undef), (25, undef), (26, undef), (27, undef), (28, undef), (29, undef), (30, .bool false)] [some (A0, .row (u32l E ++ T) 23 N)]) R))) (let y_0 := (E[Int.toNat (j - 1)]!);.cs (decide (j > a)) (.dr [some (.d), some (.d), some (.d), some (.db true), some (.d), some (.d), some (.ia), some (.q 0 (fun e v => .int .u32 (E[Int.toNat j]!))), some (.d), some (.d), some (.nw), some (.ia), some (.q 0 (fun e v => .int .u32 y_0)), some (.call0 [] [] (fun e v => .ret (.bool (decide ((E[Int.toNat j]!) < y_0)))) (fun e v => [])), some (.d)] (.sp 30 (.dr [some (.d), some (.d), some (.d), some (.d), some (.nw), some (.d), some (.d), some (.nw), some (.ia), some (.q 0 (fun e v => .int .u32 y_0)), some (.d), some (.d), some (.ia), some (.q 0 (fun e v => .int .u32 (E[Int.toNat j]!))), some (.ia), some (.sq 0 (fun e v => u32l (E.setIfInBounds j.toNat y_0) ++ T)), some (.ia), some (.sq 0 (fun e v => u32l (Sort.swp E j.toNat (j - 1).toNat) ++ T))] (ops [.d, .nw, .d] (.fin [] []))) (.fin [] []))) (.dr [some (.d), some (.d), some (.d), some (.db false), none, none, none, none, none, none, none, none, none, none, some (.d)] (.fin [] []))) (by kernel_rfl)
    (⟨fun h103 => (have := of_decide_eq_true h103;⟨h103, ⟨(by omega), ⟨(rdu (by omega)), ⟨(nwI (by omega) (by omega)), ⟨(by omega), ⟨(rdu (by omega)), ⟨(less_ok (E[Int.toNat j]!) (E[Int.toNat (j - 1)]!) R), ⟨fun h104 => ⟨(nwI (by omega) (by omega)), ⟨(nwI (by omega) (by omega)), ⟨(by omega), ⟨(rdu (by omega)), ⟨(by omega), ⟨(rdu (by omega)), ⟨(by omega), ⟨(wru (by omega)), ⟨(by omega), ⟨(wrs (by omega)), (have := swp_size E j.toNat (j - 1).toNat;⟨(nwI (by omega) (by omega)), LKn (fun zw => (j - 1, Sort.swp E j.toNat (j - 1).toNat, zw)) ⟨⟨rfl, (show (Sort.swp E j.toNat (j - 1).toNat).size = n∧a ≤ (j - 1)∧(j - 1) < b∧(j - 1) ≤ i∧Sort.insInner Sort.ltInt a.toNat (j - 1).toNat (Sort.swp E j.toNat (j - 1).toNat) = Sort.insInner Sort.ltInt a.toNat i.toNat f from ⟨(by omega), (by omega), (by omega), (by omega), (by rw [← hI.2.2.2.2];exact (ins_step ha (by omega) h104).symm)⟩)⟩, (show Int.toNat ((j - 1) - a) < Int.toNat (j - a) from (by omega)), ⟨rfl, rfl, rfl⟩⟩⟩)⟩⟩⟩⟩⟩⟩⟩⟩⟩⟩, fun h104 => altA (fun zw => (j, E, zw)) ⟨(show E = Sort.insInner Sort.ltInt a.toNat i.toNat f from (by rw [← hI.2.2.2.2];exact (ins_end ha hI.2.1 (.inr h104)).symm)), (by show _ = _;kernel_rfl), ⟨(by show _ = _;kernel_rfl), (by show _ = _;kernel_rfl), (by show _ = _;kernel_rfl)⟩⟩⟩⟩⟩⟩⟩⟩⟩⟩), fun h103 => (have := of_decide_eq_false h103;⟨h103, altA (fun zw => (j, E, zw)) ⟨(show E = Sort.insInner Sort.ltInt a.toNat i.toNat f from (by rw [← hI.2.2.2.2];exact (ins_end ha hI.2.1 (.inl (by omega))).symm)), (by show _ = _;kernel_rfl), ⟨(by show _ = _;kernel_rfl), (by show _ = _;kernel_rfl), (by show _ = _;kernel_rfl)⟩⟩⟩)⟩)
theorem ins_ok_L4_ct (A0 n cap N : Nat) (T : List Value) (d : Array Int) (a b : Int) (i : Int) (f : Array Int) (u0 : Nat → Value)  (R : RO) (hn : n ≤ 1152921504606846976) (ha : 0 ≤ a) (hb : b ≤ (n : Int)) (hf : f.size = n) (hai : a < i) (hib : i < b)  : CT Tryd.prog (sub (bodyOf Tryd.f73) [1, 0, 0, 1, 0, 0, 1, 0]) ⟨(slA A0 n cap::vi a::vi b::undef::undef::undef::vi i::vi i::vi a::vi (a + 1)::vi i::vi b::.bool true::(u0 13)::(u0 14)::vi i::urun u0 16 33 []), [], [some (A0, .row (u32l f ++ T) 23 N)]⟩ R (ins_ok_L4_K A0 n cap N T d a b i f u0 R) :=
  CT.loop_eqs (ins_ok_L4_inv A0 n cap N T d a b i f u0) (ins_ok_L4_I A0 n cap N T d a b i f u0 R) (ins_ok_L4_mu A0 n cap N T d a b i f u0) (fun zw => (i, f, zw)) (by kernel_rfl) (by kernel_rfl) ⟨rfl, (show f.size = n∧a ≤ i∧i < b∧i ≤ i∧Sort.insInner Sort.ltInt a.toNat i.toNat f = Sort.insInner Sort.ltInt a.toNat i.toNat f from ⟨by omega, by omega, by omega, by omega, rfl⟩)⟩
    (by
      rintro ⟨j, E, u52⟩ G hG ⟨rfl, hI⟩
      exact ins_ok_L4_body A0 n cap N T d a b i f u0 _ hn ha hb hf hai hib j E u52 hI)
noncomputable def ins_ok_L1_inv (A0 n cap N : Nat) (T : List Value) (d : Array Int) (a b : Int)  : Int×(Array Int)×NV → St := fun zx => ⟨(slA A0 n cap::vi a::vi b::undef::undef::undef::vi zx.1::(zx.2.2 7)::vi a::vi (a + 1)::urun zx.2.2 10 39 []), [], [some (A0, .row (u32l zx.2.1 ++ T) 23 N)]⟩
def ins_ok_L1_I (A0 n cap N : Nat) (T : List Value) (d : Array Int) (a b : Int)  (R : RO) : Int×(Array Int)×NV → RO → Prop := fun zx G => G = R∧(zx.2.1.size = n∧a < zx.1∧Sort.insOuter Sort.ltInt a.toNat b.toNat zx.1.toNat zx.2.1 = Sort.insertionSort Sort.ltInt d a.toNat b.toNat)
def ins_ok_L1_mu (A0 n cap N : Nat) (T : List Value) (d : Array Int) (a b : Int)  : Int×(Array Int)×NV → Nat := fun zx => Int.toNat (b - zx.1)
noncomputable def ins_ok_L1_K (A0 n cap N : Nat) (T : List Value) (d : Array Int) (a b : Int)  (R : RO) : Exit' → St → RO → Prop := altPost R (.alt (Int×(Array Int)×NV) (fun zx => zx.2.1 = Sort.insertionSort Sort.ltInt d a.toNat b.toNat) (fun zx => (.exit 0, ((ins_ok_L1_inv A0 n cap N T d a b zx).up [] [some (A0, .row (u32l zx.2.1 ++ T) 23 N)]))) (fun _ => .altn) .altn)
theorem ins_ok_L1_body (A0 n cap N : Nat) (T : List Value) (d : Array Int) (a b : Int)  (R : RO) (hd : d.size = n) (hn : n ≤ 1152921504606846976) (ha : 0 ≤ a) (han : a ≤ (n : Int)) (hb : b ≤ (n : Int)) (i : Int) (f : Array Int) (u0 : Nat → Value) (hI : f.size = n∧a < i∧Sort.insOuter Sort.ltInt a.toNat b.toNat i.toNat f = Sort.insertionSort Sort.ltInt d a.toNat b.toNat) : CT Tryd.prog (sub (bodyOf Tryd.f73) [1, 0, 0]) (ins_ok_L1_inv A0 n cap N T d a b (i, f, u0)) R (LK (ins_ok_L1_inv A0 n cap N T d a b) (ins_ok_L1_I A0 n cap N T d a b R) (ins_ok_L1_mu A0 n cap N T d a b) (ins_ok_L1_K A0 n cap N T d a b R) (i, f, u0)) :=
  CT.of_wp_eq (VC := (((decide (i < b)) = true → (CT Tryd.prog (sub (bodyOf Tryd.f73) [1, 0, 0, 1, 0, 0, 1, 0]) ⟨(slA A0 n cap::vi a::vi b::undef::undef::undef::vi i::vi i::vi a::vi (a + 1)::vi i::vi b::.bool true::(u0 13)::(u0 14)::vi i::urun u0 16 33 []), [], [some (A0, .row (u32l f ++ T) 23 N)]⟩ R (ins_ok_L4_K A0 n cap N T d a b i f u0 R))∧(∀ x53 : Int×(Array Int)×NV, (x53.2.1 = Sort.insInner Sort.ltInt a.toNat i.toNat f) → (NW .i64 (i + 1))∧LK (ins_ok_L1_inv A0 n cap N T d a b) (ins_ok_L1_I A0 n cap N T d a b R) (ins_ok_L1_mu A0 n cap N T d a b) (ins_ok_L1_K A0 n cap N T d a b R) (i, f, u0) .normal ⟨(slA A0 n cap::vi a::vi b::undef::undef::undef::vi (i + 1)::vi x53.1::vi a::vi (a + 1)::vi i::vi b::.bool true::vi i::vi (i + 1)::vi i::urun x53.2.2 16 33 []), [], [some (A0, .row (u32l x53.2.1 ++ T) 23 N)]⟩ R)∧True)∧((decide (i < b)) = false → LK (ins_ok_L1_inv A0 n cap N T d a b) (ins_ok_L1_I A0 n cap N T d a b R) (ins_ok_L1_mu A0 n cap N T d a b) (ins_ok_L1_K A0 n cap N T d a b R) (i, f, u0) (.exit 0) ((ins_ok_L1_inv A0 n cap N T d a b (i, f, u0)).up [(10, vi i), (11, vi b), (12, .bool false)] [some (A0, .row (u32l f ++ T) 23 N)]) R))) (ops [.d, .d, .d] (.sp 12 (ops [.d, .d] (.alt (Int×(Array Int)×NV) (fun zx => zx.2.1 = Sort.insInner Sort.ltInt a.toNat i.toNat f) (fun zx => (.exit 2, ((ins_ok_L4_inv A0 n cap N T d a b i f u0 zx).up [] [some (A0, .row (u32l zx.2.1 ++ T) 23 N)]))) (fun x53 => (ops [.d, .nw, .d] (.fin [] []))) .altn)) (.fin [] []))) (by kernel_rfl)
    (⟨fun h51 => (have := of_decide_eq_true h51;⟨ins_ok_L4_ct A0 n cap N T d a b i f u0 R hn ha hb hI.1 (by have := hI.2.1;omega) (by omega), ⟨fun x53 qx53 => ⟨(nwI (by omega) (by omega)), LKn (fun zw => (i + 1, x53.2.1, zw)) ⟨⟨rfl, (show x53.2.1.size = n∧a < (i + 1)∧Sort.insOuter Sort.ltInt a.toNat b.toNat (i + 1).toNat x53.2.1 = Sort.insertionSort Sort.ltInt d a.toNat b.toNat from ⟨(by rw [qx53, insI_size];exact hI.1), (by omega), (by rw [qx53, ← hI.2.2];exact (insO_step ha hI.2.1 (by omega)).symm)⟩)⟩, (show Int.toNat (b - (i + 1)) < Int.toNat (b - i) from (by omega)), ⟨rfl, rfl, rfl⟩⟩⟩, trivial⟩⟩), fun h51 => (have := of_decide_eq_false h51;altA (fun zw => (i, f, zw)) ⟨(show f = Sort.insertionSort Sort.ltInt d a.toNat b.toNat from (by rw [← hI.2.2];exact (insO_end (by omega) (by omega)).symm)), (by show _ = _;kernel_rfl), ⟨(by show _ = _;kernel_rfl), (by show _ = _;kernel_rfl), (by show _ = _;kernel_rfl)⟩⟩)⟩)
theorem ins_ok_L1_ct (A0 n cap N : Nat) (T : List Value) (d : Array Int) (a b : Int)  (R : RO) (hd : d.size = n) (hn : n ≤ 1152921504606846976) (ha : 0 ≤ a) (han : a ≤ (n : Int)) (hb : b ≤ (n : Int))  : CT Tryd.prog (sub (bodyOf Tryd.f73) [1, 0]) ⟨(slA A0 n cap::vi a::vi b::undef::undef::undef::vi (a + 1)::undef::vi a::vi (a + 1)::uns 39 []), [], [some (A0, .row (u32l d ++ T) 23 N)]⟩ R (ins_ok_L1_K A0 n cap N T d a b R) :=
  CT.loop_eqs (ins_ok_L1_inv A0 n cap N T d a b) (ins_ok_L1_I A0 n cap N T d a b R) (ins_ok_L1_mu A0 n cap N T d a b) (fun zw => (a + 1, d, zw)) (by kernel_rfl) (by kernel_rfl) ⟨rfl, (show d.size = n∧a < (a + 1)∧Sort.insOuter Sort.ltInt a.toNat b.toNat (a + 1).toNat d = Sort.insertionSort Sort.ltInt d a.toNat b.toNat from ⟨hd, by omega, (by unfold Sort.insertionSort;rw [show Int.toNat (a + 1) = Int.toNat a + 1 by omega])⟩)⟩
    (by
      rintro ⟨i, f, u0⟩ G hG ⟨rfl, hI⟩
      exact ins_ok_L1_body A0 n cap N T d a b _ hd hn ha han hb i f u0 hI)
theorem ins_ok (A0 n cap N : Nat) (T : List Value) (d : Array Int) (a b : Int) (R : RO) (hd : d.size = n) (hn : n ≤ 1152921504606846976) (ha : 0 ≤ a) (han : a ≤ (n : Int)) (hb : b ≤ (n : Int)) : Gives Tryd.prog 73 [slA A0 n cap, vi a, vi b] R [some (A0, .row (u32l d ++ T) 23 N)] (.ret (.tuple #[])) [some (A0, .row (u32l (Sort.insertionSort Sort.ltInt d a.toNat b.toNat) ++ T) 23 N)] :=
  Does.of_wp_eq (VC := ((NW .i64 (a + 1))∧(CT Tryd.prog (sub (bodyOf Tryd.f73) [1, 0]) ⟨(slA A0 n cap::vi a::vi b::undef::undef::undef::vi (a + 1)::undef::vi a::vi (a + 1)::uns 39 []), [], [some (A0, .row (u32l d ++ T) 23 N)]⟩ R (ins_ok_L1_K A0 n cap N T d a b R))∧(∀ x1 : Int×(Array Int)×NV, (x1.2.1 = Sort.insertionSort Sort.ltInt d a.toNat b.toNat) → GQ R (.ret (.tuple #[])) [some (A0, .row (u32l (Sort.insertionSort Sort.ltInt d a.toNat b.toNat) ++ T) 23 N)] (.ret (.tuple #[])) R [some (A0, .row (u32l x1.2.1 ++ T) 23 N)])∧True)) (ops [.d, .nw, .d] (.alt (Int×(Array Int)×NV) (fun zx => zx.2.1 = Sort.insertionSort Sort.ltInt d a.toNat b.toNat) (fun zx => (.exit 0, ((ins_ok_L1_inv A0 n cap N T d a b zx).up [] [some (A0, .row (u32l zx.2.1 ++ T) 23 N)]))) (fun x1 => (.fin [0] [])) .altn)) Tryd.func73 (by kernel_rfl) (by kernel_rfl)
    (⟨(nwI (by omega) (by omega)), ⟨ins_ok_L1_ct A0 n cap N T d a b R hd hn ha han hb, ⟨fun x1 qx1 => ⟨rfl, (by rfl), (by rw [qx1])⟩, trivial⟩⟩⟩)
end Go.Proofs.YtehbmooelcjfoaaDoor
