import Derived.Calls
import Derived.Orders
import Derived.Laws.Cells
import Derived.Laws.Tables
import Derived.Laws.CopyRow
import Derived.KernelRfl
/- Vc, part A: blocks that a call owns, what is known of all others; what single operations do to them. -/
set_option linter.unusedVariables false
set_option linter.unusedSimpArgs false
namespace Vc
open Go

/-! ## Words -/

/-- What is known of memory that nobody writes. -/
structure RO where
  mem : Nat → Option Obj
  os : Os
  tape : Nat → Question → Nat
  out : Array (Nat × ByteArray)

structure RO.le (R S : RO) : Prop where
  mem : ∀ b o, R.mem b = some o → S.mem b = some o
  os : S.os = R.os
  tape : S.tape = R.tape
  out : S.out = R.out
theorem RO.le_refl (R : RO) : R.le R := ⟨fun _ _ h => h, rfl, rfl, rfl⟩
theorem RO.le_trans {R S T : RO} (h : R.le S) (h' : S.le T) : R.le T :=
  ⟨fun b o x => h'.mem b o (h.mem b o x), h'.os.trans h.os, h'.tape.trans h.tape, h'.out.trans h.out⟩

/-- Beside its memory a world is as another one. -/
structure Same (w w' : World) : Prop where
  os : w'.os = w.os
  tape : w'.tape = w.tape
  out : w'.output = w.output
theorem Same.refl (w : World) : Same w w := ⟨rfl, rfl, rfl⟩
theorem Same.trans {a b c : World} (h : Same a b) (h' : Same b c) : Same a c := ⟨h'.os.trans h.os, h'.tape.trans h.tape, h'.out.trans h.out⟩

/-- A block that is owned: its first cells, its element type, how many cells it has; or a map. -/
inductive Blk where
  | row (cs : List Value) (t : TypeId) (n : Nat)
  | map (es : List MapEntry) (clock : Nat)
  | obj (o : Obj)

/-- Blocks by names 0, 1, ..: each with its place in memory. -/
abbrev Hp := List (Option (Nat × Blk))

def Hp.at : Hp → Nat → Option (Nat × Blk)
  | [], _ => none
  | x :: _, 0 => x
  | _ :: l, n + 1 => Hp.at l n

def Hp.put : Hp → Nat → Option (Nat × Blk) → Hp
  | [], 0, b => [b]
  | [], n + 1, b => none :: Hp.put [] n b
  | _ :: l, 0, b => b :: l
  | x :: l, n + 1, b => x :: Hp.put l n b

theorem Hp.at_nil (n : Nat) : Hp.at [] n = none := by cases n <;> rfl
theorem Hp.at_put_same : ∀ (H : Hp) (n : Nat) (b : Option (Nat × Blk)), (H.put n b).at n = b
  | [], 0, b => rfl
  | [], n + 1, b => by simp only [Hp.put, Hp.at]; exact Hp.at_put_same [] n b
  | _ :: l, 0, b => rfl
  | _ :: l, n + 1, b => by simp only [Hp.put, Hp.at]; exact Hp.at_put_same l n b
theorem Hp.at_put_ne : ∀ (H : Hp) (n m : Nat) (b : Option (Nat × Blk)), n ≠ m → (H.put n b).at m = H.at m
  | [], 0, 0, b, h => absurd rfl h
  | [], 0, m + 1, b, h => by simp [Hp.put, Hp.at, Hp.at_nil]
  | [], n + 1, 0, b, h => by simp [Hp.put, Hp.at]
  | [], n + 1, m + 1, b, h => by simp only [Hp.put, Hp.at]; rw [Hp.at_put_ne [] n m b (by omega), Hp.at_nil]
  | _ :: l, 0, 0, b, h => absurd rfl h
  | _ :: l, 0, m + 1, b, h => by simp [Hp.put, Hp.at]
  | _ :: l, n + 1, 0, b, h => by simp [Hp.put, Hp.at]
  | _ :: l, n + 1, m + 1, b, h => by simp only [Hp.put, Hp.at]; exact Hp.at_put_ne l n m b (by omega)
theorem Hp.at_put (H : Hp) (n m : Nat) (b : Option (Nat × Blk)) : (H.put n b).at m = if n = m then b else H.at m := by
  split
  · rename_i h; subst h; exact Hp.at_put_same H n b
  · rename_i h; exact Hp.at_put_ne H n m b h

def Blk.at (w : World) (a : Nat) : Blk → Prop
  | .row cs t n => ∃ c lo hi, w.heap[a]? = some (.cells c t (lo, hi)) ∧ c.size = n ∧ c.toList.take cs.length = cs ∧ (∀ i, i < n → ¬ (lo ≤ i ∧ i < hi))
  | .map es k => w.heap[a]? = some (.map es.toArray k)
  | .obj o => w.heap[a]? = some o

theorem Blk.at_heap {w w' : World} {a : Nat} {B : Blk} (h : B.at w a) (he : w'.heap[a]? = w.heap[a]?) : B.at w' a := by
  cases B <;> simpa only [Blk.at, he] using h

theorem Blk.at_lt {w : World} {a : Nat} {B : Blk} (h : B.at w a) : a < w.heap.size := by
  rcases Nat.lt_or_ge a w.heap.size with hl | hl
  · exact hl
  · cases B with
    | row cs t n => obtain ⟨c, lo, hi, h1, _⟩ := h; simp [Array.getElem?_eq_none hl] at h1
    | map es k => simp [Blk.at, Array.getElem?_eq_none hl] at h
    | obj o => simp [Blk.at, Array.getElem?_eq_none hl] at h

/-- The world holds what is known, and the blocks that are owned, apart from each other. -/
structure Sat (w : World) (R : RO) (H : Hp) : Prop where
  ro : ∀ b o, R.mem b = some o → w.heap[b]? = some o
  own : ∀ i a B, H.at i = some (a, B) → B.at w a
  off : ∀ i a B, H.at i = some (a, B) → R.mem a = none
  one : ∀ i j a B C, H.at i = some (a, B) → H.at j = some (a, C) → i = j
  os : w.os = R.os
  tape : w.tape = R.tape
  out : w.output = R.out

theorem Sat.heap {w w' : World} {R : RO} {H : Hp} (h : Sat w R H) (he : w'.heap = w.heap) (hk : Same w w') : Sat w' R H :=
  ⟨fun b o hb => by rw [he]; exact h.ro b o hb, fun i a B hi => Blk.at_heap (h.own i a B hi) (by rw [he]), h.off, h.one, hk.os.trans h.os, hk.tape.trans h.tape, hk.out.trans h.out⟩

/-! ## Temporaries -/

def tget : List Value → Nat → Value
  | [], _ => undef
  | x :: _, 0 => x
  | _ :: l, n + 1 => tget l n

def tput : List Value → Nat → Value → List Value
  | [], _, _ => []
  | _ :: l, 0, v => v :: l
  | x :: l, n + 1, v => x :: tput l n v

/-- Temporaries of which little is known, told shortly. -/
def urun (u : Nat → Value) : Nat → Nat → List Value → List Value
  | _, 0, l => l
  | k, n + 1, l => u k :: urun u (k + 1) n l
def uns : Nat → List Value → List Value
  | 0, l => l
  | n + 1, l => undef :: uns n l

def put (tm : List Value) : Option Tmp → Value → List Value
  | some d, v => tput tm d v
  | none, _ => tm

def ev (tm : List Value) : Operand → Value
  | .tmp t => tget tm t
  | .const v => v
  | .global g => .pointer (some ⟨g, 0, none⟩)
  | .func f => .func (.func f) #[] #[]

theorem tget_eq : ∀ (l : List Value) (n : Nat), tget l n = l.toArray.getD n undef
  | [], n => by simp [tget]
  | x :: l, 0 => by simp [tget]
  | x :: l, n + 1 => by
    have := tget_eq l n
    simp only [tget, this]
    simp [← Array.getElem?_toList]
    

theorem tput_eq : ∀ (l : List Value) (n : Nat) (v : Value), (tput l n v) = l.set n v
  | [], n, v => by simp [tput]
  | x :: l, 0, v => by simp [tput]
  | x :: l, n + 1, v => by simp [tput, tput_eq l n v]

structure St where
  tm : List Value
  df : List Deferred
  hp : Hp

def St.act (s : St) : Act := ⟨s.tm.toArray, s.df⟩

theorem St.eval (s : St) : s.act.eval = ev s.tm := by
  funext x; cases x with
  | tmp t => simp only [Act.eval, St.act, ev, tget_eq]
  | _ => rfl

theorem St.put_act (s : St) (d : Option Tmp) (v : Value) : s.act.put d v = (St.act { s with tm := put s.tm d v }) := by
  cases d with
  | none => rfl
  | some d => simp [Act.put, St.act, put, tput_eq]

/-! ## Operations that touch no memory -/

def pureV (P : Program) {α : Type} : Sem α → Option α
  | .pure v => some v
  | .program k => pureV P (k P)
  | .mark _ k => pureV P k
  | _ => none

def pureN (P : Program) : Sem Next → Option Value
  | .pure (.value v) => some v
  | .program k => pureN P (k P)
  | .mark _ k => pureN P k
  | _ => none

theorem pureV_run {P : Program} {α : Type} : ∀ {s : Sem α} {v : α}, pureV P s = some v → ∀ w, s.run P w = .ok v w := by
  intro s
  induction s with
  | pure a => intro v h w; simp [pureV] at h; subst h; rfl
  | program k ih => intro v h w; simp only [pureV] at h; exact ih P h w
  | mark m k ih => intro v h w; simp only [pureV] at h; exact ih h w
  | _ => intro v h; simp [pureV] at h

theorem pureN_run {P : Program} : ∀ {s : Sem Next} {v : Value}, pureN P s = some v → ∀ w, s.run P w = .ok (.value v) w := by
  intro s
  induction s with
  | pure a => intro v h w; cases a <;> simp [pureN] at h; subst h; rfl
  | program k ih => intro v h w; simp only [pureN] at h; exact ih P h w
  | mark m k ih => intro v h w; simp only [pureN] at h; exact ih h w
  | _ => intro v h; simp [pureN] at h

/-! ## Reading and writing variables -/

def takeL {α : Type} : Nat → List α → Option (List α)
  | 0, _ => some []
  | _ + 1, [] => none
  | n + 1, x :: xs => match takeL n xs with
    | some l => some (x :: l)
    | none => none

theorem takeL_some {α : Type} : ∀ {n : Nat} {l m : List α}, takeL n l = some m → m = l.take n ∧ n ≤ l.length
  | 0, l, m, h => by simp [takeL] at h; simp [h]
  | n + 1, [], m, h => by simp [takeL] at h
  | n + 1, x :: xs, m, h => by
    simp only [takeL] at h
    cases hx : takeL n xs with
    | none => simp [hx] at h
    | some k =>
      simp [hx] at h
      obtain ⟨rfl, h2⟩ := takeL_some hx
      subst h
      simp; omega

def tinfo (P : Program) (t : TypeId) : Option (Bool × Nat) :=
  match pureV P (isAgg t), pureV P (Go.sizeOf t) with
  | some b, some n => some (b, n)
  | _, _ => none

theorem tinfo_run {P : Program} {t : TypeId} {b : Bool} {n : Nat} (h : tinfo P t = some (b, n)) :
    (∀ w : World, (isAgg t).run P w = .ok b w) ∧ (∀ w : World, (Go.sizeOf t).run P w = .ok n w) := by
  unfold tinfo at h
  cases h1 : pureV P (isAgg t) with
  | none => simp [h1] at h
  | some b' =>
    cases h2 : pureV P (Go.sizeOf t) with
    | none => simp [h1, h2] at h
    | some n' =>
      simp [h1, h2] at h
      obtain ⟨rfl, rfl⟩ := h
      exact ⟨pureV_run h1, pureV_run h2⟩

def readVar (P : Program) (t : TypeId) (cs : List Value) (off : Nat) : Option Value :=
  match tinfo P t with
  | some (true, n) => match takeL n (cs.drop off) with
    | some l => some (.agg l.toArray)
    | none => none
  | some (false, _) => cs[off]?
  | none => none

theorem add_eq (b off n : Nat) : (⟨b, off, none⟩ : Addr).add n = ⟨b, off + n, none⟩ := by
  unfold Addr.add; split
  · rename_i h; subst h; rfl
  · rfl

/-- Cells that lie in a block, from its beginning on. -/
theorem cell_of_take {w : World} {ad : Nat} {c : Array Value} {t : TypeId} {fr : Nat × Nat} (hc : w.heap[ad]? = some (.cells c t fr)) {cs : List Value}
    (ht : c.toList.take cs.length = cs) {i : Nat} {v : Value} (hv : cs[i]? = some v) : w.cell? ⟨ad, i, none⟩ = some v := by
  have hi : i < cs.length := by
    rcases Nat.lt_or_ge i cs.length with h | h
    · exact h
    · simp [List.getElem?_eq_none h] at hv
  have : c.toList[i]? = some v := by
    rw [← ht] at hv
    rw [List.getElem?_take_of_lt hi] at hv
    exact hv
  simpa [World.cell?, hc] using this

theorem run_loadVar_of {P : Program} {w : World} {t : TypeId} {ad off : Nat} {cs : List Value} {v : Value}
    (hcell : ∀ i x, cs[i]? = some x → w.cell? ⟨ad, i, none⟩ = some x) (hr : readVar P t cs off = some v) :
    (loadVar t ⟨ad, off, none⟩).run P w = .ok v w := by
  unfold readVar at hr
  cases hi : tinfo P t with
  | none => simp [hi] at hr
  | some x =>
    obtain ⟨b, n⟩ := x
    obtain ⟨h1, h2⟩ := tinfo_run hi
    cases b with
    | true =>
      simp only [hi] at hr
      cases hl : takeL n (cs.drop off) with
      | none => simp [hl] at hr
      | some l =>
        simp [hl] at hr
        subst hr
        obtain ⟨hl1, hl2⟩ := takeL_some hl
        have hlen : l.length = n := by rw [hl1, List.length_take]; omega
        have := run_loadCells_list (P := P) w ⟨ad, off, none⟩ l (fun j x hj => by
          rw [add_eq]
          apply hcell
          have hjl : j < n := by
            rcases Nat.lt_or_ge j n with h | h
            · exact h
            · rw [List.getElem?_eq_none (by omega)] at hj; cases hj
          rw [hl1, List.getElem?_take_of_lt hjl, List.getElem?_drop] at hj
          exact hj)
        rw [hlen] at this
        simp [loadVar, h1, h2, this]
    | false =>
      simp only [hi] at hr
      simp [loadVar, h1, hcell _ _ hr]

theorem Blk.cells {w : World} {ad : Nat} {cs : List Value} {t : TypeId} {n : Nat} (h : (Blk.row cs t n).at w ad) (i : Nat) (x : Value) (hx : cs[i]? = some x) :
    w.cell? ⟨ad, i, none⟩ = some x := by
  obtain ⟨c, lo, hi, hc, _, ht, _⟩ := h
  exact cell_of_take hc ht hx

/-- What is known of a cell that nobody writes. -/
def RO.cells (R : RO) (ad off : Nat) (cs : List Value) : Prop :=
  ∃ c t fr, R.mem ad = some (.cells c t fr) ∧ (c.toList.drop off).take cs.length = cs

theorem RO.cells_mono {R S : RO} (h : R.le S) {ad off : Nat} {cs : List Value} (hc : R.cells ad off cs) : S.cells ad off cs := by
  obtain ⟨c, t, fr, h1, h2⟩ := hc
  exact ⟨c, t, fr, h.mem _ _ h1, h2⟩

def splice : List Value → Nat → List Value → Option (List Value)
  | cs, 0, [] => some cs
  | [], 0, _ :: _ => none
  | c :: cs, 0, v :: vs => match splice cs 0 vs with
    | some l => some (v :: l)
    | none => none
  | [], _ + 1, _ => none
  | c :: cs, n + 1, vs => match splice cs n vs with
    | some l => some (c :: l)
    | none => none

theorem splice_some : ∀ {cs : List Value} {n : Nat} {vs l : List Value}, splice cs n vs = some l →
    n + vs.length ≤ cs.length ∧ l = cs.take n ++ vs ++ cs.drop (n + vs.length)
  | cs, 0, [], l, h => by cases cs <;> simp [splice] at h <;> simp [h]
  | [], 0, v :: vs, l, h => by simp [splice] at h
  | c :: cs, 0, v :: vs, l, h => by
    simp only [splice] at h
    cases hs : splice cs 0 vs with
    | none => simp [hs] at h
    | some k =>
      simp [hs] at h
      obtain ⟨h1, h2⟩ := splice_some hs
      subst h
      subst h2
      simp at h1 ⊢
      exact h1
  | [], n + 1, vs, l, h => by simp [splice] at h
  | c :: cs, n + 1, vs, l, h => by
    simp only [splice] at h
    cases hs : splice cs n vs with
    | none => simp [hs] at h
    | some k =>
      simp [hs] at h
      obtain ⟨h1, h2⟩ := splice_some hs
      subst h
      subst h2
      simp at h1 ⊢
      constructor
      · omega
      · rw [show n + 1 + vs.length = (n + vs.length) + 1 by omega]; simp

def ones : List Value → Bool
  | [] => true
  | v :: l => match v.oneCell' with
    | true => ones l
    | false => false

theorem ones_spec : ∀ {l : List Value}, ones l = true → ∀ v ∈ l, v.oneCell' = true
  | [], _, v, hv => by cases hv
  | x :: l, h, v, hv => by
    simp only [ones] at h
    cases hx : x.oneCell' with
    | false => simp [hx] at h
    | true =>
      simp [hx] at h
      cases hv with
      | head => exact hx
      | tail _ hm => exact ones_spec h v hm

def writeVar (P : Program) (t : TypeId) (cs : List Value) (off : Nat) (v : Value) : Option (List Value) :=
  match pureV P (Go.sizeOf t) with
  | some n => match Nat.beq v.cells.toList.length n, ones v.cells.toList with
    | true, true => splice cs off v.cells.toList
    | _, _ => none
  | none => none

theorem run_storeCells_blk {P : Program} (ad : Nat) (t : TypeId) (fr : Nat × Nat) : ∀ (vs : List Value) (off i : Nat) (c : Array Value) (w : World),
    w.heap[ad]? = some (.cells c t fr) → off + i + vs.length ≤ c.size → (∀ j, j < c.size → ¬ (fr.1 ≤ j ∧ j < fr.2)) → (∀ v ∈ vs, v.oneCell' = true) →
    ∃ c' w', (storeCells ⟨ad, off, none⟩ vs i).run P w = .ok () w' ∧ w'.heap = w.heap.setIfInBounds ad (.cells c' t fr) ∧ c'.size = c.size ∧ Same w w' ∧
      c'.toList = c.toList.take (off + i) ++ vs ++ c.toList.drop (off + i + vs.length)
  | [], off, i, c, w, hw, hs, hf, h1 => by
    refine ⟨c, w, rfl, ?_, rfl, .refl w, by simp⟩
    obtain ⟨hlt, hv⟩ := Array.getElem?_eq_some_iff.1 hw
    rw [← hv]
    apply Array.ext
    · simp
    · intro k h2 h3
      rw [Array.getElem_setIfInBounds (by simpa using h3)]
      by_cases hk : ad = k
      · subst hk; simp
      · simp [hk]
  | v :: vs, off, i, c, w, hw, hs, hf, h1 => by
    simp at hs
    have hi : off + i < c.size := by omega
    obtain ⟨hlt, hv⟩ := Array.getElem?_eq_some_iff.1 hw
    have hcell : w.cell? ⟨ad, off + i, none⟩ = some c[off + i] := by simp [World.cell?, hw, hi]
    have hfro : w.frozen? ⟨ad, off + i, none⟩ = false := by
      have := hf (off + i) hi
      obtain ⟨lo, h⟩ := fr
      simp [World.frozen?, hw]
      intro h2
      simp at this
      omega
    have hst : (store ((⟨ad, off, none⟩ : Addr).add i) v).run P w = .ok () (w.setCell ⟨ad, off + i, none⟩ v) := by
      rw [add_eq, run_store P w _ v _ (h1 v (by simp)), hcell]
      simp [hfro]
    have hset : (w.setCell ⟨ad, off + i, none⟩ v).heap = w.heap.setIfInBounds ad (.cells (c.setIfInBounds (off + i) v) t fr) := by
      unfold World.setCell
      apply Array.ext
      · simp
      · intro k h2 h3
        simp only [Array.getElem_modify]
        rw [Array.getElem_setIfInBounds (by simpa using h3)]
        by_cases hk : ad = k
        · subst hk; simp [hv]
        · simp [hk]
    have hh : (w.setCell ⟨ad, off + i, none⟩ v).heap[ad]? = some (.cells (c.setIfInBounds (off + i) v) t fr) := by
      rw [hset]; simp [hlt]
    obtain ⟨c', w', r1, r2, r3, r5, r4⟩ := run_storeCells_blk ad t fr vs off (i + 1) (c.setIfInBounds (off + i) v) _ hh (by simp; omega) (by simpa using hf) (fun x hx => h1 x (by simp [hx]))
    refine ⟨c', w', ?_, ?_, by simpa using r3, Same.trans (b := w.setCell ⟨ad, off + i, none⟩ v) ⟨rfl, rfl, rfl⟩ r5, ?_⟩
    · simp only [storeCells, Sem.run_bind, hst, Result.andThen_ok]; exact r1
    · rw [r2, hset]
      simp
    · rw [r4]
      simp only [Array.toList_setIfInBounds]
      apply List.ext_getElem?
      intro k
      simp only [List.getElem?_append, List.length_take, List.length_set, Array.length_toList, List.getElem?_drop, List.getElem?_take, List.length_append, List.length_cons]
      by_cases k1 : k < off + i
      · simp [k1, show k < off + (i + 1) by omega, show min (off + (i+1)) c.size = off + (i + 1) by omega, show min (off + i) c.size = off + i by omega, show k < off + i + (vs.length + 1) by omega, show k < off + (i+1) + vs.length by omega, show off + i ≠ k by omega]
      · by_cases k2 : k = off + i
        · subst k2
          simp [show off + i < off + (i + 1) by omega, show min (off + (i+1)) c.size = off + (i + 1) by omega, show min (off + i) c.size = off + i by omega, hi]
          intro h; omega
        · simp only [show min (off + (i+1)) c.size = off + (i + 1) by omega, show min (off + i) c.size = off + i by omega, k1, if_false, show ¬ k < off + (i + 1) by omega]
          by_cases k3 : k < off + i + (vs.length + 1)
          · simp [k3, show k < off + (i+1) + vs.length by omega, show k - (off + i) = (k - (off + (i+1))) + 1 by omega]
          · simp only [k3, show ¬ k < off + (i+1) + vs.length by omega, if_false]
            rw [List.getElem?_set_ne (by omega)]
            congr 1
            omega
end Vc
