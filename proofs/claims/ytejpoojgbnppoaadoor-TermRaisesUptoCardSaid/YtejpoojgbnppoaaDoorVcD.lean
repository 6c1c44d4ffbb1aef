import Derived.Test.YtejpoojgbnppoaaDoorVcC
/- Vc, part D: the effect of an operation under a hint; the condition of a piece of code. -/
set_option linter.unusedVariables false
set_option linter.unusedSimpArgs false
namespace Vc
open Go

inductive Hint : Type 1 where
  | d
  | nw
  | dv
  | sh
  | ix
  | ss
  | sl0
  | sl
  | ia
  | ib (B O : Nat)
  | p (i : Nat)
  | q (i : Nat) (v : List Nat → List Value → Value)
  | sq (i : Nat) (cs : List Nat → List Value → List Value)
  | ro (cs : List Value → List Value)
  | n (i : Nat)
  | cv (v : List Value → Value)
  | call (fp nn : List Nat) (X : Type) (g : List Nat → List Value → X → Value × Hp)
  | callG (fp nn : List Nat) (X : Type) (q : List Nat → List Value → X → RO → Prop) (g : List Nat → List Value → X → Value × Hp)
  | db (b : Bool)
  | call0 (fp nn : List Nat) (o : List Nat → List Value → Out) (B : List Nat → List Value → Hp)
  | callR (fp : List Nat) (o : List Nat → List Value → Out)
  | pr (fp nn : List Nat) (X : Type) (q : Hp → List Value → X → Prop) (g : Hp → List Value → X → Value × Hp)
  | pr0 (fp nn : List Nat) (v : List Nat → List Value → Value) (B : List Nat → List Value → Hp)
  | cat
  | eqs
  | pan
  | dfr

/-- Where names lie; an operation's operands. -/
def adr (H : Hp) (i : Nat) : Nat := match H.at i with
  | some (a, _) => a
  | none => 0
def adrs (H : Hp) (l : List Nat) : List Nat := l.map (adr H)
def rowc (H : Hp) (i : Nat) : List Value := match H.at i with
  | some (_, .row cs _ _) => cs
  | _ => []
def opv (o : Oper) (tm : List Value) : List Value := o.op.operands.toList.map (ev tm)

section
variable (P : Program) (o : Oper) (s : St) (R : RO)

def effD : Eff := match pureN P (execOp (ev s.tm) o) with
  | some v => .val v
  | none => .no

theorem effD_ok : EffOK P o s R (effD P o s) := by
  unfold effD
  split
  · rename_i v h; exact .val (pureN_run h)
  · exact .no

/-- A computed bool that is claimed to be this. -/
def effDb (b : Bool) : Eff := match pureN P (execOp (ev s.tm) o) with
  | some (.bool c) => .det (c = b) (.bool b) []
  | _ => .no

theorem effDb_ok (b : Bool) : EffOK P o s R (effDb P o s b) := by
  unfold effDb
  split
  · rename_i c h; exact .det0 fun hb w Rx hR hs => by subst hb; exact pureN_run h w
  · exact .no

def kindOf (t : TypeId) : Option IntKind := match pureV P (underlying t) with
  | some (.int k) => some k
  | _ => none

theorem kindOf_run {t : TypeId} {k : IntKind} (h : kindOf P t = some k) (w : World) : (underlying t).run P w = .ok (.int k) w := by
  unfold kindOf at h
  split at h
  · rename_i k' h'; simp at h; subst h; exact pureV_run h' w
  · cases h

/-- Sums, differences, products, conversions of whole numbers that their kinds hold. -/
def effNw : Eff := match o.op with
  | .binOp .add _ x y _ => match ev s.tm x, ev s.tm y with
    | .int k a, .int k' b => .det (k = k' ∧ k.wrap (a + b) = a + b) (.int k (a + b)) []
    | _, _ => .no
  | .binOp .sub _ x y _ => match ev s.tm x, ev s.tm y with
    | .int k a, .int k' b => .det (k = k' ∧ k.wrap (a - b) = a - b) (.int k (a - b)) []
    | _, _ => .no
  | .binOp .mul _ x y _ => match ev s.tm x, ev s.tm y with
    | .int k a, .int k' b => .det (k = k' ∧ k.wrap (a * b) = a * b) (.int k (a * b)) []
    | _, _ => .no
  | .convert src t x => match ev s.tm x, kindOf P src, kindOf P t with
    | .int _ a, some _, some k => .det (k.wrap a = a) (.int k a) []
    | _, _, _ => .no
  | _ => .no

theorem run_binOp_pure {op : BinOp} {t t' : TypeId} {x y : Operand} {tm : List Value} {v : Value} {w : World}
    (ho : o.op = .binOp op t x y t') (hg : (eqGuard op t x y (ev tm x) (ev tm y)).run P w = .ok () w) (h : (binOp op t (ev tm x) (ev tm y)).run P w = .ok v w) :
    (execOp (ev tm) o).run P w = .ok (.value v) w := by
  unfold execOp
  rw [ho]
  simp [hg, h]

theorem run_eqGuard_none {op : BinOp} {t : TypeId} {x y : Operand} {a b : Value} {w : World} (h : (op matches .eql | .neq) = false) :
    (eqGuard op t x y a b).run P w = .ok () w := by
  unfold eqGuard
  cases op <;> simp at h <;> rfl

theorem effNw_ok : EffOK P o s R (effNw P o s) := by
  unfold effNw
  split
  · rename_i x y t' ho
    split
    · rename_i k a k' b hx hy
      refine .det0 fun ⟨hk, hw⟩ w Rx hR hs => ?_
      subst hk
      refine run_binOp_pure P o ho (run_eqGuard_none P rfl) ?_
      rw [hx, hy]
      simp [binOp, Op.intArith, hw]
    · exact .no
  · rename_i x y t' ho
    split
    · rename_i k a k' b hx hy
      refine .det0 fun ⟨hk, hw⟩ w Rx hR hs => ?_
      subst hk
      refine run_binOp_pure P o ho (run_eqGuard_none P rfl) ?_
      rw [hx, hy]
      simp [binOp, Op.intArith, hw]
    · exact .no
  · rename_i x y t' ho
    split
    · rename_i k a k' b hx hy
      refine .det0 fun ⟨hk, hw⟩ w Rx hR hs => ?_
      subst hk
      refine run_binOp_pure P o ho (run_eqGuard_none P rfl) ?_
      rw [hx, hy]
      simp [binOp, Op.intArith, hw]
    · exact .no
  · rename_i src t x ho
    split
    · rename_i k a k' k'' hx hk' hk
      refine .det0 fun hw w Rx hR hs => ?_
      unfold execOp
      rw [ho]
      simp only [hx, convert, Sem.run_bind, kindOf_run P hk w, kindOf_run P hk' w, Result.andThen_ok, Conv.intToInt, Sem.run_pure, hw]
    · exact .no
  · exact .no

/-- Quotients and remainders. -/
def effDv : Eff := match o.op with
  | .binOp .quo _ x y _ => match ev s.tm x, ev s.tm y with
    | .int k a, .int k' b => .det (k = k' ∧ b ≠ 0) (.int k (k.wrap (a.tdiv b))) []
    | _, _ => .no
  | .binOp .rem _ x y _ => match ev s.tm x, ev s.tm y with
    | .int k a, .int k' b => .det (k = k' ∧ b ≠ 0) (.int k (a.tmod b)) []
    | _, _ => .no
  | _ => .no

theorem effDv_ok : EffOK P o s R (effDv o s) := by
  unfold effDv
  split
  · rename_i x y t' ho
    split
    · rename_i k a k' b hx hy
      refine .det0 fun ⟨hk, hb⟩ w Rx hR hs => ?_
      subst hk
      refine run_binOp_pure P o ho (run_eqGuard_none P rfl) ?_
      rw [hx, hy]
      simp [binOp, Op.intDiv, hb]
    · exact .no
  · rename_i x y t' ho
    split
    · rename_i k a k' b hx hy
      refine .det0 fun ⟨hk, hb⟩ w Rx hR hs => ?_
      subst hk
      refine run_binOp_pure P o ho (run_eqGuard_none P rfl) ?_
      rw [hx, hy]
      simp [binOp, Op.intDiv, hb]
    · exact .no
  · exact .no

/-- Shifts by counts that aren't negative. -/
def effSh : Eff := match o.op with
  | .binOp .shl _ x y _ => match ev s.tm x, ev s.tm y with
    | .int k a, .int _ b => .det (0 ≤ b) (.int k (k.wrap (a * 2 ^ (min b.toNat k.bits)))) []
    | _, _ => .no
  | .binOp .shr _ x y _ => match ev s.tm x, ev s.tm y with
    | .int k a, .int _ b => .det (0 ≤ b) (.int k (a.fdiv (2 ^ (min b.toNat k.bits)))) []
    | _, _ => .no
  | _ => .no

theorem effSh_ok : EffOK P o s R (effSh o s) := by
  unfold effSh
  split
  · rename_i x y t' ho
    split
    · rename_i k a k' b hx hy
      refine .det0 fun hb w Rx hR hs => ?_
      refine run_binOp_pure P o ho (run_eqGuard_none P rfl) ?_
      rw [hx, hy]
      simp [binOp, Op.shift, show ¬ b < 0 by omega]
    · exact .no
  · rename_i x y t' ho
    split
    · rename_i k a k' b hx hy
      refine .det0 fun hb w Rx hR hs => ?_
      refine run_binOp_pure P o ho (run_eqGuard_none P rfl) ?_
      rw [hx, hy]
      simp [binOp, Op.shift, show ¬ b < 0 by omega]
    · exact .no
  · exact .no

/-- A byte of a text. -/
def bt (s : ByteArray) (i : Int) : Int := ((s.data[i.toNat]?).getD 0).toNat

def effIx : Eff := match o.op with
  | .index t x i => match ev s.tm x, ev s.tm i, pureV P (underlying t) with
    | .string b, .int _ n, some .string => .det (0 ≤ n ∧ n < b.size) (.int .u8 (bt b n)) []
    | _, _, _ => .no
  | _ => .no

theorem effIx_ok : EffOK P o s R (effIx P o s) := by
  unfold effIx
  split
  · rename_i t x i ho
    split
    · rename_i b k n hx hi ht
      refine .det0 fun ⟨h0, h1⟩ w Rx hR hs => ?_
      unfold execOp
      rw [ho]
      simp only [hx, hi, Instr.index, asIntOf, Sem.run_bind, Sem.run_pure, Result.andThen_ok, pureV_run ht w]
      have hl : n.toNat < b.size := by omega
      have : b[n.toNat]? = some b[n.toNat] := by simp [hl]
      simp only [h0, if_true, this]
      have h2 : b.data[n.toNat]? = some b[n.toNat] := by
        have h3 : n.toNat < b.data.size := hl
        rw [Array.getElem?_eq_getElem h3]; rfl
      simp only [bt, h2, Option.getD_some, Sem.run_bind, Sem.run_pure, Result.andThen_ok]
    · exact .no
  · exact .no


/-- A piece of a text: from 0 or a place on, to a place or the end. -/
def effSs : Eff := match o.op with
  | .slice t x lo hi none => match ev s.tm x, pureV P (underlying t) with
    | .string b, some .string => match lo.map (ev s.tm), hi.map (ev s.tm) with
      | none, none => .val (.string b)
      | none, some (.int _ h) => .det (0 ≤ h ∧ h ≤ b.size) (.string (b.extract 0 h.toNat)) []
      | some (.int _ l), none => .det (0 ≤ l ∧ l ≤ b.size) (.string (b.extract l.toNat b.size)) []
      | some (.int _ l), some (.int _ h) => .det (0 ≤ l ∧ l ≤ h ∧ h ≤ b.size) (.string (b.extract l.toNat h.toNat)) []
      | _, _ => .no
    | _, _ => .no
  | _ => .no


theorem run_sliceBound {P : Program} {k : IntKind} {n : Int} {y : Nat} {code : BoundsCode} {w : World} (h0 : 0 ≤ n) (h1 : n ≤ y) :
    (Instr.sliceBound (.int k n) y code).run P w = .ok n.toNat w := by
  simp [Instr.sliceBound, asIntOf, h0, h1]

theorem effSs_ok : EffOK P o s R (effSs P o s) := by
  unfold effSs
  split
  · rename_i t x lo hi ho
    split
    · rename_i b hx ht
      split
      · rename_i hl hh
        refine .val fun w => ?_
        unfold execOp
        rw [ho]
        simp only [hx, hl, hh, Instr.sliceAt, Instr.slice, Sem.run_bind, pureV_run ht w, Result.andThen_ok, Instr.sliceBounds, Sem.run_pure, Option.isSome, Option.map_none, Bool.false_eq_true, if_false]
        congr 3
        exact ByteArray.extract_zero_size
      · rename_i k h hl hh
        refine .det0 fun ⟨h0, h1⟩ w Rx hR hs => ?_
        unfold execOp
        rw [ho]
        simp only [hx, hl, hh, Instr.sliceAt, Instr.slice, Sem.run_bind, pureV_run ht w, Result.andThen_ok, Instr.sliceBounds, Sem.run_pure, Option.isSome, Option.map_none, Bool.false_eq_true, if_false, run_sliceBound h0 h1]
      · rename_i k l hl hh
        refine .det0 fun ⟨h0, h1⟩ w Rx hR hs => ?_
        unfold execOp
        rw [ho]
        simp only [hx, hl, hh, Instr.sliceAt, Instr.slice, Sem.run_bind, pureV_run ht w, Result.andThen_ok, Instr.sliceBounds, Sem.run_pure, Option.isSome, Option.map_none, Bool.false_eq_true, if_false, run_sliceBound h0 h1]
      · rename_i k l k' h hl hh
        refine .det0 fun ⟨h0, h1, h2⟩ w Rx hR hs => ?_
        unfold execOp
        rw [ho]
        have h3 : l ≤ ((h.toNat : Nat) : Int) := by omega
        simp only [hx, hl, hh, Instr.sliceAt, Instr.slice, Sem.run_bind, pureV_run ht w, Result.andThen_ok, Instr.sliceBounds, Sem.run_pure, Option.isSome, Option.map_none, Bool.false_eq_true, if_false,
          run_sliceBound (show 0 ≤ h by omega) h2, run_sliceBound h0 h3]
      · exact .no
    · exact .no
  · exact .no

/-- The first ones of a slice, or all of an array. -/
def effSl0 : Eff := match o.op with
  | .slice t x none (some hi) none => match ev s.tm x, ev s.tm hi, pureV P (underlying t) with
    | .slice a len cap, .int _ h, some (.slice e) => match pureV P (Go.sizeOf e) with
      | some _ => .det (0 ≤ h ∧ h ≤ cap) (.slice a h.toNat cap) []
      | none => .no
    | .pointer (some a), .int _ h, some (.array n e) => match pureV P (Go.sizeOf e) with
      | some _ => .det (0 ≤ h ∧ h ≤ n) (.slice (some a) h.toNat n) []
      | none => .no
    | _, _, _ => .no
  | .slice t x none none none => match ev s.tm x, pureV P (underlying t) with
    | .slice a len cap, some (.slice e) => match pureV P (Go.sizeOf e) with
      | some _ => .val (.slice a len cap)
      | none => .no
    | .pointer (some a), some (.array n e) => match pureV P (Go.sizeOf e) with
      | some _ => .val (.slice (some a) n n)
      | none => .no
    | _, _ => .no
  | _ => .no

theorem add_zero (a : Addr) : a.add 0 = a := rfl
theorem map_add_zero (a : Option Addr) : a.map (·.add 0) = a := by cases a <;> rfl

/-- A slice's ones from a place on, ahead of its capacity's end. -/
def effSl : Eff := match o.op with
  | .slice t x (some lo) none none => match ev s.tm x, ev s.tm lo, pureV P (underlying t) with
    | .slice (some ⟨b, off, none⟩) len cap, .int _ l, some (.slice e) => match pureV P (Go.sizeOf e) with
      | some z => .det (0 ≤ l ∧ l ≤ len ∧ l < cap) (.slice (some ⟨b, off + l.toNat * z, none⟩) (len - l.toNat) (cap - l.toNat)) []
      | none => .no
    | .pointer (some ⟨b, off, none⟩), .int _ l, some (.array n e) => match pureV P (Go.sizeOf e) with
      | some z => .det (0 ≤ l ∧ l < n) (.slice (some ⟨b, off + l.toNat * z, none⟩) (n - l.toNat) (n - l.toNat)) []
      | none => .no
    | _, _, _ => .no
  | .slice t x (some lo) (some hi) none => match ev s.tm x, ev s.tm lo, ev s.tm hi, pureV P (underlying t) with
    | .slice (some ⟨b, off, none⟩) len cap, .int _ l, .int _ h, some (.slice e) => match pureV P (Go.sizeOf e) with
      | some z => .det (0 ≤ l ∧ l ≤ h ∧ h ≤ cap ∧ l < cap) (.slice (some ⟨b, off + l.toNat * z, none⟩) (h.toNat - l.toNat) (cap - l.toNat)) []
      | none => .no
    | .pointer (some ⟨b, off, none⟩), .int _ l, .int _ h, some (.array n e) => match pureV P (Go.sizeOf e) with
      | some z => .det (0 ≤ l ∧ l ≤ h ∧ h ≤ n ∧ l < n) (.slice (some ⟨b, off + l.toNat * z, none⟩) (h.toNat - l.toNat) (n - l.toNat)) []
      | none => .no
    | _, _, _, _ => .no
  | _ => .no

theorem effSl0_ok : EffOK P o s R (effSl0 P o s) := by
  unfold effSl0
  split
  · rename_i t x hi ho
    split
    · rename_i a len cap k h e hx hh ht
      split
      · rename_i z hz
        refine .det0 fun ⟨h0, h1⟩ w Rx hR hs => ?_
        unfold execOp
        rw [ho]
        simp only [hx, Instr.sliceAt, Instr.slice, Instr.sureAddr, Sem.run_bind, pureV_run ht w, Result.andThen_ok, Instr.sliceBounds, Sem.run_pure, Option.map_none, Option.map_some, Option.isSome, Bool.false_eq_true, if_false, if_true,  hh, run_sliceBound h0 h1, pureV_run hz w, Nat.zero_mul, map_add_zero, ite_self, Nat.sub_zero]
      · exact .no
    · rename_i a k h n e hx hh ht
      split
      · rename_i z hz
        refine .det0 fun ⟨h0, h1⟩ w Rx hR hs => ?_
        unfold execOp
        rw [ho]
        simp only [hx, Instr.sliceAt, Instr.slice, Instr.sureAddr, Sem.run_bind, pureV_run ht w, Result.andThen_ok, Instr.sliceBounds, Sem.run_pure, Option.map_none, Option.map_some, Option.isSome, Bool.false_eq_true, if_false, if_true,  hh, run_sliceBound h0 h1, pureV_run hz w, Nat.zero_mul, add_zero, ite_self, Nat.sub_zero]
      · exact .no
    · exact .no
  · rename_i t x ho
    split
    · rename_i a len cap e hx ht
      split
      · rename_i z hz
        refine .val fun w => ?_
        unfold execOp
        rw [ho]
        simp only [hx, Instr.sliceAt, Instr.slice, Instr.sureAddr, Sem.run_bind, pureV_run ht w, Result.andThen_ok, Instr.sliceBounds, Sem.run_pure, Option.map_none, Option.map_some, Option.isSome, Bool.false_eq_true, if_false, if_true,  pureV_run hz w, Nat.zero_mul, map_add_zero, ite_self, Nat.sub_zero]
      · exact .no
    · rename_i a n e hx ht
      split
      · rename_i z hz
        refine .val fun w => ?_
        unfold execOp
        rw [ho]
        simp only [hx, Instr.sliceAt, Instr.slice, Instr.sureAddr, Sem.run_bind, pureV_run ht w, Result.andThen_ok, Instr.sliceBounds, Sem.run_pure, Option.map_none, Option.map_some, Option.isSome, Bool.false_eq_true, if_false, if_true,  pureV_run hz w, Nat.zero_mul, add_zero, ite_self, Nat.sub_zero]
      · exact .no
    · exact .no
  · exact .no

theorem effSl_ok : EffOK P o s R (effSl P o s) := by
  unfold effSl
  split
  · rename_i t x lo ho
    split
    · rename_i b off len cap k l e hx hl ht
      split
      · rename_i z hz
        refine .det0 fun ⟨h0, h1, h2⟩ w Rx hR hs => ?_
        unfold execOp
        rw [ho]
        simp only [hx, Instr.sliceAt, Instr.slice, Instr.sureAddr, Sem.run_bind, pureV_run ht w, Result.andThen_ok, Instr.sliceBounds, Sem.run_pure, Option.map_none, Option.map_some, Option.isSome, Bool.false_eq_true, if_false, if_true,  hl, run_sliceBound h0 h1, pureV_run hz w, add_eq]
        rw [if_neg (by omega)]
      · exact .no
    · rename_i b off k l n e hx hl ht
      split
      · rename_i z hz
        refine .det0 fun ⟨h0, h1⟩ w Rx hR hs => ?_
        unfold execOp
        rw [ho]
        simp only [hx, Instr.sliceAt, Instr.slice, Instr.sureAddr, Sem.run_bind, pureV_run ht w, Result.andThen_ok, Instr.sliceBounds, Sem.run_pure, Option.map_none, Option.map_some, Option.isSome, Bool.false_eq_true, if_false, if_true,  hl, run_sliceBound h0 (show l ≤ ((n : Nat) : Int) by omega), pureV_run hz w, add_eq]
        rw [if_neg (by omega)]
      · exact .no
    · exact .no
  · rename_i t x lo hi ho
    split
    · rename_i b off len cap k l k' h e hx hl hh ht
      split
      · rename_i z hz
        refine .det0 fun ⟨h0, h1, h2, h3⟩ w Rx hR hs => ?_
        unfold execOp
        rw [ho]
        simp only [hx, Instr.sliceAt, Instr.slice, Instr.sureAddr, Sem.run_bind, pureV_run ht w, Result.andThen_ok, Instr.sliceBounds, Sem.run_pure, Option.map_none, Option.map_some, Option.isSome, Bool.false_eq_true, if_false, if_true,  hl, hh, run_sliceBound (show 0 ≤ h by omega) h2, run_sliceBound h0 (show l ≤ ((h.toNat : Nat) : Int) by omega), pureV_run hz w, add_eq]
        rw [if_neg (by omega)]
      · exact .no
    · rename_i b off k l k' h n e hx hl hh ht
      split
      · rename_i z hz
        refine .det0 fun ⟨h0, h1, h2, h3⟩ w Rx hR hs => ?_
        unfold execOp
        rw [ho]
        simp only [hx, Instr.sliceAt, Instr.slice, Instr.sureAddr, Sem.run_bind, pureV_run ht w, Result.andThen_ok, Instr.sliceBounds, Sem.run_pure, Option.map_none, Option.map_some, Option.isSome, Bool.false_eq_true, if_false, if_true,  hl, hh, run_sliceBound (show 0 ≤ h by omega) h2, run_sliceBound h0 (show l ≤ ((h.toNat : Nat) : Int) by omega), pureV_run hz w, add_eq]
        rw [if_neg (by omega)]
      · exact .no
    · exact .no
  · exact .no

/-- The place of one of a slice's, or of an array's. -/
def effIa : Eff := match o.op with
  | .indexAddr t x i => match ev s.tm x, ev s.tm i, pureV P (underlying t) with
    | .slice (some ⟨b, off, none⟩) len _, .int _ n, some (.slice e) => match pureV P (Go.sizeOf e) with
      | some z => .det (0 ≤ n ∧ n < len) (.pointer (some ⟨b, off + n.toNat * z, none⟩)) []
      | none => .no
    | .pointer (some ⟨b, off, none⟩), .int _ n, some (.array len e) => match pureV P (Go.sizeOf e) with
      | some z => .det (0 ≤ n ∧ n < len) (.pointer (some ⟨b, off + n.toNat * z, none⟩)) []
      | none => .no
    | _, _, _ => .no
  | _ => .no

theorem effIa_ok : EffOK P o s R (effIa P o s) := by
  unfold effIa
  split
  · rename_i t x i ho
    split
    · rename_i b off len c k n e hx hi ht
      split
      · rename_i z hz
        refine .det0 fun ⟨h0, h1⟩ w Rx hR hs => ?_
        unfold execOp
        rw [ho]
        simp only [hx, hi, Instr.indexAt, asIntOf, Sem.run_bind, Sem.run_pure, Result.andThen_ok, pureV_run ht w]
        simp only [h0, h1, and_self, if_true, Sem.run_bind, pureV_run hz w, Result.andThen_ok, Sem.run_pure, add_eq]
      · exact .no
    · rename_i b off k n len e hx hi ht
      split
      · rename_i z hz
        refine .det0 fun ⟨h0, h1⟩ w Rx hR hs => ?_
        unfold execOp
        rw [ho]
        simp only [hx, hi, Instr.indexAt, asIntOf, Instr.sureAddr, Sem.run_bind, Sem.run_pure, Result.andThen_ok, pureV_run ht w]
        simp only [h0, h1, and_self, if_true, Sem.run_bind, pureV_run hz w, Result.andThen_ok, Sem.run_pure, add_eq]
      · exact .no
    · exact .no
  · exact .no

/-- The place of one of a slice's whose base is told by a claim. -/
def effIb (B O : Nat) : Eff := match o.op with
  | .indexAddr t x i => match ev s.tm x, ev s.tm i, pureV P (underlying t) with
    | .slice a len _, .int _ n, some (.slice e) => match pureV P (Go.sizeOf e) with
      | some z => .det (a = some ⟨B, O, none⟩ ∧ 0 ≤ n ∧ n < len) (.pointer (some ⟨B, O + n.toNat * z, none⟩)) []
      | none => .no
    | _, _, _ => .no
  | _ => .no

theorem effIb_ok (B O : Nat) : EffOK P o s R (effIb P o s B O) := by
  unfold effIb
  split
  · rename_i t x i ho
    split
    · rename_i a len c k n e hx hi ht
      split
      · rename_i z hz
        refine .det0 fun ⟨ha, h0, h1⟩ w Rx hR hs => ?_
        subst ha
        unfold execOp
        rw [ho]
        simp only [hx, hi, Instr.indexAt, asIntOf, Sem.run_bind, Sem.run_pure, Result.andThen_ok, pureV_run ht w]
        simp only [h0, h1, and_self, if_true, Sem.run_bind, pureV_run hz w, Result.andThen_ok, Sem.run_pure, add_eq]
      · exact .no
    · exact .no
  · exact .no

/-- Two texts, one behind the other. -/
def effCat : Eff := match o.op with
  | .binOp .add _ x y _ => match ev s.tm x, ev s.tm y with
    | .string a, .string b => .det (a.size + b.size ≤ 9223372036854775807) (.string (a ++ b)) []
    | _, _ => .no
  | _ => .no

theorem effCat_ok : EffOK P o s R (effCat o s) := by
  unfold effCat
  split
  · rename_i t x y t' ho
    split
    · rename_i a b hx hy
      refine .det0 fun hb w Rx hR hs => ?_
      refine run_binOp_pure P o ho (run_eqGuard_none P rfl) ?_
      rw [hx, hy]
      have : ¬ (((a.size + b.size : Nat) : Int) > IntKind.i64.max) := by
        have h2 : IntKind.i64.max = 9223372036854775807 := rfl
        rw [h2]; omega
      simp only [binOp, Op.stringOp]
      rw [if_neg this]
      rfl
    · exact .no
  · exact .no

/-- Bits, by what the model says of them. -/
def bOr (k : IntKind) (x y : Int) : Int := k.wrap ((BitVec.ofInt k.bits x ||| BitVec.ofInt k.bits y).toNat : Int)
def bAnd (k : IntKind) (x y : Int) : Int := k.wrap ((BitVec.ofInt k.bits x &&& BitVec.ofInt k.bits y).toNat : Int)
def bXor (k : IntKind) (x y : Int) : Int := k.wrap ((BitVec.ofInt k.bits x ^^^ BitVec.ofInt k.bits y).toNat : Int)
def bAndNot (k : IntKind) (x y : Int) : Int := k.wrap ((BitVec.ofInt k.bits x &&& ~~~(BitVec.ofInt k.bits y)).toNat : Int)
def sHl (k : IntKind) (x y : Int) : Int := k.wrap (x * 2 ^ (min y.toNat k.bits))
def sHr (k : IntKind) (x y : Int) : Int := x.fdiv (2 ^ (min y.toNat k.bits))
end
end Vc
