import Derived.Test.YtejpoojgbnppoaaDoorVcE
/- Vc, part G: regions whose order is drawn: gone through in the text's order, where what may come in either order doesn't touch the same. -/
set_option linter.unusedVariables false
set_option linter.unusedSimpArgs false
namespace Vc
open Go

def gd (all : Array Oper) (tm : List Value) (o : Oper) : Option Bool :=
  match o.guard with
  | none => some true
  | some (j, want) => match all[j]? with
    | some g => match g.dst with
      | some d => match tget tm d with
        | .bool true => some want
        | .bool false => some (!want)
        | .tuple _ => some false
        | _ => none
      | none => none
    | none => none

theorem gd_spec {all : Array Oper} {s : St} {o : Oper} {b : Bool} (h : gd all s.tm o = some b) : Region.wanted o (yielded all s.act.tmps) = b := by
  unfold gd at h
  unfold Region.wanted
  cases hg : o.guard with
  | none => simp [hg] at h; simp [h]
  | some x =>
    obtain ⟨j, want⟩ := x
    simp only [hg] at h ⊢
    cases hj : all[j]? with
    | none => simp [hj] at h
    | some g =>
      cases hd : g.dst with
      | none => simp [hj, hd] at h
      | some d =>
        simp only [hj, hd] at h
        have he : ∀ c, tget s.tm d = .bool c → yielded all s.act.tmps j = some c := fun c hc => by
          rw [tget_eq] at hc
          unfold yielded
          simp only [hj, Option.bind_some, hd, St.act]
          have : s.tm.toArray[d]? = some (.bool c) := by
            rw [Array.getD_eq_getD_getElem?] at hc
            cases hx : s.tm.toArray[d]? with
            | none => rw [hx] at hc; simp [undef] at hc
            | some v => rw [hx] at hc; simp at hc; rw [hc]
          rw [this]
        cases ht : tget s.tm d with
        | bool c =>
          rw [he c ht]
          cases c <;> simp [ht] at h <;> cases want <;> simp_all
        | tuple l =>
          simp [ht] at h
          have hn : yielded all s.act.tmps j = none := by
            rw [tget_eq] at ht
            unfold yielded
            simp only [hj, Option.bind_some, hd, St.act]
            cases hx : s.tm.toArray[d]? with
            | none => rfl
            | some v =>
              rw [Array.getD_eq_getD_getElem?, hx] at ht
              simp at ht
              rw [ht]
          rw [hn, h]
          rfl
        | _ => simp [ht] at h

theorem oper_mono {P : Program} {o : Oper} {Q Q' : Exit → Act → World → Prop} {n n' : Act → World → Prop} {a : Act} {w : World} (h : ∀ e a w, Q e a w → Q' e a w) (hn : ∀ a w, n a w → n' a w)
    (hh : o.wp P a w n Q) : o.wp P a w n' Q' := by
  unfold Oper.wp at *
  generalize (execOp a.eval o).run P w = r at *
  cases r with
  | ok x w' =>
    cases x <;> simp only [Oper.upon] at hh ⊢ <;>
      first
        | exact hn _ _ hh
        | exact Calls.mono hh (fun e w'' he => by
            cases e <;> first
              | exact hn _ _ he
              | exact h _ _ _ he
              | exact (let ⟨a', w', hq⟩ := he; ⟨a', w', h _ _ _ hq⟩))
        | exact Rows.mono hh (fun _ _ he => hn _ _ he)
  | halt x w' => cases x <;> simp only [Oper.upon] at hh ⊢ <;> first | exact h _ _ _ hh | exact hh

theorem wpOps_mono {P : Program} {all : Array Oper} {Q Q' : Exit → Act → World → Prop} (h : ∀ e a w, Q e a w → Q' e a w) : ∀ {l : List Nat} {a : Act} {w : World}, wpOps P all Q l a w → wpOps P all Q' l a w
| [], a, w, hh => h _ _ _ hh
| i :: l, a, w, hh => by
  simp only [wpOps] at hh ⊢
  split
  · rename_i ho
    simp only [ho] at hh
    exact wpOps_mono h hh
  · rename_i o ho
    simp only [ho] at hh
    split
    · rename_i hw
      simp only [hw, if_true] at hh
      rcases hh with hh | ⟨h1, a', w', h2⟩
      · left
        exact oper_mono h (fun a w => wpOps_mono h) hh
      · exact .inr ⟨h1, a', w', h _ _ _ h2⟩
    · rename_i hw
      simp only [hw, if_false, Bool.false_eq_true] at hh
      exact wpOps_mono h hh

structure GE where
  p : Prop
  X : Type
  gr : Bool
  g : X → Prop
  q : X → RO → Prop
  f : X → Value × Upd

def GE.st (e : GE) (x : e.X) (R G : RO) : Prop := match e.gr with
  | true => R.le G ∧ e.q x G
  | false => e.g x ∧ G = R

theorem GE.st_t {e : GE} {x : e.X} {R G : RO} (h : e.gr = true) : e.st x R G ↔ R.le G ∧ e.q x G := by unfold GE.st; rw [h]
theorem GE.st_f {e : GE} {x : e.X} {R G : RO} (h : e.gr = false) : e.st x R G ↔ e.g x ∧ G = R := by unfold GE.st; rw [h]

def Eff.toG : Eff → Option GE
  | .val v => some ⟨True, Unit, false, fun _ => True, fun _ _ => True, fun _ => (v, [])⟩
  | .det p v u => some ⟨p, Unit, false, fun _ => True, fun _ _ => True, fun _ => (v, u)⟩
  | .new f => some ⟨True, Nat, false, fun _ => True, fun _ _ => True, f⟩
  | .gen p X g f => some ⟨p, X, false, g, fun _ _ => True, f⟩
  | .genG p X q f => some ⟨p, X, true, fun _ => True, q, f⟩
  | _ => none

theorem Eff.run_toG {E : Eff} {e : GE} (h : E.toG = some e) (s : St) (R : RO) (dst : Option Tmp) (k : St → RO → Prop) (kp : Value → St → RO → Prop) :
    E.run s R dst k kp ↔ e.p ∧ ∀ x G, e.st x R G → k (s.set dst (e.f x).1 (e.f x).2) G := by
  cases E <;> simp [Eff.toG] at h <;> subst h <;> simp [Eff.run, GE.st]

def nmH : Hint → List Nat
  | .p i | .q i _ | .sq i _ | .n i => [i]
  | .call fp nn _ _ | .callG fp nn _ _ _ | .call0 fp nn _ _ | .pr fp nn _ _ _ | .pr0 fp nn _ _ => fp ++ nn
  | .callR fp _ => fp
  | _ => []

def wmH : Hint → List Nat
  | .callR _ _ => []
  | h => nmH h

def wnH (o : Oper) (h : Hint) : List Nat := match o.op with
  | .load _ _ => []
  | _ => wmH h

def rdep : Hint → Bool
  | .ro _ | .call .. | .callG .. | .call0 .. | .callR .. | .pr .. | .pr0 .. => true
  | _ => false

def grow : Hint → Bool
  | .callG .. => true
  | _ => false

/-- A load from what nobody writes: it may come behind what grows, too. -/
def roH : Hint → Bool
  | .ro _ => true
  | _ => false

def disj : List Nat → List Nat → Bool
  | [], _ => true
  | x :: xs, ys => match memN x ys with
    | true => false
    | false => disj xs ys

theorem disj_spec : ∀ {xs ys : List Nat}, disj xs ys = true → ∀ x ∈ xs, x ∉ ys
  | [], ys, h, x, hx => by cases hx
  | a :: xs, ys, h, x, hx => by
    simp only [disj] at h
    cases hm : memN a ys with
    | true => simp [hm] at h
    | false =>
      simp [hm] at h
      cases hx with
      | head => intro hy; rw [memN_iff.2 hy] at hm; cases hm
      | tail _ hx => exact disj_spec h x hx

section
variable (P : Program)

theorem freshN_congr {H H' : Hp} : ∀ {l : List Nat}, (∀ n ∈ l, H.at n = H'.at n) → freshN H l = freshN H' l
  | [], _ => rfl
  | i :: l, h => by simp only [freshN, h i (List.mem_cons_self ..), freshN_congr (l := l) fun n hn => h n (List.mem_cons_of_mem _ hn)]

theorem map_at_congr {H H' : Hp} {l : List Nat} (h : ∀ n ∈ l, H.at n = H'.at n) : l.map H.at = l.map H'.at := List.map_congr_left h

theorem pcOf_congr {o : Oper} {ρ ρ' : Operand → Value} (h : ∀ x ∈ o.op.operands, ρ x = ρ' x) : pcOf ρ o = pcOf ρ' o := by
  obtain ⟨dst, op, type, pos, after, guard⟩ := o
  cases op <;> simp only [Op.operands] at h <;> try rfl
  case makeSlice t l c => simp only [pcOf, h l (by simp), h c (by simp)]
  case lookup t m k ok => simp only [pcOf, h m (by simp), h k (by simp)]
  case mapUpdate t m k v => simp only [pcOf, h m (by simp), h k (by simp), h v (by simp)]
  case convert t u x => simp only [pcOf, h x (by simp)]
  case range t x => simp only [pcOf, h x (by simp)]
  case next x b => simp only [pcOf, h x (by simp)]
  case entry x => simp only [pcOf, h x (by simp)]
  case sliceToArrayPointer t x => simp only [pcOf, h x (by simp)]
  case slice t x lo hi mx => cases lo <;> cases hi <;> cases mx <;> simp_all [pcOf]
  case build t ps =>
    obtain ⟨ps⟩ := ps
    simp only [pcOf]
    congr 2
    exact List.map_congr_left fun p hp => by rw [h p.2 (List.mem_toArray.2 (List.mem_map.2 ⟨p, hp, rfl⟩))]
  case call c =>
    obtain ⟨callee, ⟨args⟩, ⟨ts⟩⟩ := c
    cases callee <;> try rfl
    rename_i b
    simp only [pcOf]
    rcases args with _ | ⟨x, _ | ⟨y, _ | ⟨z, l⟩⟩⟩ <;> rcases ts with _ | ⟨t, _ | ⟨u, _ | ⟨v, m⟩⟩⟩ <;> cases b <;> first | rfl | (simp [Call.operands] at h; simp [h]; done)

theorem eff_local {o : Oper} {s s' : St} {R R' : RO} {h : Hint} (hsel : ∀ cs b, o.op ≠ .select cs b) (hev : ∀ x ∈ o.op.operands, ev s.tm x = ev s'.tm x)
    (hn : ∀ n ∈ nmH h, s.hp.at n = s'.hp.at n) (hr : rdep h = true → R = R') : eff P o s R h = eff P o s' R' h := by
  have hx : execOp (ev s.tm) o = execOp (ev s'.tm) o := execOp_congr o hsel hev
  have ho : opv o s.tm = opv o s'.tm := List.map_congr_left fun x hx => hev x (by simpa using hx)
  have ha : ∀ l, (∀ n ∈ l, s.hp.at n = s'.hp.at n) → adrs s.hp l = adrs s'.hp l := fun l hl => List.map_congr_left fun n hm => by
    unfold adr; rw [hl n hm]
  obtain ⟨dst, op, type, pos, after, guard⟩ := o
  cases h with
  | d => simp only [eff, effD, hx]
  | db b => simp only [eff, effDb, hx]
  | cv v => simp only [eff, effCv, hx, ho]
  | pan => simp only [eff, effPan, hx]
  | dfr => simp only [eff, effDfr, hx]
  | call0 fp nn r B =>
    have h1 := hr rfl
    subst h1
    simp only [nmH, List.mem_append] at hn
    simp only [eff, effCall0, hx, ho, ha fp fun n hm => hn n (.inl hm), freshN_congr (l := nn) fun n hm => hn n (.inr hm), map_at_congr (l := fp) fun n hm => hn n (.inl hm)]
  | callR fp r =>
    have h1 := hr rfl
    subst h1
    simp only [nmH] at hn
    simp only [eff, effCallR, hx, ho, ha fp hn, map_at_congr (l := fp) hn]
  | pr fp nn X q g =>
    have h1 := hr rfl
    subst h1
    simp only [nmH, List.mem_append] at hn
    simp only [eff, effPr, pcOf_congr hev, ho, ha fp fun n hm => hn n (.inl hm), freshN_congr (l := nn) fun n hm => hn n (.inr hm), map_at_congr (l := fp) fun n hm => hn n (.inl hm)]
  | pr0 fp nn v B =>
    have h1 := hr rfl
    subst h1
    simp only [nmH, List.mem_append] at hn
    simp only [eff, effPr0, pcOf_congr hev, ho, ha fp fun n hm => hn n (.inl hm), freshN_congr (l := nn) fun n hm => hn n (.inr hm), map_at_congr (l := fp) fun n hm => hn n (.inl hm)]
  | call fp nn X g =>
    have h1 := hr rfl
    subst h1
    simp only [nmH, List.mem_append] at hn
    simp only [eff, effCall, hx, ho, ha fp fun n hm => hn n (.inl hm), freshN_congr (l := nn) fun n hm => hn n (.inr hm), map_at_congr (l := fp) fun n hm => hn n (.inl hm)]
  | callG fp nn X q g =>
    have h1 := hr rfl
    subst h1
    simp only [nmH, List.mem_append] at hn
    simp only [eff, effCallG, hx, ho, ha fp fun n hm => hn n (.inl hm), freshN_congr (l := nn) fun n hm => hn n (.inr hm), map_at_congr (l := fp) fun n hm => hn n (.inl hm)]
  | n i =>
    simp only [nmH, List.mem_singleton, forall_eq] at hn
    simp only [eff, effN, hn]
    cases op <;> simp only [Op.operands] at hev <;> try rfl
    case box e x => simp only [hev x (by simp)]
    case makeMap t r => cases r <;> rfl
    case buildSlice t len parts =>
      have : (parts.map fun (i, x) => (i, ev s.tm x)) = (parts.map fun (i, x) => (i, ev s'.tm x)) := Array.map_congr_left fun p hm => by
        obtain ⟨i, x⟩ := p
        have h2 : x ∈ (List.map (fun x => x.2) parts.toList) := List.mem_map.2 ⟨(i, x), by simpa using hm, rfl⟩
        simp only [hev x (by simpa using h2)]
      simp only [this]
  | ro cs =>
    have h1 := hr rfl
    subst h1
    simp only [eff, effRo, ho]
    cases op <;> simp only [Op.operands] at hev <;> try rfl
    case load t a => simp only [hev a (by simp)]
  | p i =>
    simp only [nmH, List.mem_singleton, forall_eq] at hn
    simp only [eff, effP, hn]
    cases op <;> simp only [Op.operands] at hev <;> try rfl
    case load t a => simp only [hev a (by simp)]
    case store t a x => simp only [hev a (by simp), hev x (by simp)]
  | q i v =>
    have ha1 := ha [i] hn
    simp only [nmH, List.mem_singleton, forall_eq] at hn
    simp only [eff, effQ, hn, ho, ha1]
    cases op <;> simp only [Op.operands] at hev <;> try rfl
    case load t a => simp only [hev a (by simp)]
  | sq i cs =>
    have ha1 := ha [i] hn
    simp only [nmH, List.mem_singleton, forall_eq] at hn
    simp only [eff, effSq, hn, ho, ha1]
    cases op <;> simp only [Op.operands] at hev <;> try rfl
    case store t a x => simp only [hev a (by simp), hev x (by simp)]
  | nw =>
    simp only [eff, effNw]
    cases op <;> simp only [Op.operands] at hev <;> try rfl
    case binOp b t x y t' => cases b <;> simp only [hev x (by simp), hev y (by simp)]
    case convert a b x => simp only [hev x (by simp)]
  | dv =>
    simp only [eff, effDv]
    cases op <;> simp only [Op.operands] at hev <;> try rfl
    case binOp b t x y t' => cases b <;> simp only [hev x (by simp), hev y (by simp)]
  | sh =>
    simp only [eff, effSh]
    cases op <;> simp only [Op.operands] at hev <;> try rfl
    case binOp b t x y t' => cases b <;> simp only [hev x (by simp), hev y (by simp)]
  | eqs =>
    simp only [eff, effEq]
    cases op <;> simp only [Op.operands] at hev <;> try rfl
    case binOp b t x y t' => cases b <;> simp only [hev x (by simp), hev y (by simp)]
  | cat =>
    simp only [eff, effCat]
    cases op <;> simp only [Op.operands] at hev <;> try rfl
    case binOp b t x y t' => cases b <;> simp only [hev x (by simp), hev y (by simp)]
  | ix =>
    simp only [eff, effIx]
    cases op <;> simp only [Op.operands] at hev <;> try rfl
    case index t x i => simp only [hev x (by simp), hev i (by simp)]
  | ib B O =>
    simp only [eff, effIb]
    cases op <;> simp only [Op.operands] at hev <;> try rfl
    case indexAddr t x i => simp only [hev x (by simp), hev i (by simp)]
  | ia =>
    simp only [eff, effIa]
    cases op <;> simp only [Op.operands] at hev <;> try rfl
    case indexAddr t x i => simp only [hev x (by simp), hev i (by simp)]
  | ss =>
    simp only [eff, effSs]
    cases op <;> simp only [Op.operands] at hev <;> try rfl
    case slice t x lo hi mx => cases lo <;> cases hi <;> cases mx <;> simp_all
  | sl0 =>
    simp only [eff, effSl0]
    cases op <;> simp only [Op.operands] at hev <;> try rfl
    case slice t x lo hi mx => cases lo <;> cases hi <;> cases mx <;> simp_all
  | sl =>
    simp only [eff, effSl]
    cases op <;> simp only [Op.operands] at hev <;> try rfl
    case slice t x lo hi mx => cases lo <;> cases hi <;> cases mx <;> simp_all

/-- The names that an effect writes are its hint's. -/
theorem zipU_names : ∀ (ns : List Nat) (B : Hp) (n : Nat) (b : Option (Nat × Blk)), (n, b) ∈ zipU ns B → n ∈ ns
  | [], B, n, b, h => by simp [zipU] at h
  | i :: is, [], n, b, h => by
    simp only [zipU, List.mem_cons] at h
    rcases h with h | h
    · cases h; exact List.mem_cons_self ..
    · exact List.mem_cons_of_mem _ (zipU_names is [] n b h)
  | i :: is, c :: B, n, b, h => by
    simp only [zipU, List.mem_cons] at h
    rcases h with h | h
    · cases h; exact List.mem_cons_self ..
    · exact List.mem_cons_of_mem _ (zipU_names is B n b h)

def upOk (l : List Nat) (u : Upd) : Prop := ∀ n b, (n, b) ∈ u → n ∈ l

theorem eff_names {o : Oper} {s : St} {R : RO} {h : Hint} {e : GE} (he : (eff P o s R h).toG = some e) (x : e.X) : upOk (wnH o h) (e.f x).2 := by
  have nil : ∀ l, upOk l [] := fun l n b hm => by cases hm
  have one : ∀ (i : Nat) (y : Option (Nat × Blk)), upOk [i] [(i, y)] := fun i y n b hm => by
    simp at hm; simp [hm.1]
  cases h with
  | d => simp only [eff, effD] at he; split at he <;> simp [Eff.toG] at he; subst he; exact nil _
  | db b => simp only [eff, effDb] at he; split at he <;> simp [Eff.toG] at he; subst he; exact nil _
  | cv v => simp [eff, effCv, Eff.toG] at he; subst he; exact nil _
  | pan => simp only [eff, effPan] at he; split at he <;> simp [Eff.toG] at he
  | dfr => simp only [eff, effDfr] at he; split at he <;> simp [Eff.toG] at he
  | nw => simp only [eff, effNw] at he; (repeat' split at he) <;> simp [Eff.toG] at he <;> subst he <;> exact nil _
  | dv => simp only [eff, effDv] at he; (repeat' split at he) <;> simp [Eff.toG] at he <;> subst he <;> exact nil _
  | sh => simp only [eff, effSh] at he; (repeat' split at he) <;> simp [Eff.toG] at he <;> subst he <;> exact nil _
  | cat => simp only [eff, effCat] at he; (repeat' split at he) <;> simp [Eff.toG] at he <;> subst he <;> exact nil _
  | eqs => simp only [eff, effEq] at he; (repeat' split at he) <;> simp [Eff.toG] at he <;> subst he <;> exact nil _
  | ix => simp only [eff, effIx] at he; (repeat' split at he) <;> simp [Eff.toG] at he <;> subst he <;> exact nil _
  | ia => simp only [eff, effIa] at he; (repeat' split at he) <;> simp [Eff.toG] at he <;> subst he <;> exact nil _
  | ib B O => simp only [eff, effIb] at he; (repeat' split at he) <;> simp [Eff.toG] at he <;> subst he <;> exact nil _
  | ss => simp only [eff, effSs] at he; (repeat' split at he) <;> simp [Eff.toG] at he <;> subst he <;> exact nil _
  | sl0 => simp only [eff, effSl0] at he; (repeat' split at he) <;> simp [Eff.toG] at he <;> subst he <;> exact nil _
  | sl => simp only [eff, effSl] at he; (repeat' split at he) <;> simp [Eff.toG] at he <;> subst he <;> exact nil _
  | ro cs => simp only [eff, effRo] at he; (repeat' split at he) <;> simp [Eff.toG] at he <;> subst he <;> exact nil _
  | q i v => simp only [eff, effQ] at he; (repeat' split at he) <;> simp [Eff.toG] at he <;> subst he <;> exact nil _
  | p i =>
    simp only [eff, effP] at he
    split at he
    · (repeat' split at he) <;> simp [Eff.toG] at he <;> subst he <;> exact nil _
    · rename_i t a y ho
      (repeat' split at he) <;> simp [Eff.toG] at he <;> subst he
      simp only [wnH, ho, wmH, nmH]; exact one _ _
    · simp [Eff.toG] at he
  | sq i cs =>
    simp only [eff, effSq] at he
    split at he
    · rename_i t a y ho
      (repeat' split at he) <;> simp [Eff.toG] at he <;> subst he
      simp only [wnH, ho, wmH, nmH]; exact one _ _
    · simp [Eff.toG] at he
  | n i =>
    simp only [eff, effN] at he
    split at he
    · simp [Eff.toG] at he
    · split at he
      · rename_i e ho
        split at he <;> simp [Eff.toG] at he; subst he
        simp only [wnH, ho, wmH, nmH]; exact one _ _
      · rename_i e y ho
        simp [Eff.toG] at he; subst he
        simp only [wnH, ho, wmH, nmH]; exact one _ _
      · rename_i t ho
        simp [Eff.toG] at he; subst he
        simp only [wnH, ho, wmH, nmH]; exact one _ _
      · rename_i t len parts ho
        split at he <;> simp [Eff.toG] at he; subst he
        simp only [wnH, ho, wmH, nmH]; exact one _ _
      · simp [Eff.toG] at he
  | call0 fp nn r B =>
    simp only [eff, effCall0] at he
    split at he
    · rename_i f args h1 h2 h3
      split at he <;> simp [Eff.toG] at he; subst he
      intro n b hm; rw [show wnH o _ = fp ++ nn from wn_call h1 rfl]; exact zipU_names _ _ _ _ hm
    · simp [Eff.toG] at he
  | callR fp r =>
    simp only [eff, effCallR] at he
    (repeat' split at he) <;> simp [Eff.toG] at he <;> subst he <;> exact nil _
  | call fp nn X g =>
    simp only [eff, effCall] at he
    split at he
    · rename_i f args h1 h2 h3
      simp [Eff.toG] at he; subst he
      intro n b hm; rw [show wnH o _ = fp ++ nn from wn_call h1 rfl]; exact zipU_names _ _ _ _ hm
    · simp [Eff.toG] at he
  | callG fp nn X q g =>
    simp only [eff, effCallG] at he
    split at he
    · rename_i f args h1 h2 h3
      simp [Eff.toG] at he; subst he
      intro n b hm; rw [show wnH o _ = fp ++ nn from wn_call h1 rfl]; exact zipU_names _ _ _ _ hm
    · simp [Eff.toG] at he
  | pr fp nn X q g =>
    simp only [eff, effPr] at he
    split at he
    · rename_i c h1 h2 h3
      simp [Eff.toG] at he; subst he
      intro n b hm; rw [show wnH o _ = fp ++ nn from wn_pr h1 rfl]; exact zipU_names _ _ _ _ hm
    · simp [Eff.toG] at he
  | pr0 fp nn v B =>
    simp only [eff, effPr0] at he
    split at he
    · rename_i c h1 h2 h3
      simp [Eff.toG] at he; subst he
      intro n b hm; rw [show wnH o _ = fp ++ nn from wn_pr h1 rfl]; exact zipU_names _ _ _ _ hm
    · simp [Eff.toG] at he
  where
  wn_pr {o : Oper} {ρ : Operand → Value} {c : PC} {h : Hint} {l : List Nat} (he : pcOf ρ o = some c) (hl : wmH h = l) : wnH o h = l := by
    unfold wnH
    split
    · rename_i t a ho
      unfold pcOf at he
      rw [ho] at he
      simp at he
    · exact hl
  wn_call {P : Program} {o : Oper} {s : St} {f : FuncId} {args : Array Value} {h : Hint} {l : List Nat} (he : pureE P (execOp (ev s.tm) o) = some (f, args)) (hl : wmH h = l) : wnH o h = l := by
    unfold wnH
    split
    · rename_i t a ho
      unfold execOp at he
      rw [ho] at he
      exfalso
      have key : ∀ (x : Sem Value), pureE P (do pure (.value (← x)) : Sem Next) = none := by
        intro x
        induction x with
        | pure a => rfl
        | program k ih => exact ih P
        | mark m k ih => exact ih
        | _ => rfl
      rw [key] at he
      cases he
    · exact hl

/-! ## Items -/

abbrev Itm := Nat × Oper × Option Hint

def nmI : Option Hint → List Nat
  | some h => nmH h
  | none => []
def wnI (o : Oper) : Option Hint → List Nat
  | some h => wnH o h
  | none => []
def rdI : Option Hint → Bool
  | some h => rdep h
  | none => false
def grI : Option Hint → Bool
  | some h => grow h
  | none => false
def roI : Option Hint → Bool
  | some h => roH h
  | none => false

/-- Two operations that may come in either order. -/
def indB (all : Array Oper) (a b : Itm) : Bool :=
  a.2.1.apart all b.2.1 && (disj (wnI a.2.1 a.2.2) (nmI b.2.2) && (disj (wnI b.2.1 b.2.2) (nmI a.2.2) && ((!grI a.2.2 || !rdI b.2.2) && (!grI b.2.2 || (!rdI a.2.2 || roI a.2.2)))))

structure Ind (all : Array Oper) (a b : Itm) : Prop where
  ap : a.2.1.apart all b.2.1 = true
  ab : ∀ n ∈ wnI a.2.1 a.2.2, n ∉ nmI b.2.2
  ba : ∀ n ∈ wnI b.2.1 b.2.2, n ∉ nmI a.2.2
  ga : grI a.2.2 = true → rdI b.2.2 = false
  gb : grI b.2.2 = true → rdI a.2.2 = false ∨ roI a.2.2 = true

theorem grow_rdep {h : Hint} (hg : grow h = true) : rdep h = true := by cases h <;> simp [grow] at hg <;> rfl

theorem grow_ro {h : Hint} (hg : grow h = true) : roH h = false := by cases h <;> simp [grow] at hg <;> rfl

theorem indB_spec {all : Array Oper} {a b : Itm} (h : indB all a b = true) : Ind all a b := by
  unfold indB at h
  simp only [Bool.and_eq_true, Bool.or_eq_true, Bool.not_eq_true'] at h
  obtain ⟨h1, h2, h3, h4, h5⟩ := h
  exact ⟨h1, disj_spec h2, disj_spec h3, fun hg => h4.resolve_left (by simp [hg]), fun hg => h5.resolve_left (by simp [hg])⟩

theorem apart_symm {all : Array Oper} {x y : Oper} (h : x.apart all y = true) : y.apart all x = true := by
  unfold Oper.apart at h ⊢
  cases h1 : x.dst <;> cases h2 : y.dst <;> simp [h1, h2] at h ⊢ <;> try exact h
  rename_i d e
  exact ⟨⟨h.2, fun he => h.1.2 he.symm⟩, h.1.1⟩

def Ok (all : Array Oper) (a : Itm) (s : St) (R : RO) : Prop := match a with
  | (_, o, none) => gd all s.tm o = some false
  | (_, o, some h) => gd all s.tm o = some true ∧ ∃ ge, (eff P o s R h).toG = some ge ∧ ge.p

def Tr (a : Itm) (s : St) (R : RO) (s' : St) (G : RO) : Prop := match a with
  | (_, o, none) => s' = s.set o.dst undef [] ∧ G = R
  | (_, o, some h) => ∃ ge, (eff P o s R h).toG = some ge ∧ ∃ x, ge.st x R G ∧ s' = s.set o.dst (ge.f x).1 (ge.f x).2

def GD (all : Array Oper) : List Itm → St → RO → (St → RO → Prop) → Prop
  | [], s, R, k => k s R
  | a :: L, s, R, k => Ok P all a s R ∧ ∀ s' G, Tr P a s R s' G → GD all L s' G k

theorem upds_at {l : List Nat} : ∀ {u : Upd} {H : Hp} {n : Nat}, upOk l u → n ∉ l → (H.upds u).at n = H.at n
  | [], H, n, h, hn => rfl
  | (i, b) :: u, H, n, h, hn => by
    have h1 := h i b (List.mem_cons_self ..)
    simp only [Hp.upds]
    rw [upds_at (u := u) (fun m c hm => h m c (List.mem_cons_of_mem _ hm)) hn, Hp.at_put_ne]
    intro he; subst he; exact hn h1

theorem put_comm : ∀ (H : Hp) (n m : Nat) (b c : Option (Nat × Blk)), n ≠ m → (H.put n b).put m c = (H.put m c).put n b
  | [], 0, 0, b, c, h => absurd rfl h
  | [], 0, m + 1, b, c, h => by simp [Hp.put]
  | [], n + 1, 0, b, c, h => by simp [Hp.put]
  | [], n + 1, m + 1, b, c, h => by simp only [Hp.put]; rw [put_comm [] n m b c (by omega)]
  | _ :: l, 0, 0, b, c, h => absurd rfl h
  | _ :: l, 0, m + 1, b, c, h => by simp [Hp.put]
  | _ :: l, n + 1, 0, b, c, h => by simp [Hp.put]
  | _ :: l, n + 1, m + 1, b, c, h => by simp only [Hp.put]; rw [put_comm l n m b c (by omega)]

theorem upds_put {l : List Nat} : ∀ {u : Upd} {H : Hp} {n : Nat} {b : Option (Nat × Blk)}, upOk l u → n ∉ l → (H.put n b).upds u = (H.upds u).put n b
  | [], H, n, b, h, hn => rfl
  | (i, c) :: u, H, n, b, h, hn => by
    have h1 := h i c (List.mem_cons_self ..)
    simp only [Hp.upds]
    rw [put_comm H n i b c (fun he => hn (he ▸ h1)), upds_put (u := u) (fun m c hm => h m c (List.mem_cons_of_mem _ hm)) hn]

theorem upds_comm {l m : List Nat} (hd : ∀ n ∈ l, n ∉ m) : ∀ {u v : Upd} {H : Hp}, upOk l u → upOk m v → (H.upds u).upds v = (H.upds v).upds u
  | [], v, H, hu, hv => rfl
  | (i, c) :: u, v, H, hu, hv => by
    have h1 := hd i (hu i c (List.mem_cons_self ..))
    simp only [Hp.upds]
    rw [upds_comm hd (fun m c hm => hu m c (List.mem_cons_of_mem _ hm)) hv, upds_put hv h1]

theorem set_comm (s : St) {x y : Option Tmp} (v u : Value) {a b : Upd} {l m : List Nat} (h : ∀ d, x = some d → y ≠ some d) (hd : ∀ n ∈ l, n ∉ m) (ha : upOk l a) (hb : upOk m b) :
    (s.set x v a).set y u b = (s.set y u b).set x v a := by
  unfold St.set
  simp only [St.mk.injEq, true_and]
  refine ⟨?_, upds_comm hd ha hb⟩
  cases x with
  | none => rfl
  | some d =>
    cases y with
    | none => rfl
    | some e =>
      have hne : d ≠ e := fun he => h d rfl (he ▸ rfl)
      simp only [put, tput_eq, List.set_comm _ _ hne]

theorem ev_set (s : St) {x : Option Tmp} {v : Value} {a : Upd} {y : Operand} (h : ∀ d, x = some d → y ≠ .tmp d) : ev (s.set x v a).tm y = ev s.tm y := by
  have h1 := Act.eval_put (a := s.act) (v := v) h
  rw [St.put_set s x v a, St.eval, St.eval] at h1
  exact h1

theorem tget_set (s : St) {x : Option Tmp} {v : Value} {a : Upd} {d : Nat} (h : x ≠ some d) : tget (s.set x v a).tm d = tget s.tm d :=
  ev_set s (y := .tmp d) fun e he hd => by cases hd; exact h he

variable {P}

theorem Tr.shape {a : Itm} {s : St} {R : RO} {s' : St} {G : RO} (h : Tr P a s R s' G) : ∃ v u, s' = s.set a.2.1.dst v u ∧ upOk (wnI a.2.1 a.2.2) u ∧ (grI a.2.2 = false → G = R) ∧ R.le G := by
  obtain ⟨i, o, hh⟩ := a
  cases hh with
  | none => exact ⟨undef, [], h.1, fun n b hm => (by cases hm), fun _ => h.2, h.2 ▸ RO.le_refl _⟩
  | some hh =>
    obtain ⟨ge, h1, x, h2, h3⟩ := h
    refine ⟨_, _, h3, eff_names P h1 x, fun hg => ?_, ?_⟩
    · have : ge.gr = false := gr_of hg h1
      unfold GE.st at h2; rw [this] at h2; exact h2.2
    · unfold GE.st at h2
      split at h2
      · exact h2.1
      · rw [h2.2]; exact RO.le_refl _
  where
  gr_of {P : Program} {o : Oper} {s : St} {R : RO} {h : Hint} {ge : GE} (hg : grow h = false) (he : (eff P o s R h).toG = some ge) : ge.gr = false := by
    cases h with
    | callG fp nn X q g => simp [grow] at hg
    | d => simp only [eff, effD] at he; (repeat' split at he) <;> simp [Eff.toG] at he <;> subst he <;> rfl
    | db b => simp only [eff, effDb] at he; (repeat' split at he) <;> simp [Eff.toG] at he <;> subst he <;> rfl
    | cv v => simp only [eff, effCv] at he; (repeat' split at he) <;> simp [Eff.toG] at he <;> subst he <;> rfl
    | pan => simp only [eff, effPan] at he; (repeat' split at he) <;> simp [Eff.toG] at he
    | dfr => simp only [eff, effDfr] at he; (repeat' split at he) <;> simp [Eff.toG] at he
    | nw => simp only [eff, effNw] at he; (repeat' split at he) <;> simp [Eff.toG] at he <;> subst he <;> rfl
    | dv => simp only [eff, effDv] at he; (repeat' split at he) <;> simp [Eff.toG] at he <;> subst he <;> rfl
    | sh => simp only [eff, effSh] at he; (repeat' split at he) <;> simp [Eff.toG] at he <;> subst he <;> rfl
    | cat => simp only [eff, effCat] at he; (repeat' split at he) <;> simp [Eff.toG] at he <;> subst he <;> rfl
    | eqs => simp only [eff, effEq] at he; (repeat' split at he) <;> simp [Eff.toG] at he <;> subst he <;> rfl
    | ix => simp only [eff, effIx] at he; (repeat' split at he) <;> simp [Eff.toG] at he <;> subst he <;> rfl
    | ia => simp only [eff, effIa] at he; (repeat' split at he) <;> simp [Eff.toG] at he <;> subst he <;> rfl
    | ib B O => simp only [eff, effIb] at he; (repeat' split at he) <;> simp [Eff.toG] at he <;> subst he <;> rfl
    | pr fp nn X q g => simp only [eff, effPr] at he; (repeat' split at he) <;> simp [Eff.toG] at he <;> subst he <;> rfl
    | pr0 fp nn v B => simp only [eff, effPr0] at he; (repeat' split at he) <;> simp [Eff.toG] at he <;> subst he <;> rfl
    | ss => simp only [eff, effSs] at he; (repeat' split at he) <;> simp [Eff.toG] at he <;> subst he <;> rfl
    | sl0 => simp only [eff, effSl0] at he; (repeat' split at he) <;> simp [Eff.toG] at he <;> subst he <;> rfl
    | sl => simp only [eff, effSl] at he; (repeat' split at he) <;> simp [Eff.toG] at he <;> subst he <;> rfl
    | ro cs => simp only [eff, effRo] at he; (repeat' split at he) <;> simp [Eff.toG] at he <;> subst he <;> rfl
    | p i => simp only [eff, effP] at he; (repeat' split at he) <;> simp [Eff.toG] at he <;> subst he <;> rfl
    | q i v => simp only [eff, effQ] at he; (repeat' split at he) <;> simp [Eff.toG] at he <;> subst he <;> rfl
    | sq i cs => simp only [eff, effSq] at he; (repeat' split at he) <;> simp [Eff.toG] at he <;> subst he <;> rfl
    | n i => simp only [eff, effN] at he; (repeat' split at he) <;> simp [Eff.toG] at he <;> subst he <;> rfl
    | call fp nn X g => simp only [eff, effCall] at he; (repeat' split at he) <;> simp [Eff.toG] at he <;> subst he <;> rfl
    | callR fp r => simp only [eff, effCallR] at he; (repeat' split at he) <;> simp [Eff.toG] at he <;> subst he <;> rfl
    | call0 fp nn r B => simp only [eff, effCall0] at he; (repeat' split at he) <;> simp [Eff.toG] at he <;> subst he <;> rfl

/-- What an operation comes to is the same behind one that may come in either order. -/
theorem eff_same {all : Array Oper} (hsel : Region.noSelect all = true) {a b : Itm} (hb : all[b.1]? = some b.2.1) (hi : Ind all a b) {s : St} {R : RO} {s' : St} {G : RO} (h : Tr P a s R s' G) {hh : Hint} (hbh : b.2.2 = some hh) :
    eff P b.2.1 s' G hh = eff P b.2.1 s R hh := by
  obtain ⟨v, u, rfl, h2, h3, h4⟩ := h.shape
  obtain ⟨a1, a2, a3⟩ := Oper.apart_spec hi.ap
  refine eff_local P (Region.noSelect_spec hsel _ _ · · hb) (fun x hx => ev_set s fun d hd he => ?_) (fun n hn => ?_) (fun hr => ?_)
  · refine a1 d hd ?_
    unfold Oper.looksAt
    refine List.mem_append.2 (.inl (List.mem_filterMap.2 ⟨x, by simpa using hx, by rw [he]⟩))
  · exact upds_at h2 fun hm => hi.ab n hm (by rw [hbh]; exact hn)
  · cases hg : grI a.2.2 with
    | false => exact h3 hg
    | true => have := hi.ga hg; rw [hbh] at this; simp only [rdI] at this; rw [this] at hr; cases hr

/-- The same, but for what is known. -/
theorem eff_state {all : Array Oper} (hsel : Region.noSelect all = true) {a b : Itm} (hb : all[b.1]? = some b.2.1) (hap : a.2.1.apart all b.2.1 = true) (hab : ∀ n ∈ wnI a.2.1 a.2.2, n ∉ nmI b.2.2) {s : St} {R : RO} {s' : St} {G : RO} (h : Tr P a s R s' G) {hh : Hint} (hbh : b.2.2 = some hh) :
    eff P b.2.1 s' G hh = eff P b.2.1 s G hh := by
  obtain ⟨v, u, rfl, h2, h3, h4⟩ := h.shape
  obtain ⟨a1, a2, a3⟩ := Oper.apart_spec hap
  refine eff_local P (Region.noSelect_spec hsel _ _ · · hb) (fun x hx => ev_set s fun d hd he => ?_) (fun n hn => ?_) (fun hr => rfl)
  · refine a1 d hd ?_
    unfold Oper.looksAt
    refine List.mem_append.2 (.inl (List.mem_filterMap.2 ⟨x, by simpa using hx, by rw [he]⟩))
  · exact upds_at h2 fun hm => hab n hm (by rw [hbh]; exact hn)

/-- What grows behind, or ahead of, a load from what nobody writes. -/
theorem eff_ro (o : Oper) (s : St) (R G : RO) (hh : Hint) (hr : roH hh = true) :
    (eff P o s G hh = .no ∧ eff P o s R hh = .no) ∨ ∃ b off cs v, eff P o s G hh = .det (G.cells b off cs) v [] ∧ eff P o s R hh = .det (R.cells b off cs) v [] := by
  cases hh <;> simp [roH] at hr
  rename_i cs
  simp only [eff, effRo]
  cases ho : o.op with
  | load t x =>
    dsimp only
    cases hx : ev s.tm x with
    | pointer ad =>
      cases ad with
      | none => exact .inl ⟨rfl, rfl⟩
      | some ad =>
        obtain ⟨b, off, sp⟩ := ad
        cases sp with
        | some z => exact .inl ⟨rfl, rfl⟩
        | none =>
          cases hv : readVar P t (cs (opv o s.tm)) 0 with
          | none => exact .inl ⟨rfl, rfl⟩
          | some v => exact .inr ⟨b, off, cs (opv o s.tm), v, rfl, rfl⟩
    | _ => exact .inl ⟨rfl, rfl⟩
  | _ => exact .inl ⟨rfl, rfl⟩

/-- What an operation comes to behind a later one that may come ahead of it: the same, but for what it asks. -/
theorem eff_back {all : Array Oper} (hsel : Region.noSelect all = true) {a b : Itm} (ha : all[a.1]? = some a.2.1) (hi : Ind all a b) {s : St} {R : RO} {s' : St} {G : RO} (h : Tr P b s R s' G) {hh : Hint} (hah : a.2.2 = some hh) :
    eff P a.2.1 s' G hh = eff P a.2.1 s R hh ∨ ∃ x off cs v, R.le G ∧ eff P a.2.1 s' G hh = .det (G.cells x off cs) v [] ∧ eff P a.2.1 s R hh = .det (R.cells x off cs) v [] := by
  have e := eff_state hsel ha (apart_symm hi.ap) hi.ba h hah
  obtain ⟨v, u, e1, h2, h3, h4⟩ := h.shape
  rw [e]
  cases hg : grI b.2.2 with
  | false => rw [h3 hg]; exact .inl rfl
  | true =>
    rcases hi.gb hg with hr | hr
    · refine .inl (eff_local P (Region.noSelect_spec hsel _ _ · · ha) (fun _ _ => rfl) (fun _ _ => rfl) (fun hr' => ?_))
      rw [hah] at hr
      simp only [rdI] at hr
      rw [hr] at hr'; cases hr'
    · rw [hah] at hr
      rcases eff_ro a.2.1 s R G hh hr with ⟨h5, h6⟩ | ⟨x, off, cs, v, h5, h6⟩
      · exact .inl (h5.trans h6.symm)
      · exact .inr ⟨x, off, cs, v, h4, h5, h6⟩

theorem gd_same0 {all : Array Oper} {a b : Itm} (hi : a.2.1.apart all b.2.1 = true) {s : St} {R : RO} {s' : St} {G : RO} (h : Tr P a s R s' G) : gd all s'.tm b.2.1 = gd all s.tm b.2.1 := by
  obtain ⟨v, u, rfl, h2, h3, h4⟩ := h.shape
  obtain ⟨a1, a2, a3⟩ := Oper.apart_spec hi
  unfold gd
  cases hg : b.2.1.guard with
  | none => rfl
  | some x =>
    obtain ⟨j, want⟩ := x
    cases hj : all[j]? with
    | none => simp only [hj]
    | some g =>
      cases hd : g.dst with
      | none => simp only [hj, hd]
      | some d =>
        simp only [hj, hd]
        rw [tget_set]
        intro he
        refine a1 d he ?_
        unfold Oper.looksAt
        refine List.mem_append.2 (.inr ?_)
        simp [hg, hj, hd]

theorem gd_same {all : Array Oper} {a b : Itm} (hi : Ind all a b) {s : St} {R : RO} {s' : St} {G : RO} (h : Tr P a s R s' G) : gd all s'.tm b.2.1 = gd all s.tm b.2.1 := gd_same0 hi.ap h

theorem ok_same {all : Array Oper} (hsel : Region.noSelect all = true) {a b : Itm} (hb : all[b.1]? = some b.2.1) (hi : Ind all a b) {s : St} {R : RO} {s' : St} {G : RO} (h : Tr P a s R s' G) :
    Ok P all b s' G ↔ Ok P all b s R := by
  have h1 := gd_same hi h
  obtain ⟨j, o, hh⟩ := b
  cases hh with
  | none => simp only [Ok]; simp only at h1; rw [h1]
  | some hh =>
    have h2 := eff_same hsel hb hi h rfl
    simp only [Ok]
    simp only at h1 h2
    rw [h1, h2]

/-- What may be done may be done behind a later one that comes ahead. -/
theorem ok_back {all : Array Oper} (hsel : Region.noSelect all = true) {a b : Itm} (ha : all[a.1]? = some a.2.1) (hi : Ind all a b) {s : St} {R : RO} {s' : St} {G : RO} (h : Tr P b s R s' G) (ho : Ok P all a s R) : Ok P all a s' G := by
  have h1 := gd_same0 (apart_symm hi.ap) h
  obtain ⟨j, o, hh⟩ := a
  cases hh with
  | none => simp only [Ok] at ho ⊢; simp only at h1; rw [h1]; exact ho
  | some hh =>
    have h2 := eff_back hsel ha hi h rfl
    simp only [Ok] at ho ⊢
    simp only at h1 h2
    rw [h1]
    refine ⟨ho.1, ?_⟩
    obtain ⟨ge, h3, h4⟩ := ho.2
    rcases h2 with h2 | ⟨x, off, cs, v, hle, h5, h6⟩
    · rw [h2]; exact ⟨ge, h3, h4⟩
    · rw [h6] at h3
      simp [Eff.toG] at h3
      subst h3
      exact ⟨_, by rw [h5]; rfl, RO.cells_mono hle h4⟩

theorem tr_comm {all : Array Oper} (hsel : Region.noSelect all = true) {a b : Itm} (ha : all[a.1]? = some a.2.1) (hb : all[b.1]? = some b.2.1) (hi : Ind all a b)
    {s : St} {R : RO} {sb : St} {Gb : RO} {s' : St} {G' : RO} (h : Tr P b s R sb Gb) (h' : Tr P a sb Gb s' G') :
    ∃ sa Ga, Tr P a s R sa Ga ∧ Tr P b sa Ga s' G' := by
  obtain ⟨a1, a2, a3⟩ := Oper.apart_spec hi.ap
  obtain ⟨vb, ub, e1, hub, hgb, hlb⟩ := h.shape
  obtain ⟨va, ua, e2, hua, hga, hla⟩ := h'.shape
  -- the two steps, by their effects at s and R
  have key : ∀ (c : Itm) (t : St) (S : RO) (t' : St) (S' : RO), Tr P c t S t' S' ↔ (match c.2.2 with
      | none => t' = t.set c.2.1.dst undef [] ∧ S' = S
      | some hh => ∃ ge, (eff P c.2.1 t S hh).toG = some ge ∧ ∃ x, ge.st x S S' ∧ t' = t.set c.2.1.dst (ge.f x).1 (ge.f x).2) := by
    rintro ⟨i, o, hh⟩ t S t' S'
    cases hh <;> rfl
  have stc : ∀ (ga gb : GE) (xa : ga.X) (xb : gb.X), (ga.gr = true → gb.gr = false) → gb.st xb R Gb → ga.st xa Gb G' → ∃ Ga, ga.st xa R Ga ∧ gb.st xb Ga G' := by
    intro ga gb xa xb hn h1 h2
    rcases Bool.eq_false_or_eq_true ga.gr with g1 | g1
    · have g2 := hn g1
      rw [GE.st_f g2] at h1
      rw [GE.st_t g1] at h2
      obtain ⟨h1, rfl⟩ := h1
      exact ⟨G', (GE.st_t g1).2 h2, (GE.st_f g2).2 ⟨h1, rfl⟩⟩
    · rw [GE.st_f g1] at h2
      obtain ⟨h2, rfl⟩ := h2
      rcases Bool.eq_false_or_eq_true gb.gr with g2 | g2
      · exact ⟨R, (GE.st_f g1).2 ⟨h2, rfl⟩, h1⟩
      · rw [GE.st_f g2] at h1
        obtain ⟨h1, rfl⟩ := h1
        exact ⟨_, (GE.st_f g1).2 ⟨h2, rfl⟩, (GE.st_f g2).2 ⟨h1, rfl⟩⟩
  have hdst : ∀ d, a.2.1.dst = some d → b.2.1.dst ≠ some d := a2
  have hdis : ∀ n ∈ wnI a.2.1 a.2.2, n ∉ wnI b.2.1 b.2.2 := fun n hn hm => hi.ab n hn (wn_sub _ _ _ hm)
  rw [key] at h h'
  cases hah : a.2.2 with
  | none =>
    simp only [hah] at h'
    obtain ⟨rfl, rfl⟩ := h'
    refine ⟨s.set a.2.1.dst undef [], R, (key ..).2 (by rw [hah]; exact ⟨rfl, rfl⟩), ?_⟩
    have htr : Tr P a s R (s.set a.2.1.dst undef []) R := (key ..).2 (by rw [hah]; exact ⟨rfl, rfl⟩)
    rw [key]
    cases hbh : b.2.2 with
    | none =>
      simp only [hbh] at h
      obtain ⟨rfl, rfl⟩ := h
      refine ⟨?_, rfl⟩
      exact (set_comm s undef undef (l := []) (m := []) hdst (by simp) (fun n b hm => by cases hm) (fun n b hm => by cases hm)).symm
    | some hh =>
      simp only [hbh] at h
      obtain ⟨ge, g1, x, g2, rfl⟩ := h
      refine ⟨ge, ?_, x, g2, ?_⟩
      · rw [eff_same hsel hb hi htr hbh]; exact g1
      · exact (set_comm s undef _ (l := []) hdst (by simp) (fun n b hm => by cases hm) (eff_names P g1 x)).symm
  | some ha' =>
    simp only [hah] at h'
    obtain ⟨ga, g1, xa, g2, rfl⟩ := h'
    have htb : Tr P b s R sb Gb := (key ..).2 h
    obtain ⟨pa, ge1⟩ : ∃ pa, (eff P a.2.1 s R ha').toG = some ⟨pa, ga.X, ga.gr, ga.g, ga.q, ga.f⟩ := by
      rcases eff_back hsel ha hi htb hah with h2 | ⟨x, off, cs, v, hle, h5, h6⟩
      · exact ⟨ga.p, by rw [← h2]; exact g1⟩
      · rw [h5] at g1
        simp [Eff.toG] at g1
        subst g1
        exact ⟨_, by rw [h6]; rfl⟩
    have hnx := eff_names P ge1 xa
    cases hbh : b.2.2 with
    | none =>
      simp only [hbh] at h
      obtain ⟨rfl, rfl⟩ := h
      refine ⟨s.set a.2.1.dst (ga.f xa).1 (ga.f xa).2, G', (key ..).2 (by rw [hah]; exact ⟨_, ge1, xa, g2, rfl⟩), ?_⟩
      rw [key, hbh]
      exact ⟨(set_comm s _ undef (m := []) hdst (by simp) hnx (fun n b hm => by cases hm)).symm, rfl⟩
    | some hb' =>
      simp only [hbh] at h
      obtain ⟨gb, g3, xb, g4, rfl⟩ := h
      have hgg : ga.gr = true → gb.gr = false := fun hg => by
        cases hgb' : grow hb' with
        | false => exact Tr.shape.gr_of hgb' g3
        | true =>
          have r1 := hi.gb (by rw [hbh]; exact hgb')
          have hga : grow ha' = true := by
            cases hga' : grow ha' with
            | true => rfl
            | false => have := Tr.shape.gr_of hga' ge1; simp only at this; rw [this] at hg; cases hg
          rw [hah] at r1
          simp only [rdI, roI] at r1
          rw [grow_rdep hga, grow_ro hga] at r1
          rcases r1 with r1 | r1 <;> cases r1
      obtain ⟨Ga, q1, q2⟩ := stc ga gb xa xb hgg g4 g2
      · have hta : Tr P a s R (s.set a.2.1.dst (ga.f xa).1 (ga.f xa).2) Ga := (key ..).2 (by rw [hah]; exact ⟨_, ge1, xa, q1, rfl⟩)
        refine ⟨_, Ga, hta, ?_⟩
        rw [key]
        simp only [hbh]
        refine ⟨gb, ?_, xb, q2, ?_⟩
        · rw [eff_same hsel hb hi hta hbh]; exact g3
        · rw [hah, hbh] at hdis
          exact (set_comm s _ _ hdst hdis hnx (eff_names P g3 xb)).symm
  where
  wn_sub (o : Oper) (h : Option Hint) (n : Nat) (hm : n ∈ wnI o h) : n ∈ nmI h := by
    cases h with
    | none => exact hm
    | some h =>
      simp only [wnI, wnH] at hm
      split at hm
      · cases hm
      · unfold wmH at hm
        split at hm
        · cases hm
        · exact hm

theorem drop_item {all : Array Oper} (hsel : Region.noSelect all = true) {it : Itm} (hit : all[it.1]? = some it.2.1) {L2 : List Itm} : ∀ (L1 : List Itm) (s : St) (R : RO) (k : St → RO → Prop),
    (∀ a ∈ L1, all[a.1]? = some a.2.1 ∧ Ind all a it) → GD P all (L1 ++ it :: L2) s R k → ∀ s' G, Tr P it s R s' G → GD P all (L1 ++ L2) s' G k
  | [], s, R, k, _, h, s', G, ht => h.2 s' G ht
  | a :: L1, s, R, k, hL, h, s', G, ht => by
    obtain ⟨h1, h2⟩ := h
    obtain ⟨ha, hi⟩ := hL a (List.mem_cons_self ..)
    refine ⟨ok_back hsel ha hi ht h1, fun s'' G'' ht' => ?_⟩
    obtain ⟨sa, Ga, t1, t2⟩ := tr_comm hsel ha hit hi ht ht'
    exact drop_item hsel hit L1 sa Ga k (fun b hb => hL b (List.mem_cons_of_mem _ hb)) (h2 sa Ga t1) s'' G'' t2

/-- An operation that may be done is done. -/
theorem step_item {all : Array Oper} {a : Itm} (ha : all[a.1]? = some a.2.1) {s : St} {R Rx : RO} {w : World} (ho : Ok P all a s R) (hR : R.le Rx) (hs : Sat w Rx s.hp)
    {Q : Exit → Act → World → Prop} {next : Act → World → Prop} (hn : ∀ s' G Rx' w', Tr P a s R s' G → Ext R Rx G Rx' → Sat w' Rx' s'.hp → next s'.act w') : wpOp P all Q a.1 next s.act w := by
  obtain ⟨i, o, hh⟩ := a
  unfold wpOp
  simp only at ha
  simp only [ha]
  cases hh with
  | none =>
    rw [gd_spec ho]
    simp only [Bool.false_eq_true, if_false]
    rw [St.put_set s _ _ []]
    exact hn _ R Rx w ⟨rfl, rfl⟩ (.refl hR) hs
  | some hh =>
    obtain ⟨h1, ge, h2, h3⟩ := ho
    rw [gd_spec h1]
    simp only [if_true]
    left
    refine eff_ok P o s R hh (fun s' G => Tr P (i, o, some hh) s R s' G) (fun _ _ _ => False) ?_ Rx w hR hs next Q (fun s' G Rx' w' hk hx hs' => hn s' G Rx' w' hk hx hs') (fun v s' G Rx' w' hk => hk.elim)
    rw [Eff.run_toG h2]
    exact ⟨h3, fun x G hx => ⟨ge, h2, x, hx, rfl⟩⟩

theorem wp_exists {o : Oper} {a : Act} {w : World} {next : Act → World → Prop} (h : o.wp P a w next (fun _ _ _ => False)) : ∃ a' w', next a' w' := by
  unfold Oper.wp at h
  generalize (execOp a.eval o).run P w = r at h
  cases r with
  | ok n w' =>
    cases n <;> simp only [Oper.upon] at h <;> first
      | exact ⟨_, _, h⟩
      | (obtain ⟨e, w'', fr, h1, _⟩ := h []
         cases e <;> first
          | exact ⟨_, _, h1⟩
          | exact h1.elim
          | (obtain ⟨_, _, h2⟩ := h1; exact h2.elim))
      | (obtain ⟨v, w'', h1, _⟩ := h default []; exact ⟨_, _, h1⟩)
  | halt x w' => cases x <;> simp only [Oper.upon] at h

theorem tr_exists {all : Array Oper} {a : Itm} (ha : all[a.1]? = some a.2.1) {s : St} {R Rx : RO} {w : World} (ho : Ok P all a s R) (hR : R.le Rx) (hs : Sat w Rx s.hp) :
    ∃ s' G Rx' w', Tr P a s R s' G ∧ Ext R Rx G Rx' ∧ Sat w' Rx' s'.hp := by
  have h := step_item (Q := fun _ _ _ => False) (next := fun _ _ => ∃ s' G Rx' w', Tr P a s R s' G ∧ Ext R Rx G Rx' ∧ Sat w' Rx' s'.hp) ha ho hR hs
    (fun s' G Rx' w' h1 h2 h3 => ⟨s', G, Rx', w', h1, h2, h3⟩)
  unfold wpOp at h
  simp only [ha] at h
  split at h
  · rcases h with h | ⟨_, _, _, h⟩
    · obtain ⟨_, _, h⟩ := wp_exists h; exact h
    · exact h.elim
  · exact h

theorem ok_item {all : Array Oper} (hsel : Region.noSelect all = true) {it : Itm} (hit : all[it.1]? = some it.2.1) {L2 : List Itm} : ∀ (L1 : List Itm) (s : St) (R Rx : RO) (w : World) (k : St → RO → Prop),
    (∀ a ∈ L1, all[a.1]? = some a.2.1 ∧ Ind all a it) → GD P all (L1 ++ it :: L2) s R k → R.le Rx → Sat w Rx s.hp → Ok P all it s R
  | [], s, R, Rx, w, k, _, h, _, _ => h.1
  | a :: L1, s, R, Rx, w, k, hL, h, hR, hs => by
    obtain ⟨h1, h2⟩ := h
    obtain ⟨ha, hi⟩ := hL a (List.mem_cons_self ..)
    obtain ⟨s', G, Rx', w', t, hx, hs'⟩ := tr_exists ha h1 hR hs
    have := ok_item hsel hit L1 s' G Rx' w' k (fun b hb => hL b (List.mem_cons_of_mem _ hb)) (h2 s' G t) hx.leg hs'
    exact (ok_same hsel hit hi t).1 this

/-- Which operations come ahead of one. -/
def isAhead (all : Array Oper) (ahead : Nat → Nat → Prop) : Prop :=
  ∀ (S : Nat → Prop), (∀ i o, all[i]? = some o → S i → ∀ e ∈ o.after, Region.binds .any e = true → S e.on) →
    ∀ j o, all[j]? = some o → (∀ e ∈ o.after, Region.binds .any e = true → S e.on) → ∀ i, ahead j i → S i

theorem wpAny_of {all : Array Oper} (hsel : Region.noSelect all = true) {ahead : Nat → Nat → Prop} (hah : isAhead all ahead)
    (hback : ∀ i o, all[i]? = some o → ∀ e ∈ o.after, Region.binds .any e = true → e.on < i) (R₀ Rx₀ : RO) (k : St → RO → Prop) :
    ∀ (n : Nat) (L : List Itm) (hn : L.length = n) (listed : Array Bool) (hsz : listed.size = all.size) (hmem : ∀ i, i < all.size → (listed.getD i false = false ↔ ∃ a ∈ L, a.1 = i))
      (hit : ∀ a ∈ L, all[a.1]? = some a.2.1) (hsort : L.Pairwise fun a b => a.1 < b.1) (hind : L.Pairwise fun a b => ahead b.1 a.1 ∨ Ind all a b)
      (hcl : ∀ i o, all[i]? = some o → listed.getD i false = true → ∀ e ∈ o.after, Region.binds .any e = true → listed.getD e.on false = true)
      (s : St) (R Rx : RO) (w : World), Ext R₀ Rx₀ R Rx → Sat w Rx s.hp → GD P all L s R k →
      wpAny P .any all (Lift R₀ Rx₀ fun e s' G => match e with | .normal => k s' G | _ => False) n listed s.act w := by
  intro n
  have ready : ∀ (L : List Itm) (listed : Array Bool), listed.size = all.size → (∀ i, i < all.size → (listed.getD i false = false ↔ ∃ a ∈ L, a.1 = i)) → ∀ i ∈ Region.ready .any all listed,
      ∃ a ∈ L, a.1 = i ∧ (∀ o, all[i]? = some o → ∀ e ∈ o.after, Region.binds .any e = true → listed.getD e.on false = true) := by
    intro L listed hsz hmem i hi
    obtain ⟨h1, o, h2, h3⟩ := mem_ready.1 hi
    have hlt : i < all.size := by
      rcases Nat.lt_or_ge i all.size with h | h
      · exact h
      · simp [Array.getElem?_eq_none h] at h2
    have h4 : listed.getD i false = false := by
      simp [Array.getD, show i < listed.size by omega] at h1 ⊢
      exact h1
    obtain ⟨a, ha, rfl⟩ := (hmem i hlt).1 h4
    refine ⟨a, ha, rfl, fun o' ho' e he hb => ?_⟩
    rw [h2] at ho'; cases ho'
    exact h3 e he hb
  induction n with
  | zero =>
    intro L hn listed hsz hmem hit hsort hind hcl s R Rx w hx hs h
    have hL : L = [] := List.length_eq_zero_iff.1 hn
    subst hL
    refine ⟨?_, .normal, s, R, Rx, rfl, rfl, h, hx, hs⟩
    apply List.eq_nil_iff_forall_not_mem.2
    intro i hi
    obtain ⟨a, ha, _⟩ := ready [] listed hsz hmem i hi
    cases ha
  | succ n ih =>
    intro L hn listed hsz hmem hit hsort hind hcl s R Rx w hx hs h
    refine ⟨fun hr => ?_, fun i hi => ?_⟩
    · -- the first one is ready
      exfalso
      cases L with
      | nil => simp at hn
      | cons a L =>
        have ha := hit a (List.mem_cons_self ..)
        have hlt : a.1 < all.size := by
          rcases Nat.lt_or_ge a.1 all.size with h | h
          · exact h
          · simp [Array.getElem?_eq_none h] at ha
        have : a.1 ∈ Region.ready .any all listed := by
          refine mem_ready.2 ⟨?_, a.2.1, ha, fun e he hb => ?_⟩
          · have := (hmem a.1 hlt).2 ⟨a, List.mem_cons_self .., rfl⟩
            simp [Array.getD, show a.1 < listed.size by omega] at this ⊢
            exact this
          · have h1 := hback _ _ ha e he hb
            cases hl : listed.getD e.on false with
            | true => rfl
            | false =>
              obtain ⟨b, hb1, hb2⟩ := (hmem e.on (by omega)).1 hl
              cases hb1 with
              | head => omega
              | tail _ hb1 =>
                have := (List.pairwise_cons.1 hsort).1 b hb1
                omega
        rw [hr] at this
        cases this
    · obtain ⟨it, hm, rfl, hdone⟩ := ready L listed hsz hmem i hi
      obtain ⟨L1, L2, rfl⟩ := List.append_of_mem hm
      have hitt := hit it (by simp)
      have hL1 : ∀ a ∈ L1, all[a.1]? = some a.2.1 ∧ Ind all a it := by
        intro a ha
        refine ⟨hit a (by simp [ha]), ?_⟩
        have h1 := (List.pairwise_append.1 hind).2.2 a ha it (by simp)
        refine h1.resolve_left fun hb => ?_
        have h2 := hah (fun i => listed.getD i false = true) (fun i o ho hS e he hb => hcl i o ho hS e he hb) it.1 it.2.1 hitt (hdone _ hitt) a.1 hb
        have hlt : a.1 < all.size := by
          have := hit a (by simp [ha])
          rcases Nat.lt_or_ge a.1 all.size with h | h
          · exact h
          · simp [Array.getElem?_eq_none h] at this
        have h3 := (hmem a.1 hlt).2 ⟨a, by simp [ha], rfl⟩
        rw [h3] at h2; cases h2
      have hok := ok_item hsel hitt L1 s R Rx w k hL1 h hx.leg hs
      refine step_item hitt hok hx.leg hs fun s' G Rx' w' ht hx' hs' => ?_
      have hltI : it.1 < all.size := by
        rcases Nat.lt_or_ge it.1 all.size with h | h
        · exact h
        · simp [Array.getElem?_eq_none h] at hitt
      have hnd : ∀ a ∈ L1 ++ L2, a.1 ≠ it.1 := by
        intro a ha
        rcases List.mem_append.1 ha with ha | ha
        · have := (List.pairwise_append.1 hsort).2.2 a ha it (by simp); omega
        · have := (List.pairwise_cons.1 (List.pairwise_append.1 hsort).2.1).1 a ha; omega
      have hget : ∀ j, (listed.setIfInBounds it.1 true).getD j false = if j = it.1 then true else listed.getD j false := by
        intro j
        by_cases hj : j = it.1
        · subst hj; simp [Array.getD, show it.1 < listed.size by omega]
        · rw [if_neg hj, getD_set_ne]; exact fun he => hj he.symm
      have hsub : List.Sublist (L1 ++ L2) (L1 ++ it :: L2) := List.Sublist.append (List.Sublist.refl _) (List.sublist_cons_self ..)
      refine ih (L1 ++ L2) (by simp at hn ⊢; omega) _ (by simpa using hsz) (fun j hj => ?_) (fun a ha => hit a (hsub.subset ha)) (hsort.sublist hsub) (hind.sublist hsub) (fun j o ho hj e he hb => ?_)
        s' G Rx' w' (hx.trans hx') hs' (drop_item hsel hitt L1 s R k hL1 h s' G ht)
      · rw [hget]
        by_cases hji : j = it.1
        · subst hji
          simp only [if_true]
          constructor
          · intro h; cases h
          · rintro ⟨a, ha, he⟩; exact (hnd a ha he).elim
        · rw [if_neg hji, hmem j hj]
          constructor
          · rintro ⟨a, ha, rfl⟩
            refine ⟨a, ?_, rfl⟩
            simp at ha ⊢
            rcases ha with ha | rfl | ha
            · exact .inl ha
            · exact (hji rfl).elim
            · exact .inr ha
          · rintro ⟨a, ha, rfl⟩; exact ⟨a, hsub.subset ha, rfl⟩
      · rw [hget]
        split
        · rfl
        · by_cases hji : j = it.1
          · subst hji
            exact hdone o ho e he hb
          · rw [hget, if_neg hji] at hj
            exact hcl j o ho hj e he hb
end
end Vc
