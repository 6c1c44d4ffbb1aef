import Derived.Test.YtejpoojgbnppoaaDoorVcS
/- Vc, part T: a range over a function that calls back; such a function. -/
set_option linter.unusedVariables false
set_option linter.unusedSimpArgs false
namespace Vc
open Go

/-- The fence that asks nothing, in a round's frame or in none. -/
def rf (ro : Option Nat) : Fence := { Fence.wide with round := ro }

section
variable {P : Program}

theorem opIn {o : Oper} {a : Act} {w : World} {next : Act → World → Prop} {Q : Exit → Act → World → Prop} {ro : Option Nat} (hd : ro = none ∨ ∀ c, o.op ≠ .defer c)
    (h : o.wp P a w next Q) : o.wpIn (rf ro) 0 P a w next Q := by
  refine ⟨fun _ _ => trivial, ?_⟩
  have he : o.semAt (rf ro).round a.eval = execOp a.eval o := by
    rcases hd with rfl | hd
    · rfl
    · exact Oper.semAt_eq _ _ _ hd
  rw [he]
  unfold Oper.wp at h
  have hw : (rf ro).depth.isSome = true → 1 ≤ 0 := fun hx => by simp [rf, Fence.wide] at hx
  cases hr : (execOp a.eval o).run P w with
  | ok v w' =>
    rw [hr] at h
    cases v with
    | enter f args =>
      exact ⟨hw, (callsIn_wide (n := 0 - 1)).2 h⟩
    | row row args =>
      refine ⟨hw, fun c cs _ => ?_⟩
      obtain ⟨v, w2, h1, h2⟩ := h c cs
      exact ⟨v, w2, h1, stepsIn_wide.2 h2⟩
    | round l f tmps assign body => exact (show False from h).elim
    | _ => exact h
  | halt x w' =>
    rw [hr] at h
    cases x <;> exact h

theorem opIn_mono {F : Fence} {n : Nat} {o : Oper} {a : Act} {w : World} {K K' : Act → World → Prop} {Q Q' : Exit → Act → World → Prop} (h : ∀ a w, K a w → K' a w) (hq : ∀ e a w, Q e a w → Q' e a w)
    (hh : o.wpIn F n P a w K Q) : o.wpIn F n P a w K' Q' := by
  have hl : LetsOut Q → LetsOut Q' := fun ⟨a, w, h⟩ => ⟨a, w, hq _ _ _ h⟩
  unfold Oper.wpIn at *
  refine ⟨hh.1, ?_⟩
  have hh := hh.2
  generalize (o.semAt F.round a.eval).run P w = r at *
  cases r with
  | ok x w' =>
    cases x <;> simp only [Oper.uponIn] at hh ⊢ <;>
      first
        | exact h _ _ hh
        | exact ⟨hh.1, CallsIn.mono hh.2 (fun e w'' he => by cases e <;> first | exact h _ _ he | exact hq _ _ _ he | exact hl he)⟩
        | exact ⟨hh.1, RowsIn.mono hh.2 (fun _ _ he => h _ _ he)⟩
        | exact ⟨hh.1, RoundIn.mono hh.2 (fun e w'' he => by cases e <;> first | exact h _ _ he | exact hq _ _ _ he | exact hl he)⟩
  | halt x w' => cases x <;> simp only [Oper.uponIn] at hh ⊢ <;> first | exact hh | exact hq _ _ _ hh
theorem wpOpsIn_mono {F : Fence} {n : Nat} {ops : Array Oper} {Q Q' : Exit → Act → World → Prop} (hq : ∀ e a w, Q e a w → Q' e a w) : ∀ {l : List Nat} {a : Act} {w : World}, wpOpsIn F n P ops Q l a w → wpOpsIn F n P ops Q' l a w
  | [], a, w, h => hq _ _ _ h
  | i :: l, a, w, h => by
    simp only [wpOpsIn] at h ⊢
    cases ho : ops[i]? with
    | none => rw [ho] at h; exact wpOpsIn_mono hq h
    | some o =>
      rw [ho] at h
      simp only at h ⊢
      split at h
      · rename_i hw
        rw [if_pos hw]
        exact opIn_mono (fun a w h => wpOpsIn_mono hq h) hq h
      · rename_i hw
        rw [if_neg hw]
        exact ⟨h.1, wpOpsIn_mono hq h.2⟩

/-- What a call of a round's own function does. -/
def YDoes (P : Program) (l : Nat) (args : List Value) (R : RO) (H : Hp) (X : Type) (g : X → Value × Hp) : Prop :=
  ∀ Rx w, R.le Rx → Sat w Rx H → ∃ f tmps assign body, (Instr.yield l args.toArray).run P w = .ok (.round l f tmps assign body) w ∧
    RoundIn Fence.wide 0 P l f tmps assign body w fun e w' => ∃ x Rx', e = .returned (g x).1 ∧ Ext R Rx R Rx' ∧ Sat w' Rx' (g x).2
abbrev YGives (P : Program) (l : Nat) (args : List Value) (R : RO) (H B : Hp) : Prop := YDoes P l args R H Unit fun _ => (.bool true, B)

def yieldOf (ρ : Operand → Value) (o : Oper) : Option (Nat × Array Value) := match o.op with
  | .call ⟨.value t, args, _⟩ => match ρ t with
    | .func (.yield l) ⟨[]⟩ _ => some (l, args.map ρ)
    | _ => none
  | _ => none
theorem yieldOf_run {ρ : Operand → Value} {o : Oper} {l : Nat} {args : Array Value} (h : yieldOf ρ o = some (l, args)) (w : World) :
    (execOp ρ o).run P w = (Instr.yield l args).run P w := by
  unfold yieldOf at h
  split at h
  · rename_i t as ts ho
    split at h
    · rename_i l' cap hv
      simp only [Option.some.injEq, Prod.mk.injEq] at h
      obtain ⟨rfl, rfl⟩ := h
      unfold execOp
      rw [ho]
      simp [resolve, Deferred.ofValue, hv, invoke, Sem.run_bind, Result.andThen]
    · cases h
  · cases h

theorem yield_frame {l : Nat} {args : List Value} {R : RO} {H : Hp} {fp : List Nat} {X : Type} {g : X → Value × Hp} (hd : fp.Nodup) (hp : YDoes P l args R (fp.map H.at) X g)
    {Rx : RO} {w : World} (hR : R.le Rx) (hs : Sat w Rx H) :
    ∃ f tmps assign body, (Instr.yield l args.toArray).run P w = .ok (.round l f tmps assign body) w ∧
      RoundIn Fence.wide 0 P l f tmps assign body w fun e w' => ∃ x Rx', e = .returned (g x).1 ∧ Ext R Rx R Rx' ∧ Sat w' Rx' (H.upds (zipU fp (g x).2)) := by
  have := frame_gen (ε := Ending) (T := fun K => ∃ f tmps assign body, (Instr.yield l args.toArray).run P w = .ok (.round l f tmps assign body) w ∧ RoundIn Fence.wide 0 P l f tmps assign body w K)
    (fun K K' ⟨f, tmps, assign, body, h1, h2⟩ hk => ⟨f, tmps, assign, body, h1, h2.mono hk⟩)
    (fin := Out.fin) (R := R) (H := H) (fp := fp) (nn := []) (Q := fun o G B => G = R ∧ ∃ x, o = .ret (g x).1 ∧ B = (g x).2) (w := w) (by simpa using hd) (by simp)
    (fun Rx hR hs => by
      obtain ⟨f, tmps, assign, body, h1, h2⟩ := hp Rx w hR hs
      refine ⟨f, tmps, assign, body, h1, h2.mono ?_⟩
      rintro e w' ⟨x, Rx', rfl, h3, h4⟩
      exact ⟨.ret (g x).1, R, (g x).2, Rx', rfl, ⟨rfl, x, rfl, rfl⟩, h3, h4⟩) hR hs
  obtain ⟨f, tmps, assign, body, h1, h2⟩ := this
  refine ⟨f, tmps, assign, body, h1, h2.mono ?_⟩
  rintro e w' ⟨o, G, B, Rx', rfl, ⟨rfl, x, rfl, rfl⟩, h3, h4⟩
  exact ⟨x, Rx', rfl, h3, by simpa using h4⟩

variable (P)
/-- As wops, calls of a round's function among them. -/
def wopsY (all : Array Oper) : List Oper → St → RO → Sc → (St → RO → Sc → Prop) → (Value → St → RO → Sc → Prop) → Prop
  | [], s, R, sc, k, kp => k s R sc
  | o :: l, s, R, sc, k, kp => pre sc s fun s sc => match gd all s.tm o with
    | some true => match sc with
      | .op h sc' => (eff P o s R h).run s R o.dst (fun s' R' => wopsY all l s' R' sc' k kp) (fun v s' R' => kp v s' R' sc')
      | .opn i kk => match effN P o s i with
        | .new f => ∀ a : Nat, wopsY all l (s.set o.dst (f a).1 (f a).2) R (kk a) k kp
        | _ => False
      | .opp fp nn X q g kk => match pcOf (ev s.tm) o, nodupN (fp ++ nn), freshN s.hp nn with
        | some c, true, true => PrimOK P c R (fp.map s.hp.at) X q g ∧ ∀ x : X, q x → wopsY all l (s.set o.dst (g x).1 (zipU (fp ++ nn) (g x).2)) R (kk x) k kp
        | _, _, _ => False
      | .opx fp nn X g kk => match yieldOf (ev s.tm) o with
        | some (y, args) => match nodupN fp with
          | true => YDoes P y args.toList R (fp.map s.hp.at) X g ∧ ∀ x : X, wopsY all l (s.set o.dst (g x).1 (zipU fp (g x).2)) R (kk x) k kp
          | false => False
        | none => match pureE P (execOp (ev s.tm) o), nodupN (fp ++ nn), freshN s.hp nn with
          | some (f, args), true, true => Does P f args.toList R (fp.map s.hp.at) (fun r G B => G = R ∧ ∃ x, r = .ret (g x).1 ∧ B = (g x).2) ∧
              ∀ x : X, wopsY all l (s.set o.dst (g x).1 (zipU (fp ++ nn) (g x).2)) R (kk x) k kp
          | _, _, _ => False
      | .opg fp nn X q g kk => match pureE P (execOp (ev s.tm) o), nodupN (fp ++ nn), freshN s.hp nn with
        | some (f, args), true, true => Does P f args.toList R (fp.map s.hp.at) (fun r G B => ∃ x, q x G ∧ r = .ret (g x).1 ∧ B = (g x).2) ∧
            ∀ (x : X) (G : RO), R.le G → q x G → wopsY all l (s.set o.dst (g x).1 (zipU (fp ++ nn) (g x).2)) G (kk x) k kp
        | _, _, _ => False
      | _ => False
    | some false => wopsY all l ⟨put s.tm o.dst undef, s.df, s.hp⟩ R sc k kp
    | none => False

def noDefer : Oper → Bool := fun o => match o.op with
  | .defer _ => false
  | _ => true
def noDefers (ops : Array Oper) : Bool := ops.toList.all noDefer
def roOK (ro : Option Nat) (ops : Array Oper) : Bool := match ro with
  | none => true
  | some _ => noDefers ops
variable {P}
theorem roOK_op {ro : Option Nat} {ops : Array Oper} (h : roOK ro ops = true) {i : Nat} {o : Oper} (ho : ops[i]? = some o) : ro = none ∨ ∀ c, o.op ≠ .defer c := by
  cases ro with
  | none => exact .inl rfl
  | some l =>
    right
    intro c hc
    have : noDefer o = true := List.all_eq_true.1 h o (by
      have := Array.mem_of_getElem? ho
      simpa using this)
    simp [noDefer, hc] at this

theorem wopsY_sound {ro : Option Nat} {all : Array Oper} (hall : roOK ro all = true) : ∀ (l : List Nat) (ol : List Oper) (_ : l.map (all[·]?) = ol.map some) (s : St) (R : RO) (sc : Sc)
    (k : St → RO → Sc → Prop) (kp : Value → St → RO → Sc → Prop), wopsY P all ol s R sc k kp → ∀ Rx w, R.le Rx → Sat w Rx s.hp →
    wpOpsIn (rf ro) 0 P all (Lift R Rx fun e s' G => match e with
      | .normal => ∃ sc', k s' G sc'
      | .panic v => ∃ sc', kp v s' G sc'
      | _ => False) l s.act w
  | [], [], _, s, R, sc, k, kp, h, Rx, w, hR, hs => ⟨.normal, s, R, Rx, rfl, rfl, ⟨sc, h⟩, .refl hR, hs⟩
  | [], _ :: _, hm, s, R, sc, k, kp, h, Rx, w, hR, hs => by simp at hm
  | _ :: _, [], hm, s, R, sc, k, kp, h, Rx, w, hR, hs => by simp at hm
  | i :: l, o :: ol, hm, s, R, sc, k, kp, h, Rx, w, hR, hs => by
    simp only [List.map_cons, List.cons.injEq] at hm
    obtain ⟨hi, hm⟩ := hm
    have hdo := roOK_op hall hi
    have mono : ∀ {l : List Nat} {G : RO} {Rx' : RO} {a : Act} {w' : World} {K : Exit' → St → RO → Prop}, Ext R Rx G Rx' → wpOpsIn (rf ro) 0 P all (Lift G Rx' K) l a w' → wpOpsIn (rf ro) 0 P all (Lift R Rx K) l a w' := fun hx h => wpOpsIn_mono (fun e a w hl => Lift.later hx hl) h
    simp only [wopsY] at h
    obtain ⟨sc, h⟩ := pre_sound h
    simp only [wpOpsIn, hi]
    split at h
    · rename_i hg
      rw [gd_spec hg]
      simp only [if_true]
      split at h
      · rename_i hh sc'
        refine opIn hdo (eff_ok P o s R hh _ _ h Rx w hR hs _ _ ?_ ?_)
        · intro s' G Rx' w' hk hx hs'
          exact mono hx (wopsY_sound hall l ol hm s' G sc' k kp hk Rx' w' hx.leg hs')
        · intro v s' G Rx' w' hk hx hs'
          exact ⟨.panic v, s', G, Rx', rfl, rfl, ⟨_, hk⟩, hx, hs'⟩
      · rename_i i' kk
        split at h
        · rename_i f hf
          have hE := effN_ok P o s R i'
          rw [hf] at hE
          refine opIn hdo (hE (fun s' G => ∃ sc', wopsY P all ol s' G sc' k kp) (fun _ _ _ => False) (fun a => ⟨_, h a⟩) Rx w hR hs _ _ ?_ (fun v s' G Rx' w' hk => hk.elim))
          intro s' G Rx' w' ⟨sc', hk⟩ hx hs'
          exact mono hx (wopsY_sound hall l ol hm s' G sc' k kp hk Rx' w' hx.leg hs')
        · exact h.elim
      · rename_i fp nn X q g kk
        split at h
        · rename_i c h1 h2 h3
          refine opIn hdo (EffOK.prim (P := P) (o := o) (s := s) (R := R) (X := X) (q := q) (g := g) h1 h2 h3 (fun s' G => ∃ sc', wopsY P all ol s' G sc' k kp) (fun _ _ _ => False) ⟨h.1, fun x hx => ⟨_, h.2 x hx⟩⟩ Rx w hR hs _ _ ?_ (fun v s' G Rx' w' hk => hk.elim))
          intro s' G Rx' w' ⟨sc', hk⟩ hx hs'
          exact mono hx (wopsY_sound hall l ol hm s' G sc' k kp hk Rx' w' hx.leg hs')
        · exact h.elim
      · rename_i fp nn X g kk
        split at h
        · rename_i y args hy
          split at h
          · rename_i hfp
            obtain ⟨f, tmps, assign, body, h1, h2⟩ := yield_frame (nodupN_spec hfp) h.1 hR hs
            refine ⟨fun _ _ => trivial, ?_⟩
            have he : o.semAt (rf ro).round s.act.eval = execOp s.act.eval o := by
              rcases hdo with rfl | hd
              · rfl
              · exact Oper.semAt_eq _ _ _ hd
            rw [he, St.eval, yieldOf_run hy w, show args = args.toList.toArray by simp, h1]
            refine ⟨fun hx => by simp [rf, Fence.wide] at hx, ?_⟩
            refine RoundIn.mono (F := rf ro) (n := 0) (by exact h2) ?_
            rintro e w' ⟨x, Rx', rfl, hx, hs'⟩
            show wpOpsIn (rf ro) 0 P all _ l (s.act.put o.dst (g x).1) w'
            rw [St.put_set s _ _ (zipU fp (g x).2)]
            exact mono hx (wopsY_sound hall l ol hm _ R _ k kp (h.2 x) Rx' w' hx.leg hs')
          · exact h.elim
        · split at h
          · rename_i f args h1 h2 h3
            refine opIn hdo (EffOK.call (P := P) (o := o) (s := s) (R := R) (X := X) (g := g) h1 h2 h3 (fun s' G => ∃ sc', wopsY P all ol s' G sc' k kp) (fun _ _ _ => False) ⟨h.1, fun x _ => ⟨_, h.2 x⟩⟩ Rx w hR hs _ _ ?_ (fun v s' G Rx' w' hk => hk.elim))
            intro s' G Rx' w' ⟨sc', hk⟩ hx hs'
            exact mono hx (wopsY_sound hall l ol hm s' G sc' k kp hk Rx' w' hx.leg hs')
          · exact h.elim
      · rename_i fp nn X q g kk
        split at h
        · rename_i f args h1 h2 h3
          refine opIn hdo (EffOK.callG (P := P) (o := o) (s := s) (R := R) (X := X) (q := q) (g := g) h1 h2 h3 (fun s' G => ∃ sc', wopsY P all ol s' G sc' k kp) (fun _ _ _ => False) ⟨h.1, fun x G hG hq => ⟨_, h.2 x G hG hq⟩⟩ Rx w hR hs _ _ ?_ (fun v s' G Rx' w' hk => hk.elim))
          intro s' G Rx' w' ⟨sc', hk⟩ hx hs'
          exact mono hx (wopsY_sound hall l ol hm s' G sc' k kp hk Rx' w' hx.leg hs')
        · exact h.elim
      · exact h.elim
    · rename_i hg
      rw [gd_spec hg]
      simp only [Bool.false_eq_true, if_false]
      refine ⟨fun _ _ => trivial, ?_⟩
      have ih := wopsY_sound hall l ol hm _ R sc k kp h Rx w hR hs
      rw [St.put_act]
      exact ih
    · exact h.elim

/-- A piece of code, in a round's frame or in none. -/
def CTI (P : Program) (ro : Option Nat) (c : Code) (s : St) (R : RO) (K : Exit' → St → RO → Prop) : Prop :=
  ∀ Rx w, R.le Rx → Sat w Rx s.hp → c.wpIn (rf ro) 0 P (Lift R Rx K) s.act w
theorem CTI.ct {c : Code} {s : St} {R : RO} {K : Exit' → St → RO → Prop} (h : CTI P none c s R K) : CT P c s R K :=
  fun Rx w hR hs => (wpIn_wide (n := 0)).1 (h Rx w hR hs)

variable (P)
/-- As wp, for code without loops. -/
def wpY (ro : Option Nat) : Code → St → RO → Sc → (Exit' → St → RO → Sc → Prop) → Prop
  | .skip, s, R, sc, K => K .normal s R sc
  | .label _, s, R, sc, K => K .normal s R sc
  | .region i ops false, s, R, sc, K => match roOK ro ops with
    | true => wopsY P ops ops.toList s R sc (fun s' R' sc' => K .normal s' R' sc') (fun v s' R' sc' => K (.panic v) s' R' sc')
    | false => False
  | .seq a b, s, R, sc, K => wpY ro a s R sc fun e s' R' sc' => match e with
    | .normal => wpY ro b s' R' sc' K
    | e => K e s' R' sc'
  | .cond c x y, s, R, sc, K => pre sc s fun s sc => match ev s.tm c with
    | .bool true => wpY ro x s R sc K
    | .bool false => wpY ro y s R sc K
    | _ => False
  | .ret, s, R, sc, K => K .ret s R sc
  | .exit i, s, R, sc, K => K (.exit i) s R sc
  | .goto i, s, R, sc, K => K (.goto i) s R sc
  | .block i c, s, R, sc, K => wpY ro c s R sc fun e s' R' sc' => match e with
    | .exit j => match Nat.beq j i with
      | true => K .normal s' R' sc'
      | false => K (.exit j) s' R' sc'
    | e => K e s' R' sc'
  | _, _, _, _, _ => False
variable {P}

theorem wpY_sound {ro : Option Nat} : ∀ (c : Code) (s : St) (R : RO) (sc : Sc) (K : Exit' → St → RO → Sc → Prop), wpY P ro c s R sc K → CTI P ro c s R fun e s' G => ∃ sc', K e s' G sc'
  | .skip, s, R, sc, K, h => fun Rx w hR hs => Go.wpIn_skip ⟨.normal, s, R, Rx, rfl, rfl, ⟨sc, h⟩, .refl hR, hs⟩
  | .label _, s, R, sc, K, h => fun Rx w hR hs => Go.wpIn_label ⟨.normal, s, R, Rx, rfl, rfl, ⟨sc, h⟩, .refl hR, hs⟩
  | .ret, s, R, sc, K, h => fun Rx w hR hs => Go.wpIn_ret ⟨.ret, s, R, Rx, rfl, rfl, ⟨sc, h⟩, .refl hR, hs⟩
  | .exit i, s, R, sc, K, h => fun Rx w hR hs => Go.wpIn_exit ⟨.exit i, s, R, Rx, rfl, rfl, ⟨sc, h⟩, .refl hR, hs⟩
  | .goto i, s, R, sc, K, h => fun Rx w hR hs => Go.wpIn_goto ⟨.goto i, s, R, Rx, rfl, rfl, ⟨sc, h⟩, .refl hR, hs⟩
  | .region i ops false, s, R, sc, K, h => fun Rx w hR hs => by
    simp only [wpY] at h
    split at h
    · rename_i hall
      have := wopsY_sound hall _ _ (range_map_toList ops) s R sc _ _ h Rx w hR hs
      refine Go.wpIn_region (wpOpsIn_mono (fun e a w hl => Lift.mono (fun e s' G _ hk => ?_) hl) this)
      cases e <;> first | exact hk | exact hk.elim
    · exact h.elim
  | .seq a b, s, R, sc, K, h => fun Rx w hR hs => by
    simp only [wpY] at h
    have ha := wpY_sound a s R sc _ h Rx w hR hs
    refine Go.wpIn_seq (wpIn_mono ha ?_)
    rintro e a' w' ⟨e', s', G, Rx', rfl, rfl, ⟨sc', hk⟩, hx, hs'⟩
    cases e' with
    | normal =>
      have hb := wpY_sound b s' G sc' K hk Rx' w' hx.leg hs'
      exact wpIn_mono hb fun e a w hl => Lift.later hx hl
    | exit i => exact ⟨.exit i, s', G, Rx', rfl, rfl, ⟨sc', hk⟩, hx, hs'⟩
    | goto i => exact ⟨.goto i, s', G, Rx', rfl, rfl, ⟨sc', hk⟩, hx, hs'⟩
    | ret => exact ⟨.ret, s', G, Rx', rfl, rfl, ⟨sc', hk⟩, hx, hs'⟩
    | panic v => exact ⟨.panic v, s', G, Rx', rfl, rfl, ⟨sc', hk⟩, hx, hs'⟩
  | .cond c x y, s, R, sc, K, h => by
    simp only [wpY] at h
    obtain ⟨sc', h⟩ := pre_sound h
    intro Rx w hR hs
    split at h
    · rename_i hc
      exact Go.wpIn_cond_true (by rw [St.eval]; exact hc) (wpY_sound x s R _ K h Rx w hR hs)
    · rename_i hc
      exact Go.wpIn_cond_false (by rw [St.eval]; exact hc) (wpY_sound y s R _ K h Rx w hR hs)
    · exact h.elim
  | .block i c, s, R, sc, K, h => fun Rx w hR hs => by
    simp only [wpY] at h
    have ha := wpY_sound c s R sc _ h Rx w hR hs
    refine Go.wpIn_block (wpIn_mono ha ?_)
    rintro e a' w' ⟨e', s', G, Rx', rfl, rfl, ⟨sc', hk⟩, hx, hs'⟩
    cases e' with
    | exit j =>
      simp only at hk
      show (if j = i then _ else _)
      split at hk
      · rename_i hb
        rw [if_pos (Nat.eq_of_beq_eq_true hb)]
        exact ⟨.normal, s', G, Rx', rfl, rfl, ⟨sc', hk⟩, hx, hs'⟩
      · rename_i hb
        rw [if_neg (Nat.ne_of_beq_eq_false hb)]
        exact ⟨.exit j, s', G, Rx', rfl, rfl, ⟨sc', hk⟩, hx, hs'⟩
    | normal => exact ⟨.normal, s', G, Rx', rfl, rfl, ⟨sc', hk⟩, hx, hs'⟩
    | goto i => exact ⟨.goto i, s', G, Rx', rfl, rfl, ⟨sc', hk⟩, hx, hs'⟩
    | ret => exact ⟨.ret, s', G, Rx', rfl, rfl, ⟨sc', hk⟩, hx, hs'⟩
    | panic v => exact ⟨.panic v, s', G, Rx', rfl, rfl, ⟨sc', hk⟩, hx, hs'⟩
  | .loop _, _, _, _, _, h => h.elim
  | .rangeFunc _ _ _ _, _, _, _, _, h => h.elim
  | .region _ _ true, _, _, _, _, h => h.elim
  | .scope _, _, _, _, _, h => h.elim
  | .refuse _, _, _, _, _, h => h.elim

/-- A region that calls a round's function. -/
theorem CT.of_wpY_eq {c : Code} {s : St} {R : RO} {K : Exit' → St → RO → Prop} {VC : Prop} (sc : Sc)
    (he : wpY P none c s R sc (fun e s' G _ => K e s' G) = VC) (h : VC) : CT P c s R K :=
  CT.mono (wpY_sound c s R sc _ (he ▸ h)).ct fun e s' G _ ⟨_, hk⟩ => hk

/-- A round is to end where it is off its end, with these blocks. -/
def RB (B : Hp) : Exit' → St → RO → Prop := fun e s _ => e = .normal ∧ s.hp.take B.length = B
def RBs (ro : Option Nat) (P : Program) (as bd : Code) (s : St) (R : RO) (B : Hp) : Prop :=
  CTI P ro as s R fun e s' G => e = .normal ∧ CTI P ro bd s' G (RB B)
theorem RBs.of_eq {ro : Option Nat} {as bd : Code} {s : St} {R : RO} {B : Hp} {VC : Prop} (sc : Sc)
    (he : wpY P ro as s R sc (fun e s' G sc' => match e with
      | .normal => wpY P ro bd s' G sc' fun e s' G _ => RB B e s' G
      | _ => False) = VC) (h : VC) : RBs ro P as bd s R B := by
  have := wpY_sound _ _ _ _ _ (he ▸ h)
  refine fun Rx w hR hs => wpIn_mono (this Rx w hR hs) fun e a w hl => Lift.mono ?_ hl
  rintro e s' G _ ⟨sc', hk⟩
  cases e with
  | normal => exact ⟨rfl, fun Rx w hR hs => wpIn_mono (wpY_sound _ _ _ _ _ hk Rx w hR hs) fun e a w hl => Lift.mono (fun e s G _ ⟨_, h⟩ => h) hl⟩
  | _ => exact hk.elim

def putps : List Value → List Tmp → List Value → List Value
  | tm, p :: ps, v :: vs => putps (tput tm p v) ps vs
  | tm, _, _ => tm
theorem putps_list : ∀ (ps : List Tmp) (vs tm : List Value), (ps.zip vs).foldl (fun (t : Array Value) (x : Tmp × Value) => t.setIfInBounds x.1 x.2) tm.toArray = (putps tm ps vs).toArray
  | [], vs, tm => by simp [putps]
  | p :: ps, [], tm => by simp [putps]
  | p :: ps, v :: vs, tm => by
    have := putps_list ps vs (tput tm p v)
    simp only [putps]
    rw [← this]
    simp [tput_eq]
theorem putps_eq (ps : Array Tmp) (vs tm : List Value) : ((ps.zip vs.toArray).foldl (fun (t : Array Value) (x : Tmp × Value) => t.setIfInBounds x.1 x.2) tm.toArray) = (putps tm ps.toList vs).toArray := by
  rw [← putps_list]
  rw [← Array.foldl_toList]
  simp

theorem Sat.set {w : World} {R : RO} {H : Hp} {b : Nat} {x : Obj} (o : Obj) (h : Sat w R H) (hb : R.mem b = some x) : Sat (w.putObj b o) (R.with b o) H := by
  have hlt := (Array.getElem?_eq_some_iff.1 (h.ro b x hb)).1
  have h2 := h.put o hb
  refine ⟨fun k y hk => ?_, h2.own, fun i a B hi => ?_, h2.one, h2.os, h2.tape, h2.out⟩
  · by_cases he : k = b
    · subst he; rw [RO.with_same] at hk; cases hk
      exact World.putObj_heap_same hlt
    · rw [RO.with_ne _ _ he] at hk
      rw [World.putObj_heap_other he]; exact h.ro k y hk
  · have hne : a ≠ b := fun he => by subst he; rw [h.off i a B hi] at hb; cases hb
    rw [RO.with_ne _ _ hne]; exact h.off i a B hi

/-- The rounds of a range, by their bodies. -/
theorem YGives.of {l : Nat} {args : List Value} {R R1 : RO} {H B : Hp} {tm : List Value} {ps : Array Tmp} {as bd : Code} {fn : FuncId} {db : Nat}
    (hn : args.length = ps.size) (hle : R.le R1) (hl : R.mem l = none)
    (hr : R1.mem l = some (.loop { state := .ready, pending := none, fn, tmps := tm.toArray, params := ps, assign := as, body := bd, defers := db }))
    (hb : RBs (some l) P as bd ⟨putps tm ps.toList args, [], H⟩ R B) : YGives P l args R1 H B := by
  intro Rx w hR hs
  have hrx := hR.mem _ _ hr
  obtain ⟨rec, hrec⟩ : ∃ rec : LoopState → Loop, rec = fun st => { state := st, pending := none, fn, tmps := tm.toArray, params := ps, assign := as, body := bd, defers := db } := ⟨_, rfl⟩
  have hrx' : Rx.mem l = some (.loop (rec .ready)) := by rw [hrec]; exact hrx
  have h0 := run_yield (P := P) (args := args.toArray) (hs.ro _ _ hrx) (by simpa using hn)
  refine ⟨_, _, _, _, h0, ?_⟩
  refine roundIn_of_wpIn (F := Fence.wide) trivial ?_
  have ht : ((ps.zip args.toArray).foldl (fun (tmps : Array Value) (x : Tmp × Value) => tmps.setIfInBounds x.1 x.2) tm.toArray) = (putps tm ps.toList args).toArray := by
    exact putps_eq ps args tm
  have hst : ({ tmps := (ps.zip args.toArray).foldl (fun (tmps : Array Value) (x : Tmp × Value) => tmps.setIfInBounds x.1 x.2) tm.toArray, defers := [] } : Act) = St.act ⟨putps tm ps.toList args, [], H⟩ := by
    rw [ht]; rfl
  show Code.wpIn (Fence.wide.inRound l) 0 P as _ ({ tmps := (ps.zip args.toArray).foldl (fun (tmps : Array Value) (x : Tmp × Value) => tmps.setIfInBounds x.1 x.2) tm.toArray, defers := [] } : Act) w
  rw [hst]
  refine wpIn_mono (hb Rx w (RO.le_trans hle hR) hs) ?_
  rintro e a w1 ⟨e', s1, G, X1, rfl, rfl, ⟨rfl, hbd⟩, hx1, hs1⟩
  have x1l := hx1.lex.mem _ _ hrx'
  have gl : G.mem l = none := by
    cases hg : G.mem l with
    | none => rfl
    | some o =>
      rcases hx1.own l (by rw [hg]; simp) with h | h
      · exact (h hl).elim
      · rw [hrx'] at h; cases h
  have hs2 := hs1.set (.loop (rec .busy)) x1l
  have hle2 : G.le (X1.with l (.loop (rec .busy))) := by
    refine ⟨fun b o hk => ?_, hx1.leg.os, hx1.leg.tape, hx1.leg.out⟩
    rw [RO.with_ne _ _ (fun h => by rw [h, gl] at hk; cases hk)]
    exact hx1.leg.mem b o hk
  have hrb : ({ rec .ready with state := .busy } : Loop) = rec .busy := by rw [hrec]
  have hbr := run_beginRound (P := P) (r := rec .ready) (hs1.ro _ _ x1l) (by rw [hrec])
  rw [hrb] at hbr
  refine ⟨_, hbr, ?_⟩
  refine wpIn_mono (hbd _ _ hle2 hs2) ?_
  rintro e a w3 ⟨e', s2, G2, X3, rfl, rfl, ⟨rfl, hB⟩, hx3, hs3⟩
  have x3l := hx3.lex.mem l _ (RO.with_same _ _ _)
  have hs4 := hs3.set (.loop (rec .ready)) x3l
  have hre : ({ rec .busy with state := .ready, pending := none } : Loop) = rec .ready := by rw [hrec]
  have her := run_endRound (P := P) none (hs3.ro _ _ x3l)
  simp only [Option.isNone_none, if_true] at her
  rw [hre] at her
  refine ⟨_, _, her, (), X3.with l (.loop (rec .ready)), rfl, ⟨R1.le_refl, ?_, ?_, fun b hb => .inl hb⟩, ?_⟩
  · refine ⟨fun b o hk => ?_, (hx3.lex.os.trans hx1.lex.os), (hx3.lex.tape.trans hx1.lex.tape), (hx3.lex.out.trans hx1.lex.out)⟩
    by_cases he : b = l
    · rw [he, hrx'] at hk; cases hk
      rw [he]; exact RO.with_same _ _ _
    · rw [RO.with_ne _ _ he]
      refine hx3.lex.mem b o ?_
      rw [RO.with_ne _ _ he]
      exact hx1.lex.mem b o hk
  · refine ⟨fun b o hk => ?_, (hx3.lex.os.trans hx1.lex.os).trans hR.os, (hx3.lex.tape.trans hx1.lex.tape).trans hR.tape, (hx3.lex.out.trans hx1.lex.out).trans hR.out⟩
    have hk' := hR.mem b o hk
    by_cases he : b = l
    · rw [he, hrx'] at hk'; cases hk'
      rw [he]; exact RO.with_same _ _ _
    · rw [RO.with_ne _ _ he]
      refine hx3.lex.mem b o ?_
      rw [RO.with_ne _ _ he]
      exact hx1.lex.mem b o hk'
  · have : Sat (w3.putObj l (.loop (rec .ready))) (X3.with l (.loop (rec .ready))) B := by
      rw [← hB]
      exact ⟨hs4.ro, fun i a B hi => hs4.own i a B (Hp.at_take hi), fun i a B hi => hs4.off i a B (Hp.at_take hi), fun i j a B C hi hj => hs4.one i j a B C (Hp.at_take hi) (Hp.at_take hj), hs4.os, hs4.tape, hs4.out⟩
    exact this

/-- A range over a function that calls back n times. -/
theorem CT.range_run {g : Operand} {ps : Array Tmp} {assign body : Code} {s : St} {R : RO} {f : FuncId} {cap : Array Value} {k : Nat → Sc} (n : Nat) (vals : Nat → List Value) (Hs : Nat → Hp)
    (hg : ev s.tm g = .func (.func f) #[] cap) (he : ∀ args w, (callFunc f args).run P w = .ok (.enter f args) w) (h0 : s.hp = Hs 0) (hlen : ∀ j, (vals j).length = ps.size)
    (hbody : ∀ j, j < n → ∀ l, RBs (some l) P assign body ⟨putps s.tm ps.toList (vals j), [], Hs j⟩ R (Hs (j + 1)))
    (hcall : ∀ (l : Nat) (R1 : RO), R.le R1 → (∀ j, j < n → YGives P l (vals j) R1 (Hs j) (Hs (j + 1))) → Gives P f (.func (.yield l) #[] #[] :: cap.toList) R1 (Hs 0) (.ret (.tuple #[])) (Hs n)) :
    CT P (.rangeFunc g ps assign body) s R (altPost R (.altG Nat (fun r G => G.mem r = some (.deferred (some [])) ∧ R.mem r = none) (fun r => (.normal, ⟨s.tm, { target := .collected r, args := #[] } :: s.df, Hs n⟩)) k .altn)) := by
  intro Rx w hR hs
  rw [← wpIn_wide (n := 1)]
  refine wpIn_rangeFunc ?_
  intro fn hfn
  obtain ⟨rec, hrec⟩ : ∃ rec : LoopState → Option Code → Loop, rec = fun st pe => { state := st, pending := pe, fn, tmps := s.act.tmps, params := ps, assign, body, defers := w.heap.size } := ⟨_, rfl⟩
  have hsz : (w.alloc (.deferred (some []))).heap.size = w.heap.size + 1 := World.size_alloc _ _
  have hs1 := (hs.alloc (.deferred (some []))).alloc (.loop (rec .ready none))
  rw [hsz] at hs1
  have hxr : Rx.mem w.heap.size = none := hs.fresh
  have hxl : Rx.mem (w.heap.size + 1) = none := by
    cases hr : Rx.mem (w.heap.size + 1) with
    | none => rfl
    | some o => have := (Array.getElem?_eq_some_iff.1 (hs.ro _ _ hr)).1; omega
  have hrr := RO.none_of_le hR hxr
  have hrl := RO.none_of_le hR hxl
  obtain ⟨R1, hR1⟩ : ∃ R1, (R.with w.heap.size (.deferred (some []))).with (w.heap.size + 1) (.loop (rec .ready none)) = R1 := ⟨_, rfl⟩
  obtain ⟨X1, hX1⟩ : ∃ X1, (Rx.with w.heap.size (.deferred (some []))).with (w.heap.size + 1) (.loop (rec .ready none)) = X1 := ⟨_, rfl⟩
  rw [hX1] at hs1
  have le1 : R1.le X1 := by
    rw [← hR1, ← hX1]
    refine ⟨fun b o hb => ?_, hR.os, hR.tape, hR.out⟩
    by_cases h1 : b = w.heap.size + 1
    · subst h1; rw [RO.with_same] at hb ⊢; exact hb
    · rw [RO.with_ne _ _ h1] at hb ⊢
      by_cases h2 : b = w.heap.size
      · subst h2; rw [RO.with_same] at hb ⊢; exact hb
      · rw [RO.with_ne _ _ h2] at hb ⊢; exact hR.mem b o hb
  have le0 : R.le R1 := by
    rw [← hR1]
    refine ⟨fun b o hb => ?_, rfl, rfl, rfl⟩
    rw [RO.with_ne _ _ (fun h => by subst h; rw [hrl] at hb; cases hb), RO.with_ne _ _ (fun h => by subst h; rw [hrr] at hb; cases hb)]
    exact hb
  have xl : X1.mem (w.heap.size + 1) = some (.loop (rec .ready none)) := by rw [← hX1]; exact RO.with_same _ _ _
  have r1l : R1.mem (w.heap.size + 1) = some (.loop (rec .ready none)) := by rw [← hR1]; exact RO.with_same _ _ _
  have xr : X1.mem w.heap.size = some (.deferred (some [])) := by rw [← hX1, RO.with_ne _ _ (by omega)]; exact RO.with_same _ _ _
  have xle : Rx.le X1 := by
    rw [← hX1]
    refine ⟨fun b o hb => ?_, rfl, rfl, rfl⟩
    rw [RO.with_ne _ _ (fun h => by subst h; rw [hxl] at hb; cases hb), RO.with_ne _ _ (fun h => by subst h; rw [hxr] at hb; cases hb)]
    exact hb
  refine ⟨w.heap.size + 1, [{ target := .collected w.heap.size, args := #[] }], (w.alloc (.deferred (some []))).alloc (.loop (rec .ready none)), { target := .fn (.func f) cap, args := #[.func (.yield (w.heap.size + 1)) #[] #[]] },
    (w.alloc (.deferred (some []))).alloc (.loop (rec .ready none)), f, #[.func (.yield (w.heap.size + 1)) #[] #[]] ++ cap, (w.alloc (.deferred (some []))).alloc (.loop (rec .ready none)), ?_, ?_, ?_, ?_, fun _ => Nat.le_refl 1, ?_⟩
  · rw [hrec]; exact run_enterLoop_outer _ _ _ _ _
  · have hg' : s.act.eval g = .func (.func f) #[] cap := by rw [St.eval]; exact hg
    simp only [resolve, hg']
    simp [go_sem]
  · intro f' hf'; simp [Target.leads] at hf'; subst hf'; trivial
  · simp [invoke, go_sem, he]
  · refine (callsIn_wide (n := 1 - 1)).2 ?_
    have hy : ∀ j, j < n → YGives P (w.heap.size + 1) (vals j) R1 (Hs j) (Hs (j + 1)) := fun j hj =>
      YGives.of (R := R) (tm := s.tm) (fn := fn) (db := w.heap.size) (hlen j) le0 hrl (by rw [r1l, hrec]; rfl) (hbody j hj _)
    have hcall := hcall (w.heap.size + 1) R1 le0 hy X1 _ le1 (h0 ▸ hs1)
    have ha : (Value.func (.yield (w.heap.size + 1)) #[] #[] :: cap.toList).toArray = #[.func (.yield (w.heap.size + 1)) #[] #[]] ++ cap := by simp
    rw [ha] at hcall
    refine hcall.mono ?_
    rintro e w3 ⟨o, G, B, X2, rfl, ⟨rfl, rfl, rfl⟩, hx, hs3⟩
    have x2l := hx.lex.mem _ _ xl
    have x2r := hx.lex.mem _ _ xr
    refine ⟨none, w3.putObj (w.heap.size + 1) (.loop (rec .exhausted none)), ?_, ?_⟩
    · have := run_endLoop (P := P) (hs3.ro _ _ x2l) (by rw [hrec]; simp)
      rw [hrec] at this ⊢; exact this
    · refine ⟨.normal, ⟨s.tm, { target := .collected w.heap.size, args := #[] } :: s.df, Hs n⟩, R.with w.heap.size (.deferred (some [])), X2.less (w.heap.size + 1), rfl, rfl, .inl ⟨w.heap.size, ⟨RO.with_same _ _ _, hrr⟩, rfl, ⟨rfl, rfl, List.take_length⟩⟩, ?_, hs3.put _ x2l⟩
      refine ⟨⟨fun b o hb => ?_, rfl, rfl, rfl⟩, ⟨fun b o hb => ?_, hx.lex.os.trans xle.os, hx.lex.tape.trans xle.tape, hx.lex.out.trans xle.out⟩, ⟨fun b o hb => ?_, (hx.lex.os.trans xle.os).trans hR.os, (hx.lex.tape.trans xle.tape).trans hR.tape, (hx.lex.out.trans xle.out).trans hR.out⟩, fun b hb => ?_⟩
      · rw [RO.with_ne _ _ (fun h => by subst h; rw [hrr] at hb; cases hb)]; exact hb
      · rw [RO.less_ne _ (fun h => by subst h; rw [hxl] at hb; cases hb)]; exact hx.lex.mem b o (xle.mem b o hb)
      · by_cases h2 : b = w.heap.size
        · subst h2
          rw [RO.with_same] at hb; cases hb
          rw [RO.less_ne _ (by omega)]; exact x2r
        · rw [RO.with_ne _ _ h2] at hb
          rw [RO.less_ne _ (fun h => by subst h; rw [hrl] at hb; cases hb)]
          exact hx.lex.mem b o (xle.mem b o (hR.mem b o hb))
      · by_cases h2 : b = w.heap.size
        · subst h2; exact .inr hxr
        · rw [RO.with_ne _ _ h2] at hb; exact .inl hb

theorem CT.range_run_eq {c : Code} {s : St} {R : RO} (f : FuncId) (cap : Array Value) {k : Nat → Sc} (n : Nat) (vals : Nat → List Value) (Hs : Nat → Hp)
    (hc : c = .rangeFunc (rgO c) (rgP c) (rgA c) (rgB c)) (hg : ev s.tm (rgO c) = .func (.func f) #[] cap)
    (he : ∀ args : Array Value, pureE P (callFunc f args) = some (f, args)) (h0 : s.hp = Hs 0) (hlen : ∀ j, (vals j).length = (rgP c).size)
    (hbody : ∀ j, j < n → ∀ l, RBs (some l) P (rgA c) (rgB c) ⟨putps s.tm (rgP c).toList (vals j), [], Hs j⟩ R (Hs (j + 1)))
    (hcall : ∀ (l : Nat) (R1 : RO), R.le R1 → (∀ j, j < n → YGives P l (vals j) R1 (Hs j) (Hs (j + 1))) → Gives P f (.func (.yield l) #[] #[] :: cap.toList) R1 (Hs 0) (.ret (.tuple #[])) (Hs n)) :
    CT P c s R (altPost R (.altG Nat (fun r G => G.mem r = some (.deferred (some [])) ∧ R.mem r = none) (fun r => (.normal, ⟨s.tm, { target := .collected r, args := #[] } :: s.df, Hs n⟩)) k .altn)) := by
  have := CT.range_run (P := P) (ps := rgP c) (assign := rgA c) (body := rgB c) (s := s) (R := R) (f := f) (cap := cap) (k := k) n vals Hs hg (fun args w => pureE_run (he args) w) h0 hlen hbody hcall
  rw [← hc] at this
  exact this
end
end Vc
