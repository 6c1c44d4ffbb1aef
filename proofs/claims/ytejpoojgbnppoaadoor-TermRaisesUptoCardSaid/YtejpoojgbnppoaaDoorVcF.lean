import Derived.Test.YtejpoojgbnppoaaDoorVcH
/- Vc, part F: the condition of a piece of code, and that it serves. -/
set_option linter.unusedVariables false
set_option linter.unusedSimpArgs false
namespace Vc
open Go

/-- What a run is told on its way. -/
inductive Sc : Type 1 where
  | fin (keep : List Nat) (rp : List (Nat × Option Value))
  | op (h : Hint) (k : Sc)
  | br (d : Nat) (b : Bool) (k : Sc)
  | sp (d : Nat) (k l : Sc)
  | cs (c : Bool) (k l : Sc)
  | opx (fp nn : List Nat) (X : Type) (g : X → Value × Hp) (k : X → Sc)
  | opg (fp nn : List Nat) (X : Type) (q : X → RO → Prop) (g : X → Value × Hp) (k : X → Sc)
  | opn (i : Nat) (k : Nat → Sc)
  | opp (fp nn : List Nat) (X : Type) (q : X → Prop) (g : X → Value × Hp) (k : X → Sc)
  | adr (i : Nat) (k : Nat → Sc)
  | un (n : Nat) (k : Sc)
  | rw (s' : St) (k : Sc)
  | ex (X : Type) (q : X → Prop) (k : X → Sc)
  | or (p q : Prop) (k l : Sc)
  | dr (hs : List (Option Hint)) (k : Sc)
  | alt (X : Type) (q : X → Prop) (out : X → Exit' × St) (k : X → Sc) (rest : Sc)
  | altG (X : Type) (q : X → RO → Prop) (out : X → Exit' × St) (k : X → Sc) (rest : Sc)
  | altn

def ops : List Hint → Sc → Sc
  | [], k => k
  | h :: l, k => .op h (ops l k)

def pre : Sc → St → (St → Sc → Prop) → Prop
  | .br d b k, s, f => match tget s.tm d with
    | .bool c => c = b ∧ pre k ⟨tput s.tm d (.bool b), s.df, s.hp⟩ f
    | _ => False
  | .sp d k l, s, f => match tget s.tm d with
    | .bool c => (c = true → pre k ⟨tput s.tm d (.bool true), s.df, s.hp⟩ f) ∧ (c = false → pre l ⟨tput s.tm d (.bool false), s.df, s.hp⟩ f)
    | _ => False
  | .cs c k l, s, f => (c = true → pre k s f) ∧ (c = false → pre l s f)
  | .adr i k, s, f => pre (k (adr s.hp i)) s f
  | .rw s' k, s, f => s = s' ∧ pre k s' f
  | .ex X q k, s, f => (∃ x, q x) ∧ ∀ x, q x → pre (k x) s f
  | .or p q k l, s, f => (p ∨ q) ∧ (p → pre k s f) ∧ (q → pre l s f)
  | sc, s, f => f s sc

theorem tput_tget : ∀ (l : List Value) (d : Nat), tput l d (tget l d) = l
  | [], d => by simp [tput]
  | x :: l, 0 => rfl
  | x :: l, d + 1 => by simp [tput, tget, tput_tget l d]

theorem pre_sound : ∀ {sc : Sc} {s : St} {f : St → Sc → Prop}, pre sc s f → ∃ sc', f s sc'
  | .fin keep rp, s, f, h => ⟨_, h⟩
  | .op _ _, s, f, h => ⟨_, h⟩
  | .opx _ _ _ _ _, s, f, h => ⟨_, h⟩
  | .opg _ _ _ _ _ _, s, f, h => ⟨_, h⟩
  | .opn _ _, s, f, h => ⟨_, h⟩
  | .un _ _, s, f, h => ⟨_, h⟩
  | .opp _ _ _ _ _ _, s, f, h => ⟨_, h⟩
  | .adr i k, s, f, h => by
    simp only [pre] at h
    exact pre_sound h
  | .rw s' k, s, f, h => by
    simp only [pre] at h
    obtain ⟨rfl, h⟩ := h
    exact pre_sound h
  | .ex X q k, s, f, h => by
    simp only [pre] at h
    obtain ⟨⟨x, hx⟩, h⟩ := h
    exact pre_sound (h x hx)
  | .or p q k l, s, f, h => by
    simp only [pre] at h
    obtain ⟨h0 | h0, h1, h2⟩ := h
    · exact pre_sound (h1 h0)
    · exact pre_sound (h2 h0)
  | .dr hs k, s, f, h => ⟨_, h⟩
  | .alt X q out k rest, s, f, h => ⟨_, h⟩
  | .altG X q out k rest, s, f, h => ⟨_, h⟩
  | .altn, s, f, h => ⟨_, h⟩
  | .br d b k, s, f, h => by
    simp only [pre] at h
    split at h
    · rename_i c hc
      obtain ⟨rfl, h⟩ := h
      rw [← hc, tput_tget] at h
      exact pre_sound h
    · exact h.elim
  | .cs c k l, s, f, h => by
    simp only [pre] at h
    cases c with
    | true => exact pre_sound (h.1 rfl)
    | false => exact pre_sound (h.2 rfl)
  | .sp d k l, s, f, h => by
    simp only [pre] at h
    split at h
    · rename_i c hc
      cases c with
      | true =>
        have h := h.1 rfl
        rw [← hc, tput_tget] at h
        exact pre_sound h
      | false =>
        have h := h.2 rfl
        rw [← hc, tput_tget] at h
        exact pre_sound h
    · exact h.elim

/-- A state with some values laid anew. -/
def St.up (s : St) (l : List (Nat × Value)) (h : Hp) : St := ⟨l.foldl (fun t p => tput t p.1 p.2) s.tm, s.df, h⟩
/-- The same state, but for names that are given up. -/
def St.cut (s t : St) : Prop := s.tm = t.tm ∧ s.df = t.df ∧ s.hp.take t.hp.length = t.hp

theorem Hp.at_take : ∀ {H : Hp} {n i : Nat} {x : Nat × Blk}, Hp.at (H.take n) i = some x → H.at i = some x
  | [], n, i, x, h => by simp [Hp.at_nil] at h
  | a :: l, 0, i, x, h => by simp [Hp.at_nil] at h
  | a :: l, n + 1, 0, x, h => by simpa [Hp.at] using h
  | a :: l, n + 1, i + 1, x, h => by
    simp only [List.take_succ_cons, Hp.at] at h ⊢
    exact Hp.at_take h

theorem St.cut_act {s t : St} (h : s.cut t) : s.act = t.act := by
  unfold St.act; rw [h.1, h.2.1]

theorem St.cut_sat {s t : St} (h : s.cut t) {w : World} {R : RO} (hs : Sat w R s.hp) : Sat w R t.hp := by
  rw [← h.2.2]
  exact ⟨hs.ro, fun i a B hi => hs.own i a B (Hp.at_take hi), fun i a B hi => hs.off i a B (Hp.at_take hi), fun i j a B C hi hj => hs.one i j a B C (Hp.at_take hi) (Hp.at_take hj), hs.os, hs.tape, hs.out⟩

/-- What a piece of code may come to, by a script's words. -/
def altPost (R : RO) : Sc → Exit' → St → RO → Prop
  | .alt X q out _ rest, e, s', G => (G = R ∧ ∃ x : X, q x ∧ e = (out x).1 ∧ s'.cut (out x).2) ∨ altPost R rest e s' G
  | .altG X q out _ rest, e, s', G => (∃ x : X, q x G ∧ e = (out x).1 ∧ s'.cut (out x).2) ∨ altPost R rest e s' G
  | _, _, _, _ => False

def altK (R : RO) (K : Exit' → St → RO → Sc → Prop) : Sc → Prop
  | .alt X q out k rest => (∀ x : X, q x → K (out x).1 (out x).2 R (k x)) ∧ altK R K rest
  | .altG X q out k rest => (∀ (x : X) (G : RO), R.le G → q x G → K (out x).1 (out x).2 G (k x)) ∧ altK R K rest
  | _ => True

section
variable (P : Program)

def wops (all : Array Oper) : List Oper → St → RO → Sc → (St → RO → Sc → Prop) → (Value → St → RO → Sc → Prop) → Prop
  | [], s, R, sc, k, kp => k s R sc
  | o :: l, s, R, sc, k, kp => pre sc s fun s sc => match gd all s.tm o with
    | some true => match sc with
      | .op h sc' => (eff P o s R h).run s R o.dst (fun s' R' => wops all l s' R' sc' k kp) (fun v s' R' => kp v s' R' sc')
      | .opn i kk => match effN P o s i with
        | .new f => ∀ a : Nat, wops all l (s.set o.dst (f a).1 (f a).2) R (kk a) k kp
        | _ => False
      | .opp fp nn X q g kk => match pcOf (ev s.tm) o, nodupN (fp ++ nn), freshN s.hp nn with
        | some c, true, true => PrimOK P c R (fp.map s.hp.at) X q g ∧ ∀ x : X, q x → wops all l (s.set o.dst (g x).1 (zipU (fp ++ nn) (g x).2)) R (kk x) k kp
        | _, _, _ => False
      | .opx fp nn X g kk => match pureE P (execOp (ev s.tm) o), nodupN (fp ++ nn), freshN s.hp nn with
        | some (f, args), true, true => Does P f args.toList R (fp.map s.hp.at) (fun r G B => G = R ∧ ∃ x, r = .ret (g x).1 ∧ B = (g x).2) ∧
            ∀ x : X, wops all l (s.set o.dst (g x).1 (zipU (fp ++ nn) (g x).2)) R (kk x) k kp
        | _, _, _ => False
      | .opg fp nn X q g kk => match pureE P (execOp (ev s.tm) o), nodupN (fp ++ nn), freshN s.hp nn with
        | some (f, args), true, true => Does P f args.toList R (fp.map s.hp.at) (fun r G B => ∃ x, q x G ∧ r = .ret (g x).1 ∧ B = (g x).2) ∧
            ∀ (x : X) (G : RO), R.le G → q x G → wops all l (s.set o.dst (g x).1 (zipU (fp ++ nn) (g x).2)) G (kk x) k kp
        | _, _, _ => False
      | _ => False
    | some false => wops all l ⟨put s.tm o.dst undef, s.df, s.hp⟩ R sc k kp
    | none => False

/-- A loop's rounds, one by one. -/
def unr (W : St → RO → Sc → (Exit' → St → RO → Sc → Prop) → Prop) (K : Exit' → St → RO → Sc → Prop) : Nat → St → RO → Sc → Prop
  | 0, _, _, _ => False
  | n + 1, s, R, sc => W s R sc fun e s' R' sc' => match e with
    | .normal => unr W K n s' R' sc'
    | e => K e s' R' sc'

def wp : Code → St → RO → Sc → (Exit' → St → RO → Sc → Prop) → Prop
  | .skip, s, R, sc, K => K .normal s R sc
  | .label _, s, R, sc, K => K .normal s R sc
  | .region i ops false, s, R, sc, K => pre sc s fun s sc => match sc with
    | .alt X q out k rest => CT P (.region i ops false) s R (altPost R (.alt X q out k rest)) ∧ altK R K (.alt X q out k rest)
    | .altG X q out k rest => CT P (.region i ops false) s R (altPost R (.altG X q out k rest)) ∧ altK R K (.altG X q out k rest)
    | sc => wops P ops ops.toList s R sc (fun s' R' sc' => K .normal s' R' sc') (fun v s' R' sc' => K (.panic v) s' R' sc')
  | .seq a b, s, R, sc, K => wp a s R sc fun e s' R' sc' => match e with
    | .normal => wp b s' R' sc' K
    | e => K e s' R' sc'
  | .cond c x y, s, R, sc, K => pre sc s fun s sc => match sc with
    | .alt X q out k rest => CT P (.cond c x y) s R (altPost R (.alt X q out k rest)) ∧ altK R K (.alt X q out k rest)
    | .altG X q out k rest => CT P (.cond c x y) s R (altPost R (.altG X q out k rest)) ∧ altK R K (.altG X q out k rest)
    | sc => match ev s.tm c with
      | .bool true => wp x s R sc K
      | .bool false => wp y s R sc K
      | _ => False
  | .ret, s, R, sc, K => K .ret s R sc
  | .exit i, s, R, sc, K => K (.exit i) s R sc
  | .goto i, s, R, sc, K => K (.goto i) s R sc
  | .block i c, s, R, sc, K => wp c s R sc fun e s' R' sc' => match e with
    | .exit j => match Nat.beq j i with
      | true => K .normal s' R' sc'
      | false => K (.exit j) s' R' sc'
    | e => K e s' R' sc'
  | .loop c, s, R, sc, K => pre sc s fun s sc => match sc with
    | .alt X q out k rest => CT P (.loop c) s R (altPost R (.alt X q out k rest)) ∧ altK R K (.alt X q out k rest)
    | .altG X q out k rest => CT P (.loop c) s R (altPost R (.altG X q out k rest)) ∧ altK R K (.altG X q out k rest)
    | .un 0 (.alt X q out k rest) => CT P (.loop c) s R (altPost R (.alt X q out k rest)) ∧ altK R K (.alt X q out k rest)
    | .un 0 (.altG X q out k rest) => CT P (.loop c) s R (altPost R (.altG X q out k rest)) ∧ altK R K (.altG X q out k rest)
    | .un n k => unr (fun s R sc K => wp c s R sc K) K n s R k
    | _ => False
  | .rangeFunc f ps as c, s, R, sc, K => pre sc s fun s sc => match sc with
    | .alt X q out k rest => CT P (.rangeFunc f ps as c) s R (altPost R (.alt X q out k rest)) ∧ altK R K (.alt X q out k rest)
    | .altG X q out k rest => CT P (.rangeFunc f ps as c) s R (altPost R (.altG X q out k rest)) ∧ altK R K (.altG X q out k rest)
    | _ => False
  | .region i ops true, s, R, sc, K => pre sc s fun s sc => match sc with
    | .alt X q out k rest => CT P (.region i ops true) s R (altPost R (.alt X q out k rest)) ∧ altK R K (.alt X q out k rest)
    | .altG X q out k rest => CT P (.region i ops true) s R (altPost R (.altG X q out k rest)) ∧ altK R K (.altG X q out k rest)
    | .un _ (.alt X q out k rest) => CT P (.region i ops true) s R (altPost R (.alt X q out k rest)) ∧ altK R K (.alt X q out k rest)
    | .un _ (.altG X q out k rest) => CT P (.region i ops true) s R (altPost R (.altG X q out k rest)) ∧ altK R K (.altG X q out k rest)
    | .dr hs k => match P.follows .mixedOrders, drawOK ops hs with
      | true, true => wopsD P ops ops.toList hs s R (fun s' R' => K .normal s' R' k)
      | _, _ => False
    | _ => False
  | .scope _, _, _, _, _ => False
  | .refuse _, _, _, _, _ => False

variable {P}

theorem wops_sound {all : Array Oper} (hall : ∀ i, i < all.size → True) : ∀ (l : List Nat) (ol : List Oper) (_ : l.map (all[·]?) = ol.map some) (s : St) (R : RO) (sc : Sc)
    (k : St → RO → Sc → Prop) (kp : Value → St → RO → Sc → Prop), wops P all ol s R sc k kp → ∀ Rx w, R.le Rx → Sat w Rx s.hp →
    wpOps P all (Lift R Rx fun e s' G => match e with
      | .normal => ∃ sc', k s' G sc'
      | .panic v => ∃ sc', kp v s' G sc'
      | _ => False) l s.act w
  | [], [], _, s, R, sc, k, kp, h, Rx, w, hR, hs => ⟨.normal, s, R, Rx, rfl, rfl, ⟨sc, h⟩, .refl hR, hs⟩
  | [], _ :: _, hm, s, R, sc, k, kp, h, Rx, w, hR, hs => by simp at hm
  | _ :: _, [], hm, s, R, sc, k, kp, h, Rx, w, hR, hs => by simp at hm
  | i :: l, o :: ol, hm, s, R, sc, k, kp, h, Rx, w, hR, hs => by
    simp only [List.map_cons, List.cons.injEq] at hm
    obtain ⟨hi, hm⟩ := hm
    simp only [wops] at h
    obtain ⟨sc, h⟩ := pre_sound h
    simp only [wpOps, hi]
    split at h
    · rename_i hg
      rw [gd_spec hg]
      simp only [if_true]
      split at h
      · rename_i hh sc'
        left
        refine eff_ok P o s R hh _ _ h Rx w hR hs _ _ ?_ ?_
        · intro s' G Rx' w' hk hx hs'
          have ih := wops_sound hall l ol hm s' G sc' k kp hk Rx' w' hx.leg hs'
          exact wpOps_mono (fun e a w hl => Lift.later hx hl) ih
        · intro v s' G Rx' w' hk hx hs'
          exact ⟨.panic v, s', G, Rx', rfl, rfl, ⟨_, hk⟩, hx, hs'⟩
      · rename_i i' kk
        split at h
        · rename_i f hf
          left
          have hE := effN_ok P o s R i'
          rw [hf] at hE
          refine hE (fun s' G => ∃ sc', wops P all ol s' G sc' k kp) (fun _ _ _ => False) (fun a => ⟨_, h a⟩) Rx w hR hs _ _ ?_ (fun v s' G Rx' w' hk => hk.elim)
          intro s' G Rx' w' ⟨sc', hk⟩ hx hs'
          exact wpOps_mono (fun e a w hl => Lift.later hx hl) (wops_sound hall l ol hm s' G sc' k kp hk Rx' w' hx.leg hs')
        · exact h.elim
      · rename_i fp nn X q g kk
        split at h
        · rename_i c h1 h2 h3
          left
          refine EffOK.prim (P := P) (o := o) (s := s) (R := R) (X := X) (q := q) (g := g) h1 h2 h3 (fun s' G => ∃ sc', wops P all ol s' G sc' k kp) (fun _ _ _ => False) ⟨h.1, fun x hx => ⟨_, h.2 x hx⟩⟩ Rx w hR hs _ _ ?_ (fun v s' G Rx' w' hk => hk.elim)
          intro s' G Rx' w' ⟨sc', hk⟩ hx hs'
          exact wpOps_mono (fun e a w hl => Lift.later hx hl) (wops_sound hall l ol hm s' G sc' k kp hk Rx' w' hx.leg hs')
        · exact h.elim
      · rename_i fp nn X g kk
        split at h
        · rename_i f args h1 h2 h3
          left
          refine EffOK.call (P := P) (o := o) (s := s) (R := R) (X := X) (g := g) h1 h2 h3 (fun s' G => ∃ sc', wops P all ol s' G sc' k kp) (fun _ _ _ => False) ⟨h.1, fun x _ => ⟨_, h.2 x⟩⟩ Rx w hR hs _ _ ?_ (fun v s' G Rx' w' hk => hk.elim)
          intro s' G Rx' w' ⟨sc', hk⟩ hx hs'
          exact wpOps_mono (fun e a w hl => Lift.later hx hl) (wops_sound hall l ol hm s' G sc' k kp hk Rx' w' hx.leg hs')
        · exact h.elim
      · rename_i fp nn X q g kk
        split at h
        · rename_i f args h1 h2 h3
          left
          refine EffOK.callG (P := P) (o := o) (s := s) (R := R) (X := X) (q := q) (g := g) h1 h2 h3 (fun s' G => ∃ sc', wops P all ol s' G sc' k kp) (fun _ _ _ => False) ⟨h.1, fun x G hG hq => ⟨_, h.2 x G hG hq⟩⟩ Rx w hR hs _ _ ?_ (fun v s' G Rx' w' hk => hk.elim)
          intro s' G Rx' w' ⟨sc', hk⟩ hx hs'
          exact wpOps_mono (fun e a w hl => Lift.later hx hl) (wops_sound hall l ol hm s' G sc' k kp hk Rx' w' hx.leg hs')
        · exact h.elim
      · exact h.elim
    · rename_i hg
      rw [gd_spec hg]
      simp only [Bool.false_eq_true, if_false]
      have ih := wops_sound hall l ol hm _ R sc k kp h Rx w hR hs
      rw [St.put_act]
      exact ih
    · exact h.elim
theorem range_map_toList (ops : Array Oper) : (List.range ops.size).map (ops[·]?) = ops.toList.map some := by
  apply List.ext_getElem?
  intro i
  by_cases hi : i < ops.size
  · simp [hi]
  · simp [hi]

theorem alt_sound {c : Code} {s : St} {R : RO} {K : Exit' → St → RO → Sc → Prop} {sc : Sc} (h : CT P c s R (altPost R sc) ∧ altK R K sc) :
    CT P c s R fun e s' G => ∃ sc', K e s' G sc' := fun Rx w hR hs => wp_mono (h.1 Rx w hR hs) fun e a w' hl => by
  obtain ⟨e', s', G, Rx', h1, h2, h3, h6, h7⟩ := hl
  have key : ∀ (sc : Sc), altPost R sc e' s' G → altK R K sc → ∃ t, s'.cut t ∧ ∃ sc', K e' t G sc' := by
    intro sc
    induction sc with
    | alt X q out k rest _ ih =>
      intro hp hk
      rcases hp with ⟨rfl, x, hq, rfl, hc⟩ | hp
      · exact ⟨_, hc, k x, hk.1 x hq⟩
      · exact ih hp hk.2
    | altG X q out k rest _ ih =>
      intro hp hk
      rcases hp with ⟨x, hq, rfl, hc⟩ | hp
      · exact ⟨_, hc, k x, hk.1 x G h6.le hq⟩
      · exact ih hp hk.2
    | _ => intro hp; exact hp.elim
  obtain ⟨t, hc, hk⟩ := key sc h3 h.2
  exact ⟨e', t, G, Rx', h1, by rw [h2, St.cut_act hc], hk, h6, St.cut_sat hc h7⟩

theorem unr_sound {c : Code} (hc : ∀ (s : St) (R : RO) (sc : Sc) (K : Exit' → St → RO → Sc → Prop), wp P c s R sc K → CT P c s R fun e s' G => ∃ sc', K e s' G sc')
    {K : Exit' → St → RO → Sc → Prop} : ∀ (n : Nat) (s : St) (R : RO) (sc : Sc), unr (fun s R sc K => wp P c s R sc K) K n s R sc → ∀ Rx w, R.le Rx → Sat w Rx s.hp → ∀ b k cs,
      ∃ e a' w', Lift R Rx (fun e s' G => ∃ sc', K e s' G sc') e a' w' ∧ Arrives P (lone (b.at s.act (.code c :: .inLoop c :: k)) cs w) b k cs e a' w'
  | 0, s, R, sc, h => h.elim
  | n + 1, s, R, sc, h => fun Rx w hR hs b k cs => by
    simp only [unr] at h
    obtain ⟨e, a₁, w₁, ⟨e', s', G', Rx', rfl, rfl, ⟨sc', hq⟩, hx, hs'⟩, harr⟩ := hc s R sc _ h Rx w hR hs b (.inLoop c :: k) cs
    cases e' with
    | normal =>
      obtain ⟨e₂, a₂, w₂, hq₂, harr₂⟩ := unr_sound hc n s' G' sc' hq Rx' w₁ hx.leg hs' b k cs
      exact ⟨e₂, a₂, w₂, Lift.later hx hq₂, .of_steps (Steps.trans harr (.one step_inLoop)) harr₂⟩
    | exit id => exact ⟨_, s'.act, w₁, ⟨.exit id, s', G', Rx', rfl, rfl, ⟨sc', hq⟩, hx, hs'⟩, .pass (x := .inLoop c) rfl (fun _ _ => .inl (by simp [Exit'.to])) harr⟩
    | goto l => exact ⟨_, s'.act, w₁, ⟨.goto l, s', G', Rx', rfl, rfl, ⟨sc', hq⟩, hx, hs'⟩, .pass (x := .inLoop c) rfl (fun _ _ => .inl (by simp [Exit'.to])) harr⟩
    | ret => exact ⟨_, s'.act, w₁, ⟨.ret, s', G', Rx', rfl, rfl, ⟨sc', hq⟩, hx, hs'⟩, .pass (x := .inLoop c) rfl (fun _ _ => .inl (by simp [Exit'.to])) harr⟩
    | panic v => exact ⟨_, s'.act, w₁, ⟨.panic v, s', G', Rx', rfl, rfl, ⟨sc', hq⟩, hx, hs'⟩, .pass (x := .inLoop c) rfl (fun _ _ => .inl (by simp [Exit'.to])) harr⟩

theorem wp_sound : ∀ (c : Code) (s : St) (R : RO) (sc : Sc) (K : Exit' → St → RO → Sc → Prop), wp P c s R sc K → CT P c s R fun e s' G => ∃ sc', K e s' G sc'
  | .skip, s, R, sc, K, h => fun Rx w hR hs => Go.wp_skip ⟨.normal, s, R, Rx, rfl, rfl, ⟨sc, h⟩, .refl hR, hs⟩
  | .label _, s, R, sc, K, h => fun Rx w hR hs => Go.wp_label ⟨.normal, s, R, Rx, rfl, rfl, ⟨sc, h⟩, .refl hR, hs⟩
  | .ret, s, R, sc, K, h => fun Rx w hR hs => Go.wp_ret ⟨.ret, s, R, Rx, rfl, rfl, ⟨sc, h⟩, .refl hR, hs⟩
  | .exit i, s, R, sc, K, h => fun Rx w hR hs => Go.wp_exit ⟨.exit i, s, R, Rx, rfl, rfl, ⟨sc, h⟩, .refl hR, hs⟩
  | .goto i, s, R, sc, K, h => fun Rx w hR hs => Go.wp_goto ⟨.goto i, s, R, Rx, rfl, rfl, ⟨sc, h⟩, .refl hR, hs⟩
  | .region i ops false, s, R, sc, K, h => by
    simp only [wp] at h
    obtain ⟨sc', h⟩ := pre_sound h
    split at h
    · exact alt_sound h
    · exact alt_sound h
    rename_i sc' _ _
    intro Rx w hR hs
    have := wops_sound (fun _ _ => trivial) _ _ (range_map_toList ops) s R _ _ _ h Rx w hR hs
    refine Go.wp_region (wpOps_mono (fun e a w hl => Lift.mono ?_ hl) this)
    intro e s' G _ hk
    cases e <;> first | exact hk | exact hk.elim
  | .seq a b, s, R, sc, K, h => fun Rx w hR hs => by
    simp only [wp] at h
    have ha := wp_sound a s R sc _ h Rx w hR hs
    refine Go.wp_seq (wp_mono ha ?_)
    rintro e a' w' ⟨e', s', G, Rx', rfl, rfl, ⟨sc', hk⟩, hx, hs'⟩
    cases e' with
    | normal =>
      have hb := wp_sound b s' G sc' K hk Rx' w' hx.leg hs'
      exact wp_mono hb fun e a w hl => Lift.later hx hl
    | exit i => exact ⟨.exit i, s', G, Rx', rfl, rfl, ⟨sc', hk⟩, hx, hs'⟩
    | goto i => exact ⟨.goto i, s', G, Rx', rfl, rfl, ⟨sc', hk⟩, hx, hs'⟩
    | ret => exact ⟨.ret, s', G, Rx', rfl, rfl, ⟨sc', hk⟩, hx, hs'⟩
    | panic v => exact ⟨.panic v, s', G, Rx', rfl, rfl, ⟨sc', hk⟩, hx, hs'⟩
  | .cond c x y, s, R, sc, K, h => by
    simp only [wp] at h
    obtain ⟨sc', h⟩ := pre_sound h
    split at h
    · exact alt_sound h
    · exact alt_sound h
    · intro Rx w hR hs
      split at h
      · rename_i hc
        exact Go.wp_cond_true (by rw [St.eval]; exact hc) (wp_sound x s R _ K h Rx w hR hs)
      · rename_i hc
        exact Go.wp_cond_false (by rw [St.eval]; exact hc) (wp_sound y s R _ K h Rx w hR hs)
      · exact h.elim
  | .block i c, s, R, sc, K, h => fun Rx w hR hs => by
    simp only [wp] at h
    have ha := wp_sound c s R sc _ h Rx w hR hs
    refine Go.wp_block (wp_mono ha ?_)
    rintro e a' w' ⟨e', s', G, Rx', rfl, rfl, ⟨sc', hk⟩, hx, hs'⟩
    cases e' with
    | exit j =>
      simp only at hk
      show (if j = i then _ else _)
      split at hk
      · rename_i hb
        rw [if_pos (Nat.eq_of_beq_eq_true hb)]
        exact ⟨.normal, s', G, Rx', rfl, rfl, ⟨sc', hk⟩, hx, hs'⟩
      · rename_i hb
        rw [if_neg (Nat.ne_of_beq_eq_false hb)]
        exact ⟨.exit j, s', G, Rx', rfl, rfl, ⟨sc', hk⟩, hx, hs'⟩
    | normal => exact ⟨.normal, s', G, Rx', rfl, rfl, ⟨sc', hk⟩, hx, hs'⟩
    | goto i => exact ⟨.goto i, s', G, Rx', rfl, rfl, ⟨sc', hk⟩, hx, hs'⟩
    | ret => exact ⟨.ret, s', G, Rx', rfl, rfl, ⟨sc', hk⟩, hx, hs'⟩
    | panic v => exact ⟨.panic v, s', G, Rx', rfl, rfl, ⟨sc', hk⟩, hx, hs'⟩
  | .loop c, s, R, sc, K, h => by
    simp only [wp] at h
    obtain ⟨sc', h⟩ := pre_sound h
    split at h
    · exact alt_sound h
    · exact alt_sound h
    · exact alt_sound h
    · exact alt_sound h
    · intro Rx w hR hs b k cs
      obtain ⟨e, a', w', h1, h2⟩ := unr_sound (fun s R sc K h => wp_sound c s R sc K h) _ _ _ _ h Rx w hR hs b k cs
      exact ⟨e, a', w', h1, .of_steps (.one step_loop) h2⟩
    · exact h.elim
  | .rangeFunc f ps as c, s, R, sc, K, h => by
    simp only [wp] at h
    obtain ⟨sc', h⟩ := pre_sound h
    split at h
    · exact alt_sound h
    · exact alt_sound h
    · exact h.elim
  | .region i ops true, s, R, sc, K, h => by
    simp only [wp] at h
    obtain ⟨sc', h⟩ := pre_sound h
    split at h
    · exact alt_sound h
    · exact alt_sound h
    · exact alt_sound h
    · exact alt_sound h
    · split at h
      · rename_i h1 h2
        refine (draw_sound h1 h2 h).mono fun e s' G _ hk => ?_
        cases e <;> first | exact ⟨_, hk⟩ | exact hk.elim
      · exact h.elim
    · exact h.elim
  | .scope _, _, _, _, _, h => h.elim
  | .refuse _, _, _, _, _, h => h.elim

/-! ## A whole function -/

variable (P)

def resK : List ResultVar → List (Nat × Option Value) → St → List Value → (List Value → Prop) → Prop
  | [], _, s, acc, k => k acc.reverse
  | .tmp t :: rs, rp, s, acc, k => resK rs rp s (tget s.tm t :: acc) k
  | .cell a t :: rs, (i, none) :: rp, s, acc, k => match tget s.tm a, s.hp.at i with
    | .pointer (some ⟨b, off, none⟩), some (ad, .row cs _ _) => match readVar P t cs off with
      | some v => b = ad ∧ resK rs rp s (v :: acc) k
      | none => False
    | _, _ => False
  | .cell a t :: rs, (i, some v) :: rp, s, acc, k => match tget s.tm a, s.hp.at i with
    | .pointer (some ⟨b, off, none⟩), some (ad, .row cs _ _) => (b = ad ∧ readVar P t cs off = some v) ∧ resK rs rp s (v :: acc) k
    | _, _ => False
  | .cell a t :: rs, [], s, acc, k => False

def tupV : List Value → Value
  | [v] => v
  | vs => .tuple vs.toArray

def Fin (fn : Func) (Q : Out → RO → Hp → Prop) : Exit' → St → RO → Sc → Prop
  | .normal, s, R, .fin keep rp => match s.df, nodupN keep with
    | [], true => resK P fn.results.toList rp s [] fun vs => Q (.ret (tupV vs)) R (keep.map s.hp.at)
    | _, _ => False
  | .ret, s, R, .fin keep rp => match s.df, nodupN keep with
    | [], true => resK P fn.results.toList rp s [] fun vs => Q (.ret (tupV vs)) R (keep.map s.hp.at)
    | _, _ => False
  | .panic v, s, R, .fin keep rp => match s.df, nodupN keep with
    | [], true => Q (.pan v) R (keep.map s.hp.at)
    | _, _ => False
  | _, _, _, _ => False

variable {P}

def resOne (s : St) : ResultVar → Sem Value
  | .tmp t => pure (s.tm.toArray.getD t undef)
  | .cell a t => do loadVar t (← asAddr (s.tm.toArray.getD a undef))

theorem resK_sound {w : World} {Rx : RO} {s : St} (hs : Sat w Rx s.hp) : ∀ (rs : List ResultVar) (rp : List (Nat × Option Value)) (acc : List Value) (k : List Value → Prop),
    resK P rs rp s acc k → ∃ vs, (rs.mapM (resOne s)).run P w = .ok vs w ∧ k (acc.reverse ++ vs)
  | [], rp, acc, k, h => ⟨[], by simp, by simpa [resK] using h⟩
  | .tmp t :: rs, rp, acc, k, h => by
    simp only [resK] at h
    obtain ⟨vs, h1, h2⟩ := resK_sound hs rs rp _ k h
    refine ⟨tget s.tm t :: vs, ?_, by simpa using h2⟩
    rw [List.mapM_cons]
    simp [resOne, h1, tget_eq]
  | .cell a t :: rs, (i, none) :: rp, acc, k, h => by
    simp only [resK] at h
    split at h
    · rename_i b off ad cs t' n ha hi
      split at h
      · rename_i v hv
        obtain ⟨rfl, h⟩ := h
        obtain ⟨vs, h1, h2⟩ := resK_sound hs rs rp _ k h
        refine ⟨v :: vs, ?_, by simpa using h2⟩
        rw [tget_eq] at ha
        rw [List.mapM_cons]
        simp only [resOne, Sem.run_bind, ha, asAddr, Sem.run_pure, Result.andThen_ok, run_loadVar_of (P := P) (t := t) (fun i x hx => Blk.cells (hs.own _ _ _ hi) i x hx) hv, h1]
      · exact h.elim
    · exact h.elim
  | .cell a t :: rs, (i, some v) :: rp, acc, k, h => by
    simp only [resK] at h
    split at h
    · rename_i b off ad cs t' n ha hi
      obtain ⟨⟨rfl, hv⟩, h⟩ := h
      obtain ⟨vs, h1, h2⟩ := resK_sound hs rs rp _ k h
      refine ⟨v :: vs, ?_, by simpa using h2⟩
      rw [tget_eq] at ha
      rw [List.mapM_cons]
      simp only [resOne, Sem.run_bind, ha, asAddr, Sem.run_pure, Result.andThen_ok, run_loadVar_of (P := P) (t := t) (fun i x hx => Blk.cells (hs.own _ _ _ hi) i x hx) hv, h1]
    · exact h.elim
  | .cell a t :: rs, [], acc, k, h => h.elim

theorem results_run {w : World} {s : St} {fn : Func} {vs : List Value} (h : (fn.results.toList.mapM (resOne s)).run P w = .ok vs w) :
    (results fn s.tm.toArray).run P w = .ok (tupV vs) w := by
  have he : results fn s.tm.toArray = (do let vs ← fn.results.mapM (resOne s); pure (if h : vs.size = 1 then vs[0] else .tuple vs)) := by
    unfold results
    congr 1
  rw [he, Array.mapM_eq_mapM_toList]
  simp only [Sem.run_bind, Sem.run_map, h, Result.andThen_ok, Sem.run_pure]
  congr 1
  rcases vs with _ | ⟨v, _ | ⟨u, vs⟩⟩ <;> simp [tupV]

theorem Sat.keep {w : World} {R : RO} {H : Hp} {l : List Nat} (h : Sat w R H) (hd : l.Nodup) : Sat w R (l.map H.at) := by
  refine ⟨h.ro, fun j a B hj => ?_, fun j a B hj => ?_, fun j k a B C hj hk => ?_, h.os, h.tape, h.out⟩
  · obtain ⟨i, h1, h2⟩ := at_map_fp hj
    exact h.own i a B h2
  · obtain ⟨i, h1, h2⟩ := at_map_fp hj
    exact h.off i a B h2
  · obtain ⟨i, h1, h2⟩ := at_map_fp hj
    obtain ⟨i', h3, h4⟩ := at_map_fp hk
    have := h.one _ _ _ _ _ h2 h4
    subst this
    have h5 : j < l.length := by
      rcases Nat.lt_or_ge j l.length with h | h
      · exact h
      · simp [List.getElem?_eq_none h] at h1
    exact (List.getElem?_inj h5 hd).1 (h1.trans h3.symm)

def entry (fn : Func) (args : List Value) (H : Hp) : St := ⟨args ++ List.replicate (fn.ntmps - args.length) undef, [], H⟩

theorem Does.of_ct {f : FuncId} {fn : Func} {c : Code} {args : List Value} {R : RO} {H : Hp} {Q : Out → RO → Hp → Prop}
    (hf : P.funcs[f]? = some fn) (hb : fn.body = some c) (h : CT P c (entry fn args H) R fun e s G => ∃ sc, Fin P fn Q e s G sc) : Does P f args R H Q := by
  intro Rx w hR hs
  refine calls_of_wp hf hb ?_
  have := h Rx w hR hs
  have ha : (entry fn args H).act = { tmps := args.toArray ++ Array.replicate (fn.ntmps - args.toArray.size) undef, defers := [] } := by
    simp [entry, St.act]
  rw [ha] at this
  refine wp_mono this ?_
  rintro e a w' ⟨e', s, G, Rx', rfl, rfl, ⟨sc, hk⟩, hx, hs'⟩
  have hret : (match s.df, sc with
      | [], .fin keep rp => nodupN keep = true ∧ resK P fn.results.toList rp s [] fun vs => Q (.ret (tupV vs)) G (keep.map s.hp.at)
      | _, _ => False) → s.act.defers = [] ∧ ∃ v, (results fn s.act.tmps).run P w' = .ok v w' ∧
        (∃ o G H' Rx', Ending.returned v = Out.fin o ∧ Q o G H' ∧ Ext R Rx G Rx' ∧ Sat w' Rx' H') := by
    intro h
    split at h
    · rename_i keep rp hk' hdf
      obtain ⟨h0, h⟩ := h
      obtain ⟨vs, h1, h2⟩ := resK_sound hs' _ _ _ _ h
      exact ⟨hdf, _, results_run h1, .ret (tupV vs), G, keep.map s.hp.at, Rx', rfl, by simpa using h2, hx, hs'.keep (nodupN_spec h0)⟩
    · exact h.elim
  cases e' with
  | normal =>
    refine hret ?_
    unfold Fin at hk
    cases sc <;> simp only at hk <;> try exact hk.elim
    split at hk
    · rename_i h1 h2; simp only [h1]; exact ⟨h2, hk⟩
    · exact hk.elim
  | ret =>
    refine hret ?_
    unfold Fin at hk
    cases sc <;> simp only at hk <;> try exact hk.elim
    split at hk
    · rename_i h1 h2; simp only [h1]; exact ⟨h2, hk⟩
    · exact hk.elim
  | panic v =>
    unfold Fin at hk
    cases sc <;> simp only at hk <;> try exact hk.elim
    split at hk
    · rename_i h1 h2
      exact ⟨h1, .pan v, G, _, Rx', rfl, hk, hx, hs'.keep (nodupN_spec h2)⟩
    · exact hk.elim
  | exit i => unfold Fin at hk; cases sc <;> exact hk.elim
  | goto i => unfold Fin at hk; cases sc <;> exact hk.elim

theorem Does.of_wp {f : FuncId} {fn : Func} {c : Code} {args : List Value} {R : RO} {H : Hp} {Q : Out → RO → Hp → Prop} (sc : Sc)
    (hf : P.funcs[f]? = some fn) (hb : fn.body = some c) (h : wp P c (entry fn args H) R sc (Fin P fn Q)) : Does P f args R H Q :=
  Does.of_ct hf hb (wp_sound _ _ _ _ _ h)


theorem Does.of_wp_eq {f : FuncId} {fn : Func} {args : List Value} {R : RO} {H : Hp} {Q : Out → RO → Hp → Prop} {VC : Prop} (sc : Sc)
    (hf : P.funcs[f]? = some fn) (hb : fn.body = some (fn.body.getD .skip)) (he : wp P (fn.body.getD .skip) (entry fn args H) R sc (Fin P fn Q) = VC) (h : VC) : Does P f args R H Q :=
  Does.of_wp sc hf hb (he ▸ h)

theorem CT.of_wp_eq {c : Code} {s : St} {R : RO} {K : Exit' → St → RO → Prop} {VC : Prop} (sc : Sc)
    (he : wp P c s R sc (fun e s' G _ => K e s' G) = VC) (h : VC) : CT P c s R K :=
  (wp_sound c s R sc _ (he ▸ h)).mono fun e s' G _ ⟨_, hk⟩ => hk

/-- What a round of a loop is to come to. -/
def LK {ι : Type} (inv : ι → St) (I : ι → RO → Prop) (μ : ι → Nat) (K : Exit' → St → RO → Prop) (i : ι) : Exit' → St → RO → Prop := fun e s' G' => match e with
  | .normal => ∃ j, I j G' ∧ μ j < μ i ∧ s'.cut (inv j)
  | e => K e s' G'

/-- A loop: states by an index, that go down by a measure. -/
theorem CT.loop {ι : Type} (inv : ι → St) (I : ι → RO → Prop) (μ : ι → Nat) {c : Code} {R : RO} {K : Exit' → St → RO → Prop} (i₀ : ι) (h₀ : I i₀ R)
    (hb : ∀ i G, R.le G → I i G → CT P c (inv i) G (LK inv I μ K i)) : CT P (.loop c) (inv i₀) R K := by
  intro Rx₀ w₀ hR₀ hs₀ b k cs
  have key : ∀ n i G Rx w, μ i = n → I i G → Ext R Rx₀ G Rx → Sat w Rx (inv i).hp →
      ∃ e a' w', Lift R Rx₀ K e a' w' ∧ Arrives P (lone (b.at (inv i).act (.code c :: .inLoop c :: k)) cs w) b k cs e a' w' := by
    intro n
    induction n using Nat.strongRecOn with
    | _ n ih =>
      intro i G Rx w hn hI hx hs
      obtain ⟨e, a₁, w₁, ⟨e', s', G', Rx', rfl, rfl, hq, hx', hs'⟩, harr⟩ := hb i G hx.le hI Rx w hx.leg hs b (.inLoop c :: k) cs
      have hxx := hx.trans hx'
      cases e' with
      | normal =>
        obtain ⟨j, hj, hlt, hcut⟩ := hq
        obtain ⟨e₂, a₂, w₂, hq₂, harr₂⟩ := ih (μ j) (hn ▸ hlt) j G' Rx' w₁ rfl hj hxx (St.cut_sat hcut hs')
        rw [← St.cut_act hcut] at harr₂
        exact ⟨e₂, a₂, w₂, hq₂, .of_steps (Steps.trans harr (.one step_inLoop)) harr₂⟩
      | exit id => exact ⟨_, s'.act, w₁, ⟨.exit id, s', G', Rx', rfl, rfl, hq, hxx, hs'⟩, .pass (x := .inLoop c) rfl (fun _ _ => .inl (by simp [Exit'.to])) harr⟩
      | goto l => exact ⟨_, s'.act, w₁, ⟨.goto l, s', G', Rx', rfl, rfl, hq, hxx, hs'⟩, .pass (x := .inLoop c) rfl (fun _ _ => .inl (by simp [Exit'.to])) harr⟩
      | ret => exact ⟨_, s'.act, w₁, ⟨.ret, s', G', Rx', rfl, rfl, hq, hxx, hs'⟩, .pass (x := .inLoop c) rfl (fun _ _ => .inl (by simp [Exit'.to])) harr⟩
      | panic v => exact ⟨_, s'.act, w₁, ⟨.panic v, s', G', Rx', rfl, rfl, hq, hxx, hs'⟩, .pass (x := .inLoop c) rfl (fun _ _ => .inl (by simp [Exit'.to])) harr⟩
  obtain ⟨e, a', w', hq, harr⟩ := key _ i₀ R Rx₀ w₀ rfl h₀ (.refl hR₀) hs₀
  exact ⟨e, a', w', hq, .of_steps (.one step_loop) harr⟩

theorem CT.loop_eq {ι : Type} (inv : ι → St) (I : ι → RO → Prop) (μ : ι → Nat) {c c' : Code} {s : St} {R : RO} {K : Exit' → St → RO → Prop} (i₀ : ι) (hc : c' = .loop c) (hs : s = inv i₀) (h₀ : I i₀ R)
    (hb : ∀ i G, R.le G → I i G → CT P c (inv i) G (LK inv I μ K i)) : CT P c' s R K := by
  subst hc; subst hs; exact CT.loop inv I μ i₀ h₀ hb

theorem LKn {ι : Type} {inv : ι → St} {I : ι → RO → Prop} {μ : ι → Nat} {K : Exit' → St → RO → Prop} {i : ι} {s : St} {G : RO} (f : (Nat → Value) → ι)
    (h : I (f (tget s.tm)) G ∧ μ (f (tget s.tm)) < μ i ∧ s.cut (inv (f (tget s.tm)))) : LK inv I μ K i .normal s G := ⟨_, h⟩
theorem altA {R : RO} {X : Type} {q : X → Prop} {out : X → Exit' × St} {rest : Sc} {e : Exit'} {s : St} (f : (Nat → Value) → X)
    (h : q (f (tget s.tm)) ∧ e = (out (f (tget s.tm))).1 ∧ s.cut (out (f (tget s.tm))).2) : altPost R (.alt X q out (fun _ => .altn) rest) e s R := Or.inl ⟨rfl, _, h⟩
theorem CT.loop_eqs {ι : Type} (inv : ι → St) (I : ι → RO → Prop) (μ : ι → Nat) {c c' : Code} {s : St} {R : RO} {K : Exit' → St → RO → Prop} (f : (Nat → Value) → ι) (hc : c' = .loop c) (hs : s = inv (f (tget s.tm))) (h₀ : I (f (tget s.tm)) R)
    (hb : ∀ i G, R.le G → I i G → CT P c (inv i) G (LK inv I μ K i)) : CT P c' s R K :=
  CT.loop_eq inv I μ (f (tget s.tm)) hc hs h₀ hb

/-- Names more, that stand for nothing. -/
theorem Hp.at_nones {x : Nat × Blk} : ∀ {k i : Nat}, Hp.at (List.replicate k none) i = some x → False
  | 0, i, h => by simp [Hp.at_nil] at h
  | k + 1, 0, h => by simp [List.replicate_succ, Hp.at] at h
  | k + 1, i + 1, h => by
    simp only [List.replicate_succ, Hp.at] at h
    exact Hp.at_nones h
theorem Hp.at_pad {k : Nat} : ∀ {H : Hp} {i : Nat} {x : Nat × Blk}, Hp.at (H ++ List.replicate k none) i = some x → H.at i = some x
  | [], i, x, h => (Hp.at_nones (by simpa only [List.nil_append] using h)).elim
  | a :: H, 0, x, h => by simpa [Hp.at] using h
  | a :: H, i + 1, x, h => by
    simp only [List.cons_append, Hp.at] at h ⊢
    exact Hp.at_pad h
theorem CT.pad (k : Nat) {c : Code} {s : St} {R : RO} {K : Exit' → St → RO → Prop} (h : CT P c ⟨s.tm, s.df, s.hp ++ List.replicate k none⟩ R K) : CT P c s R K := fun Rx w hR hs =>
  h Rx w hR ⟨hs.ro, fun i a B hi => hs.own i a B (Hp.at_pad hi), fun i a B hi => hs.off i a B (Hp.at_pad hi), fun i j a B C hi hj => hs.one i j a B C (Hp.at_pad hi) (Hp.at_pad hj), hs.os, hs.tape, hs.out⟩

theorem not_t {b : Bool} (h : (!b) = true) : b = false := by cases b <;> simp_all
theorem not_f {b : Bool} (h : (!b) = false) : b = true := by cases b <;> simp_all
theorem t_not {b : Bool} (h : b = false) : (!b) = true := by cases b <;> simp_all
theorem f_not {b : Bool} (h : b = true) : (!b) = false := by cases b <;> simp_all

/-- A piece of a function's text. -/
def sub : Code → List Nat → Code
  | c, [] => c
  | .seq a _, 0 :: l => sub a l
  | .seq _ b, _ :: l => sub b l
  | .cond _ a _, 0 :: l => sub a l
  | .cond _ _ b, _ :: l => sub b l
  | .block _ c, _ :: l => sub c l
  | .loop c, _ :: l => sub c l
  | .rangeFunc _ _ a _, 0 :: l => sub a l
  | .rangeFunc _ _ _ b, _ :: l => sub b l
  | .scope c, _ :: l => sub c l
  | c, _ => c

def bodyOf (f : Func) : Code := f.body.getD .skip

end
end Vc
