import Derived.Test.YtejpoojgbnppoaaDoorVcA
/- Vc, part B: what a call does (Does), what a piece of code does (CT), and the effects of single operations. -/
set_option linter.unusedVariables false
set_option linter.unusedSimpArgs false
namespace Vc
open Go

/-! ## Contracts -/

inductive Out where
  | ret (v : Value)
  | pan (v : Value)

def Out.fin : Out → Ending
  | .ret v => .returned v
  | .pan v => .panicked [{ v, recovered := false }]

/-- From what was known (R, in truth Rx) to what is known then (G, in truth Rx'). -/
structure Ext (R Rx G Rx' : RO) : Prop where
  le : R.le G
  lex : Rx.le Rx'
  leg : G.le Rx'
  own : ∀ b, G.mem b ≠ none → R.mem b ≠ none ∨ Rx.mem b = none

theorem Ext.refl {R Rx : RO} (h : R.le Rx) : Ext R Rx R Rx := ⟨R.le_refl, Rx.le_refl, h, fun _ h => .inl h⟩
theorem Ext.trans {R Rx G Rx' G' Rx'' : RO} (h : Ext R Rx G Rx') (h' : Ext G Rx' G' Rx'') : Ext R Rx G' Rx'' :=
  ⟨RO.le_trans h.le h'.le, RO.le_trans h.lex h'.lex, h'.leg, fun b hb => by
    rcases h'.own b hb with h1 | h1
    · exact h.own b h1
    · right
      cases hx : Rx.mem b with
      | none => rfl
      | some o => rw [h.lex.mem b o hx] at h1; cases h1⟩

def Does (P : Program) (f : FuncId) (args : List Value) (R : RO) (H : Hp) (Q : Out → RO → Hp → Prop) : Prop :=
  ∀ Rx w, R.le Rx → Sat w Rx H → Calls P f args.toArray w fun e w' =>
    ∃ o G H' Rx', e = o.fin ∧ Q o G H' ∧ Ext R Rx G Rx' ∧ Sat w' Rx' H'

theorem Does.mono {P : Program} {f : FuncId} {args : List Value} {R : RO} {H : Hp} {Q Q' : Out → RO → Hp → Prop} (h : Does P f args R H Q)
    (hq : ∀ o G H', R.le G → Q o G H' → Q' o G H') : Does P f args R H Q' :=
  fun Rx w hR hs => (h Rx w hR hs).mono fun e w' ⟨o, G, H', Rx', h1, h2, h3, h4⟩ => ⟨o, G, H', Rx', h1, hq o G H' h3.le h2, h3, h4⟩

/-- A call whose outcome is told outright: nothing more is known, and these are the blocks then. -/
def GQ (R : RO) (o : Out) (B : Hp) : Out → RO → Hp → Prop := fun r G B' => G = R ∧ r = o ∧ B' = B
def Gives (P : Program) (f : FuncId) (args : List Value) (R : RO) (H : Hp) (o : Out) (B : Hp) : Prop :=
  Does P f args R H (GQ R o B)

/-- A call that answers with something of its own making. -/
def GX (R : RO) (X : Type) (g : X → Value × Hp) : Out → RO → Hp → Prop := fun r G B => G = R ∧ ∃ x, r = .ret (g x).1 ∧ B = (g x).2
def GivesX (P : Program) (f : FuncId) (args : List Value) (R : RO) (H : Hp) (X : Type) (g : X → Value × Hp) : Prop :=
  Does P f args R H (GX R X g)

inductive Exit' where
  | normal
  | exit (id : Nat)
  | goto (l : Nat)
  | ret
  | panic (v : Value)

def Exit'.to : Exit' → Exit
  | .normal => .normal
  | .exit i => .exit i
  | .goto l => .goto l
  | .ret => .ret
  | .panic v => .panic [{ v, recovered := false }]

def Lift (R Rx : RO) (K : Exit' → St → RO → Prop) : Exit → Act → World → Prop :=
  fun e a w => ∃ e' s G Rx', e = Exit'.to e' ∧ a = s.act ∧ K e' s G ∧ Ext R Rx G Rx' ∧ Sat w Rx' s.hp

def CT (P : Program) (c : Code) (s : St) (R : RO) (K : Exit' → St → RO → Prop) : Prop :=
  ∀ Rx w, R.le Rx → Sat w Rx s.hp → c.wp P (Lift R Rx K) s.act w

theorem Lift.mono {R Rx : RO} {K K' : Exit' → St → RO → Prop} (h : ∀ e s G, R.le G → K e s G → K' e s G) {e : Exit} {a : Act} {w : World}
    (hl : Lift R Rx K e a w) : Lift R Rx K' e a w := by
  obtain ⟨e', s, G, Rx', h1, h2, h3, h4, h5⟩ := hl
  exact ⟨e', s, G, Rx', h1, h2, h _ _ _ h4.le h3, h4, h5⟩

theorem CT.mono {P : Program} {c : Code} {s : St} {R : RO} {K K' : Exit' → St → RO → Prop} (h : CT P c s R K)
    (hk : ∀ e s G, R.le G → K e s G → K' e s G) : CT P c s R K' :=
  fun Rx w hR hs => wp_mono (h Rx w hR hs) fun e a w hl => Lift.mono hk hl

theorem Lift.later {R Rx G Rx' : RO} {K : Exit' → St → RO → Prop} (hx : Ext R Rx G Rx') {e : Exit} {a : Act} {w : World}
    (hl : Lift G Rx' K e a w) : Lift R Rx K e a w := by
  obtain ⟨e', s, G', Rx'', h1, h2, h3, h4, h5⟩ := hl
  exact ⟨e', s, G', Rx'', h1, h2, h3, hx.trans h4, h5⟩

/-! ## Effects -/

abbrev Upd := List (Nat × Option (Nat × Blk))

def Hp.upds (H : Hp) : Upd → Hp
  | [] => H
  | (i, b) :: u => Hp.upds (H.put i b) u

inductive Eff where
  | no
  | val (v : Value)
  | det (p : Prop) (v : Value) (u : Upd)
  | new (f : Nat → Value × Upd)
  | gen (p : Prop) (X : Type) (g : X → Prop) (f : X → Value × Upd)
  | genG (p : Prop) (X : Type) (q : X → RO → Prop) (f : X → Value × Upd)
  | pan (v : Value)
  | panc (p : Prop) (v : Value) (u : Upd)
  | dfr (d : Deferred)

def St.set (s : St) (d : Option Tmp) (v : Value) (u : Upd) : St := ⟨put s.tm d v, s.df, s.hp.upds u⟩

def Eff.run (s : St) (R : RO) (dst : Option Tmp) (k : St → RO → Prop) (kp : Value → St → RO → Prop) : Eff → Prop
  | .no => False
  | .val v => k (s.set dst v []) R
  | .det p v u => p ∧ k (s.set dst v u) R
  | .new f => ∀ a, k (s.set dst (f a).1 (f a).2) R
  | .gen p X g f => p ∧ ∀ x : X, g x → k (s.set dst (f x).1 (f x).2) R
  | .genG p X q f => p ∧ ∀ (x : X) (G : RO), R.le G → q x G → k (s.set dst (f x).1 (f x).2) G
  | .pan v => kp v s R
  | .panc p v u => p ∧ kp v ⟨s.tm, s.df, s.hp.upds u⟩ R
  | .dfr d => k ⟨put s.tm dst undef, d :: s.df, s.hp⟩ R

theorem St.put_set (s : St) (d : Option Tmp) (v : Value) (u : Upd) : s.act.put d v = (s.set d v u).act := by
  rw [St.put_act]; rfl

/-- The effect is what the operation comes to. -/
def EffOK (P : Program) (o : Oper) (s : St) (R : RO) (E : Eff) : Prop :=
  ∀ k kp, E.run s R o.dst k kp → ∀ Rx w, R.le Rx → Sat w Rx s.hp → ∀ (next : Act → World → Prop) (Q : Exit → Act → World → Prop),
    (∀ s' G Rx' w', k s' G → Ext R Rx G Rx' → Sat w' Rx' s'.hp → next s'.act w') →
    (∀ v s' G Rx' w', kp v s' G → Ext R Rx G Rx' → Sat w' Rx' s'.hp → Q (.panic [{ v, recovered := false }]) s'.act w') →
    o.wp P s.act w next Q

section
variable {P : Program} {o : Oper} {s : St} {R : RO}

theorem EffOK.no : EffOK P o s R .no := fun _ _ h => h.elim

theorem wp_value {a : Act} {w w' : World} {next : Act → World → Prop} {Q : Exit → Act → World → Prop} {v : Value}
    (hr : (execOp a.eval o).run P w = .ok (.value v) w') (h : next (a.put o.dst v) w') : o.wp P a w next Q := by
  unfold Oper.wp; rw [hr]; exact h

theorem wp_skip' {a : Act} {w w' : World} {next : Act → World → Prop} {Q : Exit → Act → World → Prop}
    (hr : (execOp a.eval o).run P w = .ok .skip w') (h : next (a.put o.dst undef) w') : o.wp P a w next Q := by
  unfold Oper.wp; rw [hr]; exact h

theorem EffOK.val {v : Value} (h : ∀ w, (execOp (ev s.tm) o).run P w = .ok (.value v) w) : EffOK P o s R (.val v) := by
  intro k kp hk Rx w hR hs next Q hn hq
  refine wp_value (by rw [St.eval]; exact h w) ?_
  rw [St.put_act]
  exact hn _ R Rx w hk (.refl hR) hs

theorem EffOK.det0 {p : Prop} {v : Value} (h : p → ∀ w Rx, R.le Rx → Sat w Rx s.hp → (execOp (ev s.tm) o).run P w = .ok (.value v) w) :
    EffOK P o s R (.det p v []) := by
  intro k kp ⟨hp, hk⟩ Rx w hR hs next Q hn hq
  refine wp_value (by rw [St.eval]; exact h hp w Rx hR hs) ?_
  rw [St.put_act]
  exact hn _ R Rx w hk (.refl hR) hs

theorem EffOK.det {p : Prop} {v : Value} {u : Upd} (h : p → ∀ w Rx, R.le Rx → Sat w Rx s.hp →
      ∃ w', ((execOp (ev s.tm) o).run P w = .ok (.value v) w' ∨ (execOp (ev s.tm) o).run P w = .ok .skip w' ∧ v = undef) ∧ Sat w' Rx (s.hp.upds u)) :
    EffOK P o s R (.det p v u) := by
  intro k kp ⟨hp, hk⟩ Rx w hR hs next Q hn hq
  obtain ⟨w', h1, h2⟩ := h hp w Rx hR hs
  rcases h1 with h1 | ⟨h1, rfl⟩
  · refine wp_value (by rw [St.eval]; exact h1) ?_
    rw [St.put_set s _ _ u]
    exact hn _ R Rx w' hk (.refl hR) h2
  · refine wp_skip' (by rw [St.eval]; exact h1) ?_
    rw [St.put_set s _ _ u]
    exact hn _ R Rx w' hk (.refl hR) h2

theorem EffOK.new {f : Nat → Value × Upd} (h : ∀ w Rx, R.le Rx → Sat w Rx s.hp →
      ∃ a w', (execOp (ev s.tm) o).run P w = .ok (.value (f a).1) w' ∧ Sat w' Rx (s.hp.upds (f a).2)) :
    EffOK P o s R (.new f) := by
  intro k kp hk Rx w hR hs next Q hn hq
  obtain ⟨a, w', h1, h2⟩ := h w Rx hR hs
  refine wp_value (by rw [St.eval]; exact h1) ?_
  rw [St.put_set s _ _ (f a).2]
  exact hn _ R Rx w' (hk a) (.refl hR) h2

theorem EffOK.gen {p : Prop} {X : Type} {g : X → Prop} {f : X → Value × Upd} (h : p → ∀ w Rx, R.le Rx → Sat w Rx s.hp →
      ∃ x w', g x ∧ (execOp (ev s.tm) o).run P w = .ok (.value (f x).1) w' ∧ Sat w' Rx (s.hp.upds (f x).2)) :
    EffOK P o s R (.gen p X g f) := by
  intro k kp ⟨hp, hk⟩ Rx w hR hs next Q hn hq
  obtain ⟨x, w', hg, h1, h2⟩ := h hp w Rx hR hs
  refine wp_value (by rw [St.eval]; exact h1) ?_
  rw [St.put_set s _ _ (f x).2]
  exact hn _ R Rx w' (hk x hg) (.refl hR) h2

theorem EffOK.pan {v : Value} (h : ∀ w, (execOp (ev s.tm) o).run P w = .halt (.panic v) w) : EffOK P o s R (.pan v) := by
  intro k kp hk Rx w hR hs next Q hn hq
  unfold Oper.wp; rw [St.eval, h w]
  exact hq v s R Rx w hk (.refl hR) hs

theorem EffOK.dfr {d : Deferred} (h : ∀ w, (execOp (ev s.tm) o).run P w = .ok (.defer d) w) : EffOK P o s R (.dfr d) := by
  intro k kp hk Rx w hR hs next Q hn hq
  unfold Oper.wp; rw [St.eval, h w]
  have : ({ tmps := s.act.tmps, defers := d :: s.act.defers } : Act).put o.dst undef = St.act ⟨put s.tm o.dst undef, d :: s.df, s.hp⟩ :=
    St.put_act ⟨s.tm, d :: s.df, s.hp⟩ o.dst undef
  show next (Act.put { tmps := s.act.tmps, defers := d :: s.act.defers } o.dst undef) w
  rw [this]
  exact hn _ R Rx w hk (.refl hR) hs
end

/-! ## How the blocks that are owned change -/

theorem Sat.fresh {w : World} {R : RO} {H : Hp} (h : Sat w R H) : R.mem w.heap.size = none := by
  cases hr : R.mem w.heap.size with
  | none => rfl
  | some o => have := h.ro _ _ hr; simp at this

theorem Sat.put_new {w w' : World} {R : RO} {H : Hp} (h : Sat w R H) {o : Obj} (hw : w'.heap = w.heap.push o) {i : Nat} (hi : H.at i = none) {B : Blk}
    (hB : B.at w' w.heap.size) (hk : Same w w') : Sat w' R (H.put i (some (w.heap.size, B))) := by
  have keep : ∀ b, b < w.heap.size → w'.heap[b]? = w.heap[b]? := fun b hb => by rw [hw, Array.getElem?_push]; simp [show b ≠ w.heap.size by omega]
  refine ⟨fun b o hb => ?_, fun j a C hj => ?_, fun j a C hj => ?_, fun j k a C D hj hk => ?_, hk.os.trans h.os, hk.tape.trans h.tape, hk.out.trans h.out⟩
  · have := h.ro b o hb
    rw [keep]; exact this
    rcases Nat.lt_or_ge b w.heap.size with hl | hl
    · exact hl
    · simp [Array.getElem?_eq_none hl] at this
  · rw [Hp.at_put] at hj
    split at hj
    · cases hj; exact hB
    · have := h.own j a C hj
      exact Blk.at_heap this (keep a (Blk.at_lt this))
  · rw [Hp.at_put] at hj
    split at hj
    · cases hj; exact h.fresh
    · exact h.off j a C hj
  · rw [Hp.at_put] at hj hk
    split at hj <;> split at hk
    · omega
    · cases hj; have := Blk.at_lt (h.own _ _ _ hk); omega
    · cases hk; have := Blk.at_lt (h.own _ _ _ hj); omega
    · exact h.one _ _ _ _ _ hj hk

theorem Sat.put_upd {w w' : World} {R : RO} {H : Hp} (h : Sat w R H) {i ad : Nat} {B B' : Blk} (hi : H.at i = some (ad, B)) {o : Obj}
    (hw : w'.heap = w.heap.setIfInBounds ad o) (hB : B'.at w' ad) (hk : Same w w') : Sat w' R (H.put i (some (ad, B'))) := by
  have keep : ∀ b, b ≠ ad → w'.heap[b]? = w.heap[b]? := fun b hb => by rw [hw, Array.getElem?_setIfInBounds_ne (by omega)]
  refine ⟨fun b o hb => ?_, fun j a C hj => ?_, fun j a C hj => ?_, fun j k a C D hj hk => ?_, hk.os.trans h.os, hk.tape.trans h.tape, hk.out.trans h.out⟩
  · rw [keep]
    · exact h.ro b o hb
    · intro he; subst he; rw [h.off i _ B hi] at hb; cases hb
  · rw [Hp.at_put] at hj
    split at hj
    · cases hj; exact hB
    · rename_i hne
      refine Blk.at_heap (h.own j a C hj) (keep a ?_)
      intro he; subst he; exact hne (h.one _ _ _ _ _ hi hj)
  · rw [Hp.at_put] at hj
    split at hj
    · cases hj; exact h.off i _ B hi
    · exact h.off j a C hj
  · rw [Hp.at_put] at hj hk
    split at hj <;> split at hk
    · omega
    · rename_i h1 h2; cases hj; exact (h2 (h.one _ _ _ _ _ hi hk)).elim
    · rename_i h1 h2; cases hk; exact (h1 (h.one _ _ _ _ _ hi hj)).elim
    · exact h.one _ _ _ _ _ hj hk

theorem run_storeVar_of {P : Program} {w : World} {R : RO} {H : Hp} (h : Sat w R H) {i ad n off : Nat} {cs cs' : List Value} {t t' : TypeId} {v : Value}
    (hi : H.at i = some (ad, .row cs t' n)) (hv : writeVar P t cs off v = some cs') :
    ∃ w', (storeVar t ⟨ad, off, none⟩ v).run P w = .ok () w' ∧ Sat w' R (H.put i (some (ad, .row cs' t' n))) := by
  unfold writeVar at hv
  cases hs : pureV P (Go.sizeOf t) with
  | none => simp [hs] at hv
  | some m =>
    simp only [hs] at hv
    split at hv
    · rename_i h1 h2
      obtain ⟨c, lo, hi', hc, hn, ht, hf⟩ := h.own i ad _ hi
      obtain ⟨s1, s2⟩ := splice_some hv
      have hlen : v.cells.toList.length = m := by simpa using h1
      have hcl : cs.length ≤ c.size := by
        have := congrArg List.length ht
        simp at this; omega
      obtain ⟨c', w', r1, r2, r3, r5, r4⟩ := run_storeCells_blk (P := P) ad t' (lo, hi') v.cells.toList off 0 c w hc (by omega) (by simpa [hn] using hf) (ones_spec h2)
      refine ⟨w', ?_, ?_⟩
      · have hsz : v.cells.size = m := by simpa using hlen
        simp [storeVar, pureV_run hs, hsz, r1]
      · refine h.put_upd hi r2 ⟨c', lo, hi', ?_, by omega, ?_, hf⟩ r5
        · have hlt := (Array.getElem?_eq_some_iff.1 hc).1
          rw [r2, Array.getElem?_setIfInBounds]
          simp only [if_true, hlt]
        · rw [r4, s2]
          have e : cs = c.toList.take cs.length := ht.symm
          have hl : (List.take off cs ++ v.cells.toList ++ List.drop (off + v.cells.toList.length) cs).length = cs.length := by
            simp only [List.length_append, List.length_take, List.length_drop]; omega
          rw [hl]
          apply List.ext_getElem?
          intro k
          have hck : ∀ k, k < cs.length → cs[k]? = c.toList[k]? := fun k hk => by
            rw [e, List.getElem?_take_of_lt (by simpa using hk)]
          by_cases hk : k < cs.length
          · rw [List.getElem?_take_of_lt hk]
            simp only [List.getElem?_append, List.length_append, List.length_take, List.getElem?_take, List.getElem?_drop, Array.length_toList, Nat.add_zero]
            rw [show min off cs.length = off by omega, show min off c.size = off by omega]
            by_cases k1 : k < off
            · simp [k1, show k < off + v.cells.size by omega]
              simpa using (hck k hk).symm
            · by_cases k2 : k < off + v.cells.toList.length
              · simp at k2; simp [k1, k2]
              · simp at k2
                simp only [Array.length_toList, k1, if_false, show ¬ k < off + v.cells.size by omega]
                rw [show off + v.cells.size + (k - (off + v.cells.size)) = k by omega]
                exact (hck k hk).symm
          · rw [List.getElem?_eq_none (by simp only [List.length_take]; omega), List.getElem?_eq_none (by rw [hl]; omega)]
    · cases hv
end Vc
