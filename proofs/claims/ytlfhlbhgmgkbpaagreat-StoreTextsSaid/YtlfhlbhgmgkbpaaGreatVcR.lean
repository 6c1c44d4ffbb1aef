import Derived.Recover
import Derived.Test.YtlfhlbhgmgkbpaaGreatVcF
/- Vc, part R: a function that defers one call, of a function that recovers. -/
set_option linter.unusedVariables false
set_option linter.unusedSimpArgs false
namespace Vc
open Go

/-- How a function leaves when it comes to its deferred call. -/
inductive Md where
  | ret
  | pan (v : Value)
def Md.u : Md → FrameMode
  | .ret => .returning
  | .pan v => .panicking [{ v, recovered := false }]
def Md.val : Md → Value
  | .ret => .nilIface
  | .pan v => v
def Md.u' : Md → FrameMode
  | .ret => .returning
  | .pan v => .panicking [{ v, recovered := true }]
theorem Md.settled (m : Md) : settle m.u' = .returning := by cases m <;> rfl
theorem Md.rec_ret (c : Frame) (cs : List Frame) (h : c.mode = Md.u .ret) : recoverD (c :: cs) = none := by
  simp [recoverD, h, Md.u]
theorem Md.rec_pan (v : Value) (c : Frame) (cs : List Frame) (h : c.mode = Md.u (.pan v)) : recoverD (c :: cs) = some (v, { c with mode := Md.u' (.pan v) } :: cs) := by
  simp [recoverD, h, Md.u, Md.u']

section
variable {P : Program}

/-- A deferred call that ends what is under way. -/
def DefD (P : Program) (g : FuncId) (args : List Value) (m : Md) (R : RO) (H B : Hp) : Prop :=
  ∀ Rx w, R.le Rx → Sat w Rx H → CallsD P g args.toArray m.u w fun e u' w' => u' = m.u' ∧ ∃ v Rx', e = .returned v ∧ Ext R Rx R Rx' ∧ Sat w' Rx' B

theorem DefD.of_ct {g : FuncId} {fn : Func} {id t : Nat} {o : Oper} {c : Code} {args : List Value} {m : Md} {R : RO} {H B : Hp} {X : Type} {q : X → Prop} {tm : X → List Value} {k : X → Sc}
    (hf : P.funcs[g]? = some fn) (hb : fn.body = some (.seq (.region id #[o] false) c)) (ho : o.op = .call ⟨.builtin .recover, #[], #[]⟩) (hd : o.dst = some t) (hg : o.guard = none) (hres : fn.results = #[])
    (h : CT P c ⟨put (entry fn args H).tm (some t) m.val, [], H⟩ R (altPost R (.alt X q (fun x => (.normal, ⟨tm x, [], B⟩)) k .altn))) : DefD P g args m R H B := by
  intro Rx w hR hs
  refine callsD_of_wpS hf hb fun c₀ cs hc => ?_
  have ha : ({ tmps := args.toArray ++ Array.replicate (fn.ntmps - args.toArray.size) undef, defers := [] } : Act) = (entry fn args H).act := by
    simp [entry, St.act]
  rw [ha]
  refine wpS_seq (wpS_region ?_)
  have hsz : (#[o] : Array Oper).size = 1 := rfl
  have hst : ((entry fn args H).act).put o.dst m.val = St.act ⟨put (entry fn args H).tm (some t) m.val, [], H⟩ := by
    rw [hd, St.put_act]; rfl
  have hwant : Region.wanted o (yielded #[o] ((entry fn args H).act).tmps) = true := by unfold Region.wanted; rw [hg]
  have hrun : (execOp ((entry fn args H).act).eval o).run P w = .ok .recover w := by
    unfold execOp
    rw [ho]
    rfl
  have hk : ∀ cs', cs' = { c₀ with mode := m.u' } :: cs → c.wpS P (bodyPostS P fn c₀ cs fun e u' w' => u' = m.u' ∧ ∃ v Rx', e = .returned v ∧ Ext R Rx R Rx' ∧ Sat w' Rx' B) (((entry fn args H).act).put o.dst m.val) cs' w := by
    intro cs' hcs
    have hw : c.wp P (Lift R Rx (altPost R (.alt X q (fun x => (.normal, ⟨tm x, [], B⟩)) k .altn))) (((entry fn args H).act).put o.dst m.val) w := by
      rw [hst]; exact h Rx w hR hs
    refine wpS_of_wp (wp_mono hw ?_)
    · rintro e a w' ⟨e', s, G, Rx', rfl, rfl, hp, hx, hs'⟩
      rcases hp with ⟨hG, x, hq, hee, hcut⟩ | hp
      · subst hee
        rw [hG] at hx
        refine ⟨?_, m.u', hcs, .tuple #[], ?_, rfl, .tuple #[], Rx', rfl, hx, St.cut_sat hcut hs'⟩
        · have := St.cut_act hcut
          rw [this]; rfl
        · have := results_run (P := P) (w := w') (s := s) (fn := fn) (vs := []) (by rw [hres]; rfl)
          exact this
      · exact hp.elim
  show wpOpsS P #[o] _ [0] _ _ _
  simp only [wpOpsS]
  rw [show (#[o] : Array Oper)[0]? = some o from rfl]
  simp only [hwant, if_true, hrun]
  cases m with
  | ret =>
    rw [Md.rec_ret c₀ cs hc]
    simp only
    refine hk _ ?_
    show c₀ :: cs = _
    rw [show ({ c₀ with mode := Md.u' .ret } : Frame) = c₀ from by rw [show Md.u' .ret = c₀.mode from hc.symm]]
  | pan v =>
    rw [Md.rec_pan v c₀ cs hc]
    simp only
    exact hk _ rfl

/-- A function that leaves with one such call under way. -/
theorem Does.of_ct_defer {f g : FuncId} {fn : Func} {c : Code} {args : List Value} {R : RO} {H : Hp} {Q : Out → RO → Hp → Prop} {X : Type} {q : X → Prop} (m : Md) {e : Exit'} {tm : X → List Value} {cap : X → Array Value} {dargs : Array Value} {H' : X → Hp} (B : X → Hp) {k : X → Sc}
    (keep : List Nat) (rp : List (Nat × Option Value)) {VC : X → Prop}
    (hf : P.funcs[f]? = some fn) (hb : fn.body = some c) (he : (m = .ret ∧ (e = .ret ∨ e = .normal)) ∨ ∃ v, m = .pan v ∧ e = .panic v)
    (h : CT P c (entry fn args H) R (altPost R (.alt X q (fun x => (e, ⟨tm x, [{ target := .fn (.func g) (cap x), args := dargs }], H' x⟩)) k .altn)))
    (hi : ∀ x w, (invoke (.fn (.func g) (cap x)) dargs).run P w = .ok (.enter g (dargs ++ cap x)) w)
    (hg : ∀ x, q x → DefD P g (dargs ++ cap x).toList m R (H' x) (B x)) (hn : nodupN keep = true)
    (hre : ∀ x, (resK P fn.results.toList rp ⟨tm x, [], B x⟩ [] fun vs => Q (.ret (tupV vs)) R (keep.map (B x).at)) = VC x) (hr : ∀ x, q x → VC x) : Does P f args R H Q := by
  intro Rx w hR hs
  refine calls_of_wp_defers hf hb ?_
  have := h Rx w hR hs
  have ha : (entry fn args H).act = { tmps := args.toArray ++ Array.replicate (fn.ntmps - args.toArray.size) undef, defers := [] } := by
    simp [entry, St.act]
  rw [ha] at this
  refine wp_mono this ?_
  rintro e₁ a w' ⟨e', s, G, Rx', rfl, rfl, hp, hx, hs'⟩
  rcases hp with ⟨hG, x, hq, hee, hcut⟩ | hp
  · rw [hG] at hx
    subst hee
    have hact := St.cut_act hcut
    have hsat := St.cut_sat hcut hs'
    have key : Leaves P fn s.act.tmps (fun e w' => ∃ o G H' Rx', e = Out.fin o ∧ Q o G H' ∧ Ext R Rx G Rx' ∧ Sat w' Rx' H') s.act.defers m.u w' := by
      rw [hact]
      show Leaves P fn (tm x).toArray _ [{ target := .fn (.func g) (cap x), args := dargs }] m.u w'
      refine leaves_cons (by cases m <;> simp [Md.u]) (hi x w') ?_
      have hd := hg x hq Rx' w' hx.leg hsat
      rw [Array.toArray_toList] at hd
      refine hd.mono ?_
      rintro e u' w'' ⟨rfl, v, Rx'', rfl, hx2, hs2⟩
      show Leaves P fn (tm x).toArray _ [] (settle m.u') w''
      rw [Md.settled]
      obtain ⟨vs, h1, h2⟩ := resK_sound hs2 _ _ _ _ (by rw [hre x]; exact hr x hq)
      refine ⟨_, results_run h1, .ret (tupV vs), _, keep.map (B x).at, Rx'', rfl, by simpa using h2, hx.trans hx2, hs2.keep (nodupN_spec hn)⟩
    rcases he with ⟨rfl, rfl | rfl⟩ | ⟨v, rfl, rfl⟩
    · exact key
    · exact key
    · exact key
  · exact hp.elim
end
end Vc
