import Derived.Test.YtlfhlbhgmgkbpaaGreatVcR
/- Vc, part Y: a function that recovers into a variable of its own. -/
set_option linter.unusedVariables false
set_option linter.unusedSimpArgs false
namespace Vc
open Go

section
variable {P : Program}

def opOf2 : Code → Oper
  | .seq (.region _ ⟨[_, o]⟩ _) _ => o
  | _ => default
def opOf1 : Code → Oper
  | .seq (.region _ ⟨[o, _]⟩ _) _ => o
  | _ => default
/-- The same, where the first region lays what was recovered into a variable. -/
theorem DefD.of_ct2 {g : FuncId} {fn : Func} {id t t2 : Nat} {o o2 : Oper} {c : Code} {args : List Value} {m : Md} {R : RO} {H B : Hp} {X : Type} {q : X → Prop} {tm : X → List Value} {k : X → Sc} (v2 : Value)
    (hf : P.funcs[g]? = some fn) (hb : fn.body = some (.seq (.region id #[o, o2] false) c)) (ho : o.op = .call ⟨.builtin .recover, #[], #[]⟩) (hd : o.dst = some t) (hg : o.guard = none) (hres : fn.results = #[])
    (hd2 : o2.dst = some t2) (hg2 : o2.guard = none) (hv2 : pureN P (execOp (ev (put (entry fn args H).tm (some t) m.val)) o2) = some v2)
    (h : CT P c ⟨put (put (entry fn args H).tm (some t) m.val) (some t2) v2, [], H⟩ R (altPost R (.alt X q (fun x => (.normal, ⟨tm x, [], B⟩)) k .altn))) : DefD P g args m R H B := by
  intro Rx w hR hs
  refine callsD_of_wpS hf hb fun c₀ cs hc => ?_
  have ha : ({ tmps := args.toArray ++ Array.replicate (fn.ntmps - args.toArray.size) undef, defers := [] } : Act) = (entry fn args H).act := by
    simp [entry, St.act]
  rw [ha]
  refine wpS_seq (wpS_region ?_)
  have hsz : (#[o, o2] : Array Oper).size = 2 := rfl
  have hst : ((entry fn args H).act).put o.dst m.val = St.act ⟨put (entry fn args H).tm (some t) m.val, [], H⟩ := by
    rw [hd, St.put_act]; rfl
  have hst2 : (St.act ⟨put (entry fn args H).tm (some t) m.val, [], H⟩).put o2.dst v2 = St.act ⟨put (put (entry fn args H).tm (some t) m.val) (some t2) v2, [], H⟩ := by
    rw [hd2, St.put_act]
  have hwant : ∀ tms, Region.wanted o (yielded #[o, o2] tms) = true := fun tms => by unfold Region.wanted; rw [hg]
  have hwant2 : ∀ tms, Region.wanted o2 (yielded #[o, o2] tms) = true := fun tms => by unfold Region.wanted; rw [hg2]
  have hrun : (execOp ((entry fn args H).act).eval o).run P w = .ok .recover w := by
    unfold execOp
    rw [ho]
    rfl
  have hrun2 : (execOp ((St.act ⟨put (entry fn args H).tm (some t) m.val, [], H⟩)).eval o2).run P w = .ok (.value v2) w := by
    rw [St.eval]
    exact pureN_run hv2 w
  have hk : ∀ cs', cs' = { c₀ with mode := m.u' } :: cs → wpOpsS P #[o, o2] (fun e a' cs' w' => match e with
        | .normal => c.wpS P (bodyPostS P fn c₀ cs fun e u' w' => u' = m.u' ∧ ∃ v Rx', e = .returned v ∧ Ext R Rx R Rx' ∧ Sat w' Rx' B) a' cs' w'
        | e => bodyPostS P fn c₀ cs (fun e u' w' => u' = m.u' ∧ ∃ v Rx', e = .returned v ∧ Ext R Rx R Rx' ∧ Sat w' Rx' B) e a' cs' w') [1] (((entry fn args H).act).put o.dst m.val) cs' w := by
    intro cs' hcs
    simp only [wpOpsS]
    rw [show (#[o, o2] : Array Oper)[1]? = some o2 from rfl]
    simp only [hwant2, if_true]
    rw [hst, hrun2]
    simp only
    rw [Oper.upon_value, hst2]
    have hw : c.wp P (Lift R Rx (altPost R (.alt X q (fun x => (.normal, ⟨tm x, [], B⟩)) k .altn))) (St.act ⟨put (put (entry fn args H).tm (some t) m.val) (some t2) v2, [], H⟩) w := h Rx w hR hs
    refine wpS_of_wp (wp_mono hw ?_)
    rintro e a w' ⟨e', s, G, Rx', rfl, rfl, hp, hx, hs'⟩
    rcases hp with ⟨hG, x, hq, hee, hcut⟩ | hp
    · subst hee
      rw [hG] at hx
      refine ⟨?_, m.u', hcs, .tuple #[], ?_, rfl, .tuple #[], Rx', rfl, hx, St.cut_sat hcut hs'⟩
      · have := St.cut_act hcut
        rw [this]; rfl
      · have := results_run (P := P) (w := w') (s := s) (fn := fn) (vs := []) (by rw [hres]; rfl)
        exact this
    · exact hp.elim
  show wpOpsS P #[o, o2] _ [0, 1] _ _ _
  unfold wpOpsS
  rw [show (#[o, o2] : Array Oper)[0]? = some o from rfl]
  simp only [hwant, if_true, hrun]
  cases m with
  | ret =>
    rw [Md.rec_ret c₀ cs hc]
    simp only
    refine hk _ ?_
    show c₀ :: cs = _
    rw [show ({ c₀ with mode := Md.u' .ret } : Frame) = c₀ from by rw [show Md.u' .ret = c₀.mode from hc.symm]]
  | pan v =>
    rw [Md.rec_pan v c₀ cs hc]
    simp only
    exact hk _ rfl
end
end Vc
