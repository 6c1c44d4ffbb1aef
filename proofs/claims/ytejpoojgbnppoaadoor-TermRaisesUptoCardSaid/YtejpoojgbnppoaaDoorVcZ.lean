import Derived.Test.YtejpoojgbnppoaaDoorVcV
/- Vc, part Z: a slice that is grown by noughts; what is left to nobody's hands. -/
set_option linter.unusedVariables false
set_option linter.unusedSimpArgs false
namespace Vc
open Go

theorem app0_ok {P : Program} {R : RO} {t u ty e : TypeId} {kk : IntKind} {z by' n : Nat} {zc : List Value} (ht : P.underlying t = some (.slice e)) (hu : P.underlying u = some (.int kk)) (hi : tyI P e = some (z, by', zc)) (hz : zc.length = z)
    (hn : 0 < n) (hbytes : n * by' ≤ 140737488355328) (h63 : n ≤ 1000000000) :
    PrimOK P (.app t u ty (.slice none 0 0) (.int .i64 (n : Int))) R [] (Nat × Nat) (fun y => n ≤ y.2 ∧ y.2 ≤ maxLen) (fun y => (.slice (some ⟨y.1, 0, none⟩) n y.2, [some (y.1, .row [] e (y.2 * z))])) := by
  intro Rx w hR hs
  obtain ⟨i, v, g1, g2, g3, g4, g5⟩ := tyI_spec hi
  have hzs : v.cells.size = z := by rw [← hz, ← g5, Array.length_toList]
  have hw : IntKind.i64.wrap (n : Int) = (n : Int) := wrapI (by omega) (by omega)
  have h1 : ¬ ((n : Int) < 0) := by omega
  have h2 : ¬ ((n : Int) * (i.bytes : Int) > 281474976710656) := by rw [g4, ← Int.natCast_mul]; omega
  have hroom : ¬ n ≤ 0 := by omega
  have h63' : ¬ (9223372036854775807 < (n : Int)) := by omega
  have hfits := growslice_fits (need := n) (old := 0) (bytes := by') (by omega) (by simpa using hbytes)
  have h48 : ¬ (281474976710656 < Builtin.nextslicecap n 0 * i.bytes) := by rw [g4]; omega
  have hge := grownCap_ge w n 0 e
  have hcm' : grownCap w n 0 e ≤ maxLen := grownCap_le_maxLen w n 0 e (by simp only [maxLen]; omega)
  have hcut : (Question.appendCap n 0 e).cut (w.tape w.drawn (.appendCap n 0 e)) = grownCap w n 0 e := rfl
  have hold : (Builtin.firstCells z 0 (.slice none 0 0)).run P w.drew = .ok #[] w.drew := run_firstCells_none w.drew z 0 0 0
  rw [g4] at h2 h48
  obtain ⟨row, hrow, hrun⟩ : ∃ row : Array Value, row.size = grownCap w n 0 e * z ∧ (PC.app t u ty (.slice none 0 0) (.int .i64 (n : Int))).sem.run P w = .ok (.slice (some ⟨w.heap.size, 0, none⟩) n (grownCap w n 0 e)) (w.drew.alloc (.cells row e)) := by
    refine ⟨(#[] : Array Value) ++ (if n * z = 0 then #[] else Builtin.zeroCells v.cells n) ++ Builtin.zeroCells v.cells (grownCap w n 0 e - n), ?_, ?_⟩
    · split
      · rename_i h0
        have hz0 : z = 0 := by rcases Nat.mul_eq_zero.1 h0 with h | h <;> omega
        subst hz0
        simp only [Array.size_append, size_zeroCells, hzs]; simp
      · simp only [Array.size_append, size_zeroCells, hzs]
        have : grownCap w n 0 e * z = n * z + (grownCap w n 0 e - n) * z := by rw [← Nat.add_mul]; congr 1; omega
        rw [this]; simp
    · simp [PC.sem, Builtin.append_, run_underlying ht, run_underlying hu, Go.sizeOf, typeInfo, zeroValue, asInt, asIntOf, g1, g2, g3, g4, hw, h1, h2, hroom, h63', h48, Question.forced, newRow, hcut, hold]
      rw [if_neg (by omega : ¬ n = 0)]
      by_cases h0 : n * z = 0
      · rw [if_pos h0, if_pos h0]; simp
      · rw [if_neg h0, if_neg h0]
  refine ⟨(w.heap.size, grownCap w n 0 e), _, hrun, ⟨hge, hcm'⟩, ?_⟩
  exact Sat.put_new (w' := w.drew.alloc (.cells row e)) hs.drew (i := 0) (o := .cells row e) rfl rfl
    (B := .row [] e (grownCap w n 0 e * z)) ⟨_, 0, 0, heap_alloc_new w.drew _, hrow, by simp, by omega⟩ ⟨rfl, rfl, rfl⟩

/-- What a call leaves may be left to nobody's hands: all know it then. -/
theorem Does.freeze {P : Program} {f : FuncId} {args : List Value} {R : RO} {H : Hp} {X : Type} {q : X → RO → Prop} {g : X → Value × Hp}
    (h : Does P f args R H fun o G B => ∃ x, q x G ∧ o = .ret (g x).1 ∧ B = (g x).2) :
    Does P f args R H fun o G B => ∃ x G0, G0.le G ∧ q x G0 ∧ (∀ i a cs t n, Hp.at (g x).2 i = some (a, .row cs t n) → G.cells a 0 cs) ∧ o = .ret (g x).1 ∧ B = [] := by
  intro Rx w hR hs
  refine (h Rx w hR hs).mono ?_
  rintro e w' ⟨o, G, B, Rx', rfl, ⟨x, hq, rfl, rfl⟩, hx, hs'⟩
  obtain ⟨F, hF⟩ : ∃ F : Nat → Option Obj, F = fun b => open Classical in if ∃ i C, Hp.at (g x).2 i = some (b, C) then w'.heap[b]? else none := ⟨_, rfl⟩
  have hFs : ∀ b, (∃ i C, Hp.at (g x).2 i = some (b, C)) → F b = w'.heap[b]? ∧ Rx'.mem b = none := fun b ⟨i, C, hi⟩ => by
    refine ⟨by rw [hF]; simp only; rw [if_pos ⟨i, C, hi⟩], hs'.off i b C hi⟩
  have hFn : ∀ b, ¬ (∃ i C, Hp.at (g x).2 i = some (b, C)) → F b = none := fun b hb => by rw [hF]; simp only; rw [if_neg hb]
  have gn : ∀ b, Rx'.mem b = none → G.mem b = none := fun b hb => RO.none_of_le hx.leg hb
  let ad : RO → RO := fun S => ⟨fun b => match S.mem b with | some o => some o | none => F b, S.os, S.tape, S.out⟩
  have adm : ∀ S b, (ad S).mem b = match S.mem b with | some o => some o | none => F b := fun _ _ => rfl
  have hFR : ∀ b, F b ≠ none → Rx'.mem b = none := fun b hb => by
    rcases Classical.em (∃ i C, Hp.at (g x).2 i = some (b, C)) with h | h
    · exact (hFs b h).2
    · exact (hb (hFn b h)).elim
  refine ⟨.ret (g x).1, ad G, [], ad Rx', rfl, ⟨x, G, ⟨fun b o hb => by rw [adm, hb], rfl, rfl, rfl⟩, hq, fun i a cs t n hi => ?_, rfl, rfl⟩, ⟨⟨fun b o hb => by rw [adm, hx.le.mem b o hb], hx.le.os, hx.le.tape, hx.le.out⟩, ⟨fun b o hb => by rw [adm, hx.lex.mem b o hb], hx.lex.os, hx.lex.tape, hx.lex.out⟩, ⟨fun b o hb => ?_, hx.leg.os, hx.leg.tape, hx.leg.out⟩, fun b hb => ?_⟩, ?_⟩
  · obtain ⟨c, lo, hi', hc, hn, ht, _⟩ := hs'.own i a _ hi
    refine ⟨c, t, (lo, hi'), ?_, by simpa using ht⟩
    have h1 := hFs a ⟨i, _, hi⟩
    rw [adm, gn a h1.2]
    simp only
    rw [h1.1]; exact hc
  · rw [adm] at hb ⊢
    cases hg : G.mem b with
    | some o' => rw [hg] at hb; rw [hx.leg.mem b o' hg]; exact hb
    | none =>
      rw [hg] at hb
      simp only at hb
      have := hFR b (by rw [hb]; simp)
      rw [this]; exact hb
  · rw [adm] at hb
    cases hg : G.mem b with
    | some o' => exact hx.own b (by rw [hg]; simp)
    | none =>
      rw [hg] at hb
      have h1 := hFR b hb
      exact .inr (RO.none_of_le hx.lex h1)
  · refine ⟨fun b o hb => ?_, fun i a C hi => by simp [Hp.at_nil] at hi, fun i a C hi => by simp [Hp.at_nil] at hi, fun i j a C D hi hj => by simp [Hp.at_nil] at hi, hs'.os, hs'.tape, hs'.out⟩
    rw [adm] at hb
    cases hr : Rx'.mem b with
    | some o' => rw [hr] at hb; cases hb; exact hs'.ro b _ hr
    | none =>
      rw [hr] at hb
      simp only at hb
      rcases Classical.em (∃ i C, Hp.at (g x).2 i = some (b, C)) with h | h
      · rw [(hFs b h).1] at hb; exact hb
      · rw [hFn b h] at hb; cases hb

/-- A block that is left to nobody's hands ahead of a call: the call may take it as known. -/
theorem Does.give {P : Program} {f : FuncId} {args : List Value} {R : RO} {a : Nat} {cs : List Value} {t : TypeId} {n : Nat} {H : Hp} {Q : Out → RO → Hp → Prop}
    (h : ∀ S, R.le S → S.cells a 0 cs → Does P f args S H Q) :
    Does P f args R (some (a, .row cs t n) :: H) fun o G B => ∃ B', B = none :: B' ∧ Q o G B' := by
  intro Rx w hR hs
  obtain ⟨c, lo, hi', hc, hn, ht, hf⟩ := hs.own 0 a _ rfl
  have hoff : Rx.mem a = none := hs.off 0 a _ rfl
  let ad : RO → RO := fun S => ⟨fun b => if b = a then some (.cells c t (lo, hi')) else S.mem b, S.os, S.tape, S.out⟩
  have adm : ∀ S b, (ad S).mem b = if b = a then some (.cells c t (lo, hi')) else S.mem b := fun _ _ => rfl
  have hRa : R.mem a = none := RO.none_of_le hR hoff
  have hS : R.le (ad R) := ⟨fun b o hb => by
    rw [adm]; split
    · rename_i he; subst he; rw [hRa] at hb; cases hb
    · exact hb, rfl, rfl, rfl⟩
  have hX : Rx.le (ad Rx) := ⟨fun b o hb => by
    rw [adm]; split
    · rename_i he; subst he; rw [hoff] at hb; cases hb
    · exact hb, rfl, rfl, rfl⟩
  have hSX : (ad R).le (ad Rx) := ⟨fun b o hb => by
    rw [adm] at hb ⊢; split
    · rename_i he; rw [if_pos he] at hb; exact hb
    · rename_i he; rw [if_neg he] at hb; exact hR.mem b o hb, hR.os, hR.tape, hR.out⟩
  have hsat : Sat w (ad Rx) H := ⟨fun b o hb => by
      rw [adm] at hb; split at hb
      · rename_i he; subst he; cases hb; exact hc
      · exact hs.ro b o hb,
    fun i a' B hi => hs.own (i + 1) a' B hi,
    fun i a' B hi => by
      rw [adm, if_neg]
      · exact hs.off (i + 1) a' B hi
      · intro he; subst he
        have := hs.one 0 (i + 1) a' _ _ rfl hi
        omega,
    fun i j a' C D hi hj => by
      have := hs.one (i + 1) (j + 1) a' C D hi hj
      omega,
    hs.os, hs.tape, hs.out⟩
  refine (h (ad R) hS ⟨c, t, (lo, hi'), by rw [adm, if_pos rfl], by simpa using ht⟩ (ad Rx) w hSX hsat).mono ?_
  rintro e w' ⟨o, G, B, Rx', rfl, hq, hx, hs'⟩
  refine ⟨o, G, none :: B, Rx', rfl, ⟨B, rfl, hq⟩, ⟨RO.le_trans hS hx.le, RO.le_trans hX hx.lex, hx.leg, fun b hb => ?_⟩, ?_⟩
  · rcases hx.own b hb with h1 | h1
    · rw [adm] at h1
      split at h1
      · rename_i he; subst he; exact .inr hoff
      · exact .inl h1
    · rw [adm] at h1
      split at h1
      · cases h1
      · exact .inr h1
  · refine ⟨hs'.ro, fun i a' C hi => ?_, fun i a' C hi => ?_, fun i j a' C D hi hj => ?_, hs'.os, hs'.tape, hs'.out⟩
    · cases i with
      | zero => cases hi
      | succ i => exact hs'.own i a' C hi
    · cases i with
      | zero => cases hi
      | succ i => exact hs'.off i a' C hi
    · cases i with
      | zero => cases hi
      | succ i => cases j with
        | zero => cases hj
        | succ j => have := hs'.one i j a' C D hi hj; omega

theorem altGA {R : RO} {X : Type} {q : X → RO → Prop} {out : X → Exit' × St} {rest : Sc} {e : Exit'} {s : St} {G : RO} (f : (Nat → Value) → X)
    (h : q (f (tget s.tm)) G ∧ e = (out (f (tget s.tm))).1 ∧ s.cut (out (f (tget s.tm))).2) : altPost R (.altG X q out (fun _ => .altn) rest) e s G := Or.inl ⟨_, h⟩
theorem LKe {ι : Type} {inv : ι → St} {I : ι → RO → Prop} {μ : ι → Nat} {K : Exit' → St → RO → Prop} {i : ι} {n : Nat} {s : St} {G : RO} (h : K (.exit n) s G) : LK inv I μ K i (.exit n) s G := h
theorem LKr {ι : Type} {inv : ι → St} {I : ι → RO → Prop} {μ : ι → Nat} {K : Exit' → St → RO → Prop} {i : ι} {s : St} {G : RO} (h : K .ret s G) : LK inv I μ K i .ret s G := h
theorem RO.cells_sub {R : RO} {a o i : Nat} {cs l : List Value} (h : R.cells a o cs) (hl : (cs.drop i).take l.length = l) : R.cells a (o + i) l := by
  obtain ⟨c, t, fr, h1, h2⟩ := h
  refine ⟨c, t, fr, h1, ?_⟩
  rw [← h2] at hl
  rw [← List.drop_drop]
  rcases Nat.eq_zero_or_pos l.length with h0 | h0
  · rw [h0]; simp [List.length_eq_zero_iff.1 h0]
  · rw [List.drop_take, List.take_take] at hl
    have hlen : l.length ≤ cs.length - i := by
      have := congrArg List.length hl
      simp only [List.length_take] at this
      omega
    rw [Nat.min_eq_left hlen] at hl
    exact hl

theorem Ext.give {R Rx : RO} {w : World} {H : Hp} {i a : Nat} {cs : List Value} {t : TypeId} {n : Nat} (hR : R.le Rx) (hs : Sat w Rx H) (hi : H.at i = some (a, .row cs t n)) :
    ∃ S Sx, R.le S ∧ S.le Sx ∧ S.cells a 0 cs ∧ Sat w Sx (H.put i none) ∧ ∀ G Rx', Ext S Sx G Rx' → Ext R Rx G Rx' := by
  obtain ⟨c, lo, hi', hc, hn, ht, hf⟩ := hs.own i a _ hi
  have hoff : Rx.mem a = none := hs.off i a _ hi
  let ad : RO → RO := fun S => ⟨fun b => if b = a then some (.cells c t (lo, hi')) else S.mem b, S.os, S.tape, S.out⟩
  have adm : ∀ S b, (ad S).mem b = if b = a then some (.cells c t (lo, hi')) else S.mem b := fun _ _ => rfl
  have hRa : R.mem a = none := RO.none_of_le hR hoff
  have hS : R.le (ad R) := ⟨fun b o hb => by
    rw [adm]; split
    · rename_i he; subst he; rw [hRa] at hb; cases hb
    · exact hb, rfl, rfl, rfl⟩
  have hX : Rx.le (ad Rx) := ⟨fun b o hb => by
    rw [adm]; split
    · rename_i he; subst he; rw [hoff] at hb; cases hb
    · exact hb, rfl, rfl, rfl⟩
  have hSX : (ad R).le (ad Rx) := ⟨fun b o hb => by
    rw [adm] at hb ⊢; split
    · rename_i he; rw [if_pos he] at hb; exact hb
    · rename_i he; rw [if_neg he] at hb; exact hR.mem b o hb, hR.os, hR.tape, hR.out⟩
  have hput : ∀ {j : Nat} {x : Nat × Blk}, (H.put i none).at j = some x → H.at j = some x ∧ j ≠ i := fun {j x} hj => by
    rw [Hp.at_put] at hj
    split at hj
    · cases hj
    · rename_i hne; exact ⟨hj, fun he => hne he.symm⟩
  refine ⟨ad R, ad Rx, hS, hSX, ⟨c, t, (lo, hi'), by rw [adm, if_pos rfl], by simpa using ht⟩, ⟨fun b o hb => ?_, fun j a' B hj => hs.own j a' B (hput hj).1, fun j a' B hj => ?_, fun j k a' C D hj hk => hs.one j k a' C D (hput hj).1 (hput hk).1, hs.os, hs.tape, hs.out⟩, fun G Rx' hx => ?_⟩
  · rw [adm] at hb; split at hb
    · rename_i he; subst he; cases hb; exact hc
    · exact hs.ro b o hb
  · obtain ⟨h1, h2⟩ := hput hj
    rw [adm, if_neg]
    · exact hs.off j a' B h1
    · intro he; subst he; exact h2 (hs.one _ _ _ _ _ h1 hi)
  · refine ⟨RO.le_trans hS hx.le, RO.le_trans hX hx.lex, hx.leg, fun b hb => ?_⟩
    rcases hx.own b hb with h1 | h1
    · rw [adm] at h1
      split at h1
      · rename_i he; subst he; exact .inr hoff
      · exact .inl h1
    · rw [adm] at h1
      split at h1
      · cases h1
      · exact .inr h1
/-- A block that is left to nobody's hands, ahead of a piece of code: it may take it as known. -/
theorem CT.frz {P : Program} {c : Code} {s : St} {R : RO} {K : Exit' → St → RO → Prop} (i : Nat) {b : Option Nat} {cs : List Value} {t : TypeId} {n : Nat} (hi : s.hp.at i = gsb b cs t n)
    (h : ∀ S, R.le S → (∀ a, b = some a → S.cells a 0 cs) → CT P c ⟨s.tm, s.df, s.hp.put i none⟩ S K) : CT P c s R K := by
  intro Rx w hR hs
  cases b with
  | none =>
    refine h R (RO.le_refl _) (fun a ha => by cases ha) Rx w hR ?_
    have hput : ∀ {j : Nat} {x : Nat × Blk}, (s.hp.put i none).at j = some x → s.hp.at j = some x := fun {j x} hj => by
      rw [Hp.at_put] at hj
      split at hj
      · cases hj
      · exact hj
    exact ⟨hs.ro, fun j a' B hj => hs.own j a' B (hput hj), fun j a' B hj => hs.off j a' B (hput hj), fun j k a' C D hj hk => hs.one j k a' C D (hput hj) (hput hk), hs.os, hs.tape, hs.out⟩
  | some a =>
    obtain ⟨S, Sx, h1, h2, h3, h4, h5⟩ := Ext.give hR hs hi
    refine wp_mono (h S h1 (fun a' ha => by cases ha; exact h3) Sx w h2 h4) fun e a' w' hl => ?_
    obtain ⟨e', s', G, Rx', g1, g2, g3, g4, g5⟩ := hl
    exact ⟨e', s', G, Rx', g1, g2, g3, h5 _ _ g4, g5⟩
end Vc
