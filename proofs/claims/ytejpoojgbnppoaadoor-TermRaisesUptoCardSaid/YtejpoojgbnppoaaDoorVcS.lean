import Derived.RangeFuncRecord
import Derived.Test.YtejpoojgbnppoaaDoorVcF
/- Vc, part S: a range over a function that calls nothing back; a function that holds one. -/
set_option linter.unusedVariables false
set_option linter.unusedSimpArgs false
namespace Vc
open Go

theorem Sat.congr_at {w : World} {R : RO} {H H' : Hp} (h : Sat w R H) (he : ∀ i, H'.at i = H.at i) : Sat w R H' :=
  ⟨h.ro, fun i a B hi => h.own i a B (by rw [← he]; exact hi), fun i a B hi => h.off i a B (by rw [← he]; exact hi), fun i j a B C hi hj => h.one i j a B C (by rw [← he]; exact hi) (by rw [← he]; exact hj), h.os, h.tape, h.out⟩
theorem upds_same {H : Hp} {fp : List Nat} (hn : fp.Nodup) (i : Nat) : (H.upds (zipU fp (fp.map H.at))).at i = H.at i := by
  by_cases hi : i ∈ fp
  · obtain ⟨j, hj, rfl⟩ := List.getElem_of_mem hi
    rw [upds_zip_at fp H (fp.map H.at) j fp[j] hn (List.getElem?_eq_getElem hj), Hp.at_getElem, List.getElem?_map, List.getElem?_eq_getElem hj]
    rfl
  · exact upds_zip_not fp H _ hi

/-- What is known, and one block more. -/
def RO.with (R : RO) (b : Nat) (o : Obj) : RO := ⟨fun k => if k = b then some o else R.mem k, R.os, R.tape, R.out⟩
def RO.less (R : RO) (b : Nat) : RO := ⟨fun k => if k = b then none else R.mem k, R.os, R.tape, R.out⟩
theorem RO.with_same (R : RO) (b : Nat) (o : Obj) : (R.with b o).mem b = some o := by simp [RO.with]
theorem RO.with_ne (R : RO) {b k : Nat} (o : Obj) (h : k ≠ b) : (R.with b o).mem k = R.mem k := by simp [RO.with, h]
theorem RO.less_ne (R : RO) {b k : Nat} (h : k ≠ b) : (R.less b).mem k = R.mem k := by simp [RO.less, h]

theorem Sat.alloc {w : World} {R : RO} {H : Hp} (h : Sat w R H) (o : Obj) : Sat (w.alloc o) (R.with w.heap.size o) H := by
  have keep : ∀ b, b < w.heap.size → (w.alloc o).heap[b]? = w.heap[b]? := fun b hb => by
    show (w.heap.push o)[b]? = _
    rw [Array.getElem?_push]; simp [show b ≠ w.heap.size by omega]
  have lt : ∀ b x, R.mem b = some x → b < w.heap.size := fun b x hb => (Array.getElem?_eq_some_iff.1 (h.ro b x hb)).1
  refine ⟨fun b x hb => ?_, fun i a B hi => ?_, fun i a B hi => ?_, h.one, h.os, h.tape, h.out⟩
  · by_cases he : b = w.heap.size
    · subst he
      rw [RO.with_same] at hb
      cases hb
      exact World.alloc_heap_new w o
    · rw [RO.with_ne R o he] at hb
      rw [keep b (lt b x hb)]; exact h.ro b x hb
  · have := h.own i a B hi
    exact Blk.at_heap this (keep a (Blk.at_lt this))
  · have := Blk.at_lt (h.own i a B hi)
    rw [RO.with_ne R o (by omega)]; exact h.off i a B hi
theorem Sat.put {w : World} {R : RO} {H : Hp} {b : Nat} {x : Obj} (o : Obj) (h : Sat w R H) (hb : R.mem b = some x) : Sat (w.putObj b o) (R.less b) H := by
  refine ⟨fun k y hk => ?_, fun i a B hi => ?_, fun i a B hi => ?_, h.one, h.os, h.tape, h.out⟩
  · by_cases he : k = b
    · subst he; simp [RO.less] at hk
    · rw [RO.less_ne R he] at hk
      rw [World.putObj_heap_other he]; exact h.ro k y hk
  · have hne : a ≠ b := fun he => by subst he; rw [h.off i a B hi] at hb; cases hb
    exact Blk.at_heap (h.own i a B hi) (World.putObj_heap_other hne)
  · have := h.off i a B hi
    by_cases he : a = b
    · subst he; simp [RO.less]
    · rw [RO.less_ne R he]; exact this
theorem RO.none_of_le {R Rx : RO} (h : R.le Rx) {b : Nat} (hb : Rx.mem b = none) : R.mem b = none := by
  cases hr : R.mem b with
  | none => rfl
  | some o => rw [h.mem b o hr] at hb; cases hb

section
variable {P : Program}

theorem CT.range_none {g : Operand} {ps : Array Tmp} {assign body : Code} {s : St} {R : RO} {f : FuncId} {cap : Array Value} {fp : List Nat} {k : Nat → Sc} (hg : ev s.tm g = .func (.func f) #[] cap)
    (he : ∀ args w, (callFunc f args).run P w = .ok (.enter f args) w) (hfp : nodupN fp = true)
    (hd : ∀ (y : Value) (G : RO), Gives P f (y :: cap.toList) G (fp.map s.hp.at) (.ret (.tuple #[])) (fp.map s.hp.at)) :
    CT P (.rangeFunc g ps assign body) s R (altPost R (.altG Nat (fun r G => G.mem r = some (.deferred (some [])) ∧ R.mem r = none) (fun r => (.normal, ⟨s.tm, { target := .collected r, args := #[] } :: s.df, s.hp⟩)) k .altn)) := by
  intro Rx w hR hs
  rw [← wpIn_wide (n := 1)]
  refine wpIn_rangeFunc ?_
  intro fn hfn
  obtain ⟨rec, hrec⟩ : ∃ rec : LoopState → Option Code → Loop, rec = fun st pe => { state := st, pending := pe, fn, tmps := s.act.tmps, params := ps, assign, body, defers := w.heap.size } := ⟨_, rfl⟩
  have hsz : (w.alloc (.deferred (some []))).heap.size = w.heap.size + 1 := World.size_alloc _ _
  have hs1 := (hs.alloc (.deferred (some []))).alloc (.loop (rec .ready none))
  rw [hsz] at hs1
  have hxr : Rx.mem w.heap.size = none := hs.fresh
  have hxl : Rx.mem (w.heap.size + 1) = none := by
    cases hr : Rx.mem (w.heap.size + 1) with
    | none => rfl
    | some o => have := (Array.getElem?_eq_some_iff.1 (hs.ro _ _ hr)).1; omega
  have hrr := RO.none_of_le hR hxr
  have hrl := RO.none_of_le hR hxl
  obtain ⟨R1, hR1⟩ : ∃ R1, (R.with w.heap.size (.deferred (some []))).with (w.heap.size + 1) (.loop (rec .ready none)) = R1 := ⟨_, rfl⟩
  obtain ⟨X1, hX1⟩ : ∃ X1, (Rx.with w.heap.size (.deferred (some []))).with (w.heap.size + 1) (.loop (rec .ready none)) = X1 := ⟨_, rfl⟩
  rw [hX1] at hs1
  have le1 : R1.le X1 := by
    rw [← hR1, ← hX1]
    refine ⟨fun b o hb => ?_, hR.os, hR.tape, hR.out⟩
    by_cases h1 : b = w.heap.size + 1
    · subst h1; rw [RO.with_same] at hb ⊢; exact hb
    · rw [RO.with_ne _ _ h1] at hb ⊢
      by_cases h2 : b = w.heap.size
      · subst h2; rw [RO.with_same] at hb ⊢; exact hb
      · rw [RO.with_ne _ _ h2] at hb ⊢; exact hR.mem b o hb
  have xl : X1.mem (w.heap.size + 1) = some (.loop (rec .ready none)) := by rw [← hX1]; exact RO.with_same _ _ _
  have xr : X1.mem w.heap.size = some (.deferred (some [])) := by rw [← hX1, RO.with_ne _ _ (by omega)]; exact RO.with_same _ _ _
  have xle : Rx.le X1 := by
    rw [← hX1]
    refine ⟨fun b o hb => ?_, rfl, rfl, rfl⟩
    rw [RO.with_ne _ _ (fun h => by subst h; rw [hxl] at hb; cases hb), RO.with_ne _ _ (fun h => by subst h; rw [hxr] at hb; cases hb)]
    exact hb
  refine ⟨w.heap.size + 1, [{ target := .collected w.heap.size, args := #[] }], (w.alloc (.deferred (some []))).alloc (.loop (rec .ready none)), { target := .fn (.func f) cap, args := #[.func (.yield (w.heap.size + 1)) #[] #[]] },
    (w.alloc (.deferred (some []))).alloc (.loop (rec .ready none)), f, #[.func (.yield (w.heap.size + 1)) #[] #[]] ++ cap, (w.alloc (.deferred (some []))).alloc (.loop (rec .ready none)), ?_, ?_, ?_, ?_, fun _ => Nat.le_refl 1, ?_⟩
  · rw [hrec]; exact run_enterLoop_outer _ _ _ _ _
  · have hg' : s.act.eval g = .func (.func f) #[] cap := by rw [St.eval]; exact hg
    simp only [resolve, hg']
    simp [go_sem]
  · intro f' hf'; simp [Target.leads] at hf'; subst hf'; trivial
  · simp [invoke, go_sem, he]
  · refine (callsIn_wide (n := 1 - 1)).2 ?_
    have hcall := call_frame (P := P) (f := f) (H := s.hp) (fp := fp) (nn := []) (by simpa using nodupN_spec hfp) (by simp) (hd (.func (.yield (w.heap.size + 1)) #[] #[]) R1) le1 hs1
    have ha : (Value.func (.yield (w.heap.size + 1)) #[] #[] :: cap.toList).toArray = #[.func (.yield (w.heap.size + 1)) #[] #[]] ++ cap := by simp
    rw [ha] at hcall
    refine hcall.mono ?_
    rintro e w3 ⟨o, G, B, X2, rfl, ⟨rfl, rfl, rfl⟩, hx, hs3⟩
    have hs3' : Sat w3 X2 s.hp := hs3.congr_at fun i => by rw [List.append_nil]; exact (upds_same (nodupN_spec hfp) i).symm
    have x2l := hx.lex.mem _ _ xl
    have x2r := hx.lex.mem _ _ xr
    refine ⟨none, w3.putObj (w.heap.size + 1) (.loop (rec .exhausted none)), ?_, ?_⟩
    · have := run_endLoop (P := P) (hs3'.ro _ _ x2l) (by rw [hrec]; simp)
      rw [hrec] at this ⊢; exact this
    · refine ⟨.normal, ⟨s.tm, { target := .collected w.heap.size, args := #[] } :: s.df, s.hp⟩, R.with w.heap.size (.deferred (some [])), X2.less (w.heap.size + 1), rfl, rfl, .inl ⟨w.heap.size, ⟨RO.with_same _ _ _, hrr⟩, rfl, ⟨rfl, rfl, List.take_length⟩⟩, ?_, hs3'.put _ x2l⟩
      refine ⟨⟨fun b o hb => ?_, rfl, rfl, rfl⟩, ⟨fun b o hb => ?_, hx.lex.os.trans xle.os, hx.lex.tape.trans xle.tape, hx.lex.out.trans xle.out⟩, ⟨fun b o hb => ?_, (hx.lex.os.trans xle.os).trans hR.os, (hx.lex.tape.trans xle.tape).trans hR.tape, (hx.lex.out.trans xle.out).trans hR.out⟩, fun b hb => ?_⟩
      · rw [RO.with_ne _ _ (fun h => by subst h; rw [hrr] at hb; cases hb)]; exact hb
      · rw [RO.less_ne _ (fun h => by subst h; rw [hxl] at hb; cases hb)]; exact hx.lex.mem b o (xle.mem b o hb)
      · by_cases h2 : b = w.heap.size
        · subst h2
          rw [RO.with_same] at hb; cases hb
          rw [RO.less_ne _ (by omega)]; exact x2r
        · rw [RO.with_ne _ _ h2] at hb
          rw [RO.less_ne _ (fun h => by subst h; rw [hrl] at hb; cases hb)]
          exact hx.lex.mem b o (xle.mem b o (hR.mem b o hb))
      · by_cases h2 : b = w.heap.size
        · subst h2; exact .inr hxr
        · rw [RO.with_ne _ _ h2] at hb; exact .inl hb

def rgO : Code → Operand
  | .rangeFunc g _ _ _ => g
  | _ => .tmp 0
def rgP : Code → Array Tmp
  | .rangeFunc _ ps _ _ => ps
  | _ => #[]
def rgA : Code → Code
  | .rangeFunc _ _ a _ => a
  | c => c
def rgB : Code → Code
  | .rangeFunc _ _ _ b => b
  | c => c
theorem CT.range_none_eq {c : Code} {s : St} {R : RO} (f : FuncId) (cap : Array Value) (fp : List Nat) {k : Nat → Sc} (hc : c = .rangeFunc (rgO c) (rgP c) (rgA c) (rgB c)) (hg : ev s.tm (rgO c) = .func (.func f) #[] cap)
    (he : ∀ args : Array Value, pureE P (callFunc f args) = some (f, args)) (hfp : nodupN fp = true)
    (hd : ∀ (y : Value) (G : RO), Gives P f (y :: cap.toList) G (fp.map s.hp.at) (.ret (.tuple #[])) (fp.map s.hp.at)) :
    CT P c s R (altPost R (.altG Nat (fun r G => G.mem r = some (.deferred (some [])) ∧ R.mem r = none) (fun r => (.normal, ⟨s.tm, { target := .collected r, args := #[] } :: s.df, s.hp⟩)) k .altn)) := by
  have := CT.range_none (P := P) (ps := rgP c) (assign := rgA c) (body := rgB c) (s := s) (R := R) (f := f) (cap := cap) (fp := fp) (k := k) hg (fun args w => pureE_run (he args) w) hfp hd
  rw [← hc] at this
  exact this

variable (P)
/-- The end of a function that holds such a range. -/
def FinM (fn : Func) (Q : Out → RO → Hp → Prop) (R0 : RO) : Exit' → St → RO → Sc → Prop
  | .normal, s, G, .fin keep rp => match s.df, nodupN keep with
    | [⟨.collected r, _⟩], true => (G.mem r = some (.deferred (some [])) ∧ R0.mem r = none ∧ R0.le G) ∧ resK P fn.results.toList rp s [] fun vs => Q (.ret (tupV vs)) R0 (keep.map s.hp.at)
    | _, _ => False
  | .ret, s, G, .fin keep rp => match s.df, nodupN keep with
    | [⟨.collected r, _⟩], true => (G.mem r = some (.deferred (some [])) ∧ R0.mem r = none ∧ R0.le G) ∧ resK P fn.results.toList rp s [] fun vs => Q (.ret (tupV vs)) R0 (keep.map s.hp.at)
    | _, _ => False
  | _, _, _, _ => False
variable {P}

theorem Does.of_wpm {f : FuncId} {fn : Func} {args : List Value} {R : RO} {H : Hp} {Q : Out → RO → Hp → Prop} (sc : Sc)
    (hf : P.funcs[f]? = some fn) (hb : fn.body = some (fn.body.getD .skip)) (h : wp P (fn.body.getD .skip) (entry fn args H) R sc (FinM P fn Q R)) : Does P f args R H Q := by
  intro Rx w hR hs
  refine (callsIn_wide (n := 0)).1 (callsIn_of_wp_marks hf hb trivial ((wpIn_wide (n := 0)).2 ?_))
  have := wp_sound _ _ _ _ _ h Rx w hR hs
  have ha : (entry fn args H).act = { tmps := args.toArray ++ Array.replicate (fn.ntmps - args.toArray.size) undef, defers := [] } := by
    simp [entry, St.act]
  rw [ha] at this
  refine wp_mono this ?_
  rintro e a w' ⟨e', s, G, Rx', rfl, rfl, ⟨sc, hk⟩, hx, hs'⟩
  have key : (match s.df, sc with
      | [⟨.collected r, _⟩], .fin keep rp => nodupN keep = true ∧ (G.mem r = some (.deferred (some [])) ∧ R.mem r = none ∧ R.le G) ∧ resK P fn.results.toList rp s [] fun vs => Q (.ret (tupV vs)) R (keep.map s.hp.at)
      | _, _ => False) → LeavesInM Fence.wide 0 P fn s.act.tmps (fun e w' => ∃ o G H' Rx', e = Out.fin o ∧ Q o G H' ∧ Ext R Rx G Rx' ∧ Sat w' Rx' H') s.act.defers .returning w' := by
    intro h
    split at h
    · rename_i r ar keep rp hk' hdf
      obtain ⟨h0, ⟨h1, h2, h3⟩, h4⟩ := h
      have hxr : Rx.mem r = none := (hx.own r (by rw [h1]; simp)).resolve_left (fun hn => hn h2)
      have hr := hx.leg.mem _ _ h1
      show LeavesInM Fence.wide 0 P fn s.tm.toArray _ s.df .returning w'
      rw [hdf]
      refine ⟨by simp, .inl ⟨r, _, rfl, run_takeDeferred (hs'.ro _ _ hr), ?_⟩⟩
      have hs2 := hs'.put (.deferred none) hr
      obtain ⟨vs, g1, g2⟩ := resK_sound hs2 _ _ _ _ h4
      refine ⟨_, results_run g1, .ret (tupV vs), R, keep.map s.hp.at, _, rfl, by simpa using g2, ?_, hs2.keep (nodupN_spec h0)⟩
      refine ⟨R.le_refl, ⟨fun b o hb => ?_, hx.lex.os, hx.lex.tape, hx.lex.out⟩, ⟨fun b o hb => ?_, hx.lex.os.trans hR.os, hx.lex.tape.trans hR.tape, hx.lex.out.trans hR.out⟩, fun b hb => .inl hb⟩
      · rw [RO.less_ne _ (fun he => by subst he; rw [hxr] at hb; cases hb)]; exact hx.lex.mem b o hb
      · rw [RO.less_ne _ (fun he => by subst he; rw [h2] at hb; cases hb)]; exact hx.lex.mem b o (hR.mem b o hb)
    · exact h.elim
  cases e' with
  | normal =>
    refine key ?_
    unfold FinM at hk
    cases sc <;> simp only at hk <;> try exact hk.elim
    split at hk
    · rename_i r ar h1 h2; simp only [h1]; exact ⟨h2, hk⟩
    · exact hk.elim
  | ret =>
    refine key ?_
    unfold FinM at hk
    cases sc <;> simp only at hk <;> try exact hk.elim
    split at hk
    · rename_i r ar h1 h2; simp only [h1]; exact ⟨h2, hk⟩
    · exact hk.elim
  | panic v => unfold FinM at hk; cases sc <;> exact hk.elim
  | exit i => unfold FinM at hk; cases sc <;> exact hk.elim
  | goto i => unfold FinM at hk; cases sc <;> exact hk.elim

theorem Does.of_wpm_eq {f : FuncId} {fn : Func} {args : List Value} {R : RO} {H : Hp} {Q : Out → RO → Hp → Prop} {VC : Prop} (sc : Sc)
    (hf : P.funcs[f]? = some fn) (hb : fn.body = some (fn.body.getD .skip)) (he : wp P (fn.body.getD .skip) (entry fn args H) R sc (FinM P fn Q R) = VC) (h : VC) : Does P f args R H Q :=
  Does.of_wpm sc hf hb (he ▸ h)
end
end Vc
