import Derived.Test.YtejpoojgbnppoaaDoorVcU
/- Vc, part V: a range over a map, whatever its order; a range over a function that calls back, whatever with. -/
set_option linter.unusedVariables false
set_option linter.unusedSimpArgs false
namespace Vc
open Go

/-- An iterator over a map into which nothing is laid while it lasts. -/
def mit (M clk : Nat) (seen : List Nat) : Obj := .mapIter (some M) clk seen.toArray clk
/-- What is still to come. -/
def lft {α β : Type} (m : List (α × β × Nat)) (seen : List Nat) : List (α × β × Nat) := m.filter fun x => !seen.contains x.2.2

section
variable {P : Program} {α β : Type} {kf : α → Value} {vf : β → Value} {m : List (α × β × Nat)} {c M r : Nat} {seen : List Nat} {R : RO}

theorem run_getM {w : World} {r k : Nat} {es : Array MapEntry} (h : w.heap[r]? = some (.map es k)) : (getObj r).run P w = .ok (.map es k) w := by simp [getObj, Sem.run, h]
theorem run_getI {w : World} {r : Nat} (h : w.heap[r]? = some (mit M c seen)) : (getObj r).run P w = .ok (.mapIter (some M) c seen.toArray c) w := by simp [getObj, Sem.run, h, mit]
theorem rng_ok {t k e : TypeId} (ht : pureV P (underlying t) = some (.map k e)) :
    PrimOK P (.rng t (.map (some M))) R [some (M, .map (ents kf vf m) c)] Nat (fun _ => True) (fun a => (.pointer (some ⟨a, 0, none⟩), [some (M, .map (ents kf vf m) c), some (a, .obj (mit M c []))])) := by
  intro Rx w hR hs
  have hm : w.heap[M]? = some (.map (ents kf vf m).toArray c) := hs.own 0 M _ rfl
  refine ⟨w.heap.size, { w with heap := w.heap.push (.mapIter (some M) c #[] c) }, ?_, trivial, ?_⟩
  · simp only [PC.sem, Instr.range, Sem.run_bind, pureV_run ht w, Result.andThen_ok, run_getM (P := P) hm, Sem.run_pure]
    simp [newObj, Sem.run]
  · exact hs.put_new (o := .mapIter (some M) c #[] c) rfl (i := 1) rfl (B := .obj (mit M c [])) (by show (w.heap.push _)[w.heap.size]? = _; rw [Array.getElem?_push_size]; rfl) ⟨rfl, rfl, rfl⟩

theorem ents_lft : ((ents kf vf m).toArray.filter fun e => !seen.toArray.contains e.born) = (ents kf vf (lft m seen)).toArray := by
  rw [List.filter_toArray]
  congr 1
  unfold ents lft
  rw [List.filter_map]
  congr 1
  apply List.filter_congr
  intro x _
  simp
theorem ents_all (hS : Stm m c) : ((!seen.toArray.isEmpty && !(ents kf vf m).toArray.isEmpty && (ents kf vf m).toArray.all fun e => decide (e.born ≥ c)) : Bool) = false := by
  cases m with
  | nil => simp [ents]
  | cons x m =>
    have := hS.old x (List.mem_cons_self ..)
    simp [ents]
    intro _ h; omega
theorem ents_old (hS : Stm m c) : ((ents kf vf (lft m seen)).toArray.filter fun e => decide (e.born < c)) = (ents kf vf (lft m seen)).toArray := by
  rw [List.filter_toArray]
  congr 1
  apply List.filter_eq_self.2
  intro e he
  simp only [ents, List.mem_map] at he
  obtain ⟨x, hx, rfl⟩ := he
  have := hS.old x (List.mem_filter.1 hx).1
  simpa using this
theorem ents_new (hS : Stm m c) : ((ents kf vf (lft m seen)).toArray.filter fun e => decide (e.born ≥ c)) = #[] := by
  rw [List.filter_toArray]
  congr 1
  apply List.filter_eq_nil_iff.2
  intro e he
  simp only [ents, List.mem_map] at he
  obtain ⟨x, hx, rfl⟩ := he
  have := hS.old x (List.mem_filter.1 hx).1
  simp; omega

theorem nxt_done {t : TypeId} (hS : Stm m c) (hl : lft m seen = []) :
    Prim0 P (.nxt t (.pointer (some ⟨r, 0, none⟩)) false) R [some (M, .map (ents kf vf m) c), some (r, .obj (mit M c seen))] (.tuple #[.bool false]) [some (M, .map (ents kf vf m) c), some (r, .obj (mit M c seen))] := by
  intro Rx w hR hs
  have hm : w.heap[M]? = some (.map (ents kf vf m).toArray c) := hs.own 0 M _ rfl
  have hi : w.heap[r]? = some (mit M c seen) := hs.own 1 r _ rfl
  refine ⟨w, ?_, hs⟩
  simp only [PC.sem, Instr.next, Sem.run_bind, run_getI (P := P) hi, Result.andThen_ok, run_getM (P := P) hm, ents_all (seen := seen) hS, ents_lft, ents_old hS, ents_new hS, Bool.false_eq_true, if_false, Sem.run_pure]
  simp [hl, ents, choose, Sem.run, Question.forced]

theorem nxt_more {t : TypeId} (hS : Stm m c) (hl : lft m seen ≠ []) :
    PrimOK P (.nxt t (.pointer (some ⟨r, 0, none⟩)) false) R [some (M, .map (ents kf vf m) c), some (r, .obj (mit M c seen))] {x : α × β × Nat // x ∈ lft m seen} (fun _ => True)
      (fun x => (.tuple #[.bool true, kf x.1.1, vf x.1.2.1], [some (M, .map (ents kf vf m) c), some (r, .obj (mit M c (seen ++ [x.1.2.2])))])) := by
  intro Rx w hR hs
  have hm : w.heap[M]? = some (.map (ents kf vf m).toArray c) := hs.own 0 M _ rfl
  have hi : w.heap[r]? = some (mit M c seen) := hs.own 1 r _ rfl
  have hlen : 0 < (lft m seen).length := List.length_pos_iff.2 hl
  obtain ⟨i, w1, hc, hi2, hh, hsm⟩ : ∃ i w1, (choose (.mapNext (lft m seen).length)).run P w = .ok i w1 ∧ i < (lft m seen).length ∧ w1.heap = w.heap ∧ Same w w1 := by
    rw [Go.run_choose_drew]
    split
    · exact ⟨0, w, rfl, hlen, rfl, .refl w⟩
    · exact ⟨_, w.drew, rfl, Nat.mod_lt _ hlen, rfl, ⟨rfl, rfl, rfl⟩⟩
  have hs1 := hs.heap hh hsm
  have hx : (lft m seen)[i]? = some (lft m seen)[i] := List.getElem?_eq_getElem hi2
  have hi1 : w1.heap[r]? = some (mit M c seen) := by rw [hh]; exact hi
  have hlt := (Array.getElem?_eq_some_iff.1 hi1).1
  refine ⟨⟨(lft m seen)[i], List.getElem_mem _⟩, { w1 with heap := w1.heap.setIfInBounds r (mit M c (seen ++ [(lft m seen)[i].2.2])) }, ?_, trivial, ?_⟩
  · have hcand : (((if (ents kf vf (lft m seen)).toArray.isEmpty then #[none] else #[]) ++ ((ents kf vf (lft m seen)).toArray ++ #[]).map some : Array (Option MapEntry))) = ((ents kf vf (lft m seen)).map some).toArray := by
      have : (ents kf vf (lft m seen)).toArray.isEmpty = false := by
        cases h : lft m seen with
        | nil => exact (hl h).elim
        | cons y ys => simp [ents]
      rw [this]; simp
    have hsz : ((ents kf vf (lft m seen)).map some).toArray.size = (lft m seen).length := by simp [ents]
    have hget : ((ents kf vf (lft m seen)).map some).toArray[i]? = some (some ⟨kf (lft m seen)[i].1, vf (lft m seen)[i].2.1, (lft m seen)[i].2.2⟩) := by
      simp [ents, hx]
    simp only [PC.sem, Instr.next, Sem.run_bind, run_getI (P := P) hi, Result.andThen_ok, run_getM (P := P) hm, ents_all (seen := seen) hS, ents_lft, ents_old hS, ents_new hS, Bool.false_eq_true, if_false, Sem.run_pure, hcand, hsz, hc, hget]
    have hset : ∀ o', (setObj r o').run P w1 = .ok () { w1 with heap := w1.heap.setIfInBounds r o' } := fun o' => by simp [setObj, Sem.run, hi1, mit]
    rw [hset]
    simp [mit]
  · exact hs1.put_upd (i := 1) (ad := r) (B := .obj (mit M c seen)) (B' := .obj (mit M c (seen ++ [(lft m seen)[i].2.2]))) rfl rfl (by simp [Blk.at, hlt]) ⟨rfl, rfl, rfl⟩

theorem find_born {x : α × β × Nat} : ∀ {m : List (α × β × Nat)}, x ∈ m → (m.map (·.2.2)).Nodup → (ents kf vf m).find? (fun e => e.born == x.2.2) = some ⟨kf x.1, vf x.2.1, x.2.2⟩
  | [], h, _ => by cases h
  | y :: m, h, hn => by
    simp only [List.map_cons, List.nodup_cons] at hn
    show List.find? _ (_ :: ents kf vf m) = _
    rcases List.mem_cons.1 h with rfl | h
    · simp [List.find?]
    · have : ¬ y.2.2 = x.2.2 := fun he => hn.1 (he ▸ List.mem_map_of_mem h)
      rw [List.find?_cons_of_neg (by simpa using this)]
      exact find_born h hn.2
theorem ent_ok {x : α × β × Nat} (hS : Stm m c) (hx : x ∈ m) :
    Prim0 P (.ent (.pointer (some ⟨r, 0, none⟩))) R [some (M, .map (ents kf vf m) c), some (r, .obj (mit M c (seen ++ [x.2.2])))] (.tuple #[kf x.1, vf x.2.1]) [some (M, .map (ents kf vf m) c), some (r, .obj (mit M c (seen ++ [x.2.2])))] := by
  intro Rx w hR hs
  have hm : w.heap[M]? = some (.map (ents kf vf m).toArray c) := hs.own 0 M _ rfl
  have hi : w.heap[r]? = some (mit M c (seen ++ [x.2.2])) := hs.own 1 r _ rfl
  refine ⟨w, ?_, hs⟩
  have hb : (seen ++ [x.2.2]).toArray.back? = some x.2.2 := by simp
  have hf : (ents kf vf m).toArray.find? (fun e => e.born == x.2.2) = some ⟨kf x.1, vf x.2.1, x.2.2⟩ := by
    rw [List.find?_toArray]; exact find_born hx hS.born
  simp only [PC.sem, Instr.entry, Sem.run_bind, run_getI (P := P) hi, Result.andThen_ok, hb, run_getM (P := P) hm, Sem.run_pure, bne_self_eq_false, Bool.false_eq_true, if_false, hf]
end

/-! ## A range over a function that calls back -/
section
variable {P : Program}
/-- What a call of a round's function does, by a state. -/
abbrev YDoesJ (P : Program) (l : Nat) (args : List Value) (R : RO) (H : Hp) {σ : Type} (Hs : σ → Hp) (K : σ → Prop) : Prop := YDoes P l args R H {y : σ // K y} fun y => (.bool true, Hs y.1)
def RBk {σ : Type} (Hs : σ → Hp) (K : σ → Prop) : Exit' → St → RO → Prop := fun e s _ => e = .normal ∧ ∃ y, K y ∧ s.hp.take (Hs y).length = Hs y
def RBK (ro : Option Nat) (P : Program) (asg bd : Code) (s : St) (R : RO) {σ : Type} (Hs : σ → Hp) (K : σ → Prop) : Prop :=
  CTI P ro asg s R fun e s' G => e = .normal ∧ CTI P ro bd s' G (RBk Hs K)
theorem RBK.of_eq {ro : Option Nat} {asg bd : Code} {s : St} {R : RO} {σ : Type} {Hs : σ → Hp} {K : σ → Prop} {VC : Prop} (sc : Sc)
    (he : wpY P ro asg s R sc (fun e s' G sc' => match e with
      | .normal => wpY P ro bd s' G sc' fun e s' G _ => RBk Hs K e s' G
      | _ => False) = VC) (h : VC) : RBK ro P asg bd s R Hs K := by
  have := wpY_sound _ _ _ _ _ (he ▸ h)
  refine fun Rx w hR hs => wpIn_mono (this Rx w hR hs) fun e a w hl => Lift.mono ?_ hl
  rintro e s' G _ ⟨sc', hk⟩
  cases e with
  | normal => exact ⟨rfl, fun Rx w hR hs => wpIn_mono (wpY_sound _ _ _ _ _ hk Rx w hR hs) fun e a w hl => Lift.mono (fun e s G _ ⟨_, h⟩ => h) hl⟩
  | _ => exact hk.elim
/-- The rounds of a range, by their bodies: what a round leaves is told by a state. -/
theorem YDoesJ.of {σ : Type} {Hs : σ → Hp} {K : σ → Prop} {l : Nat} {args : List Value} {R R1 : RO} {H : Hp} {tm : List Value} {ps : Array Tmp} {asg bd : Code} {fn : FuncId} {db : Nat}
    (hn : args.length = ps.size) (hle : R.le R1) (hl : R.mem l = none)
    (hr : R1.mem l = some (.loop { state := .ready, pending := none, fn, tmps := tm.toArray, params := ps, assign := asg, body := bd, defers := db }))
    (hb : RBK (some l) P asg bd ⟨putps tm ps.toList args, [], H⟩ R Hs K) : YDoesJ P l args R1 H Hs K := by
  intro Rx w hR hs
  have hrx := hR.mem _ _ hr
  obtain ⟨rec, hrec⟩ : ∃ rec : LoopState → Loop, rec = fun st => { state := st, pending := none, fn, tmps := tm.toArray, params := ps, assign := asg, body := bd, defers := db } := ⟨_, rfl⟩
  have hrx' : Rx.mem l = some (.loop (rec .ready)) := by rw [hrec]; exact hrx
  have h0 := run_yield (P := P) (args := args.toArray) (hs.ro _ _ hrx) (by simpa using hn)
  refine ⟨_, _, _, _, h0, ?_⟩
  refine roundIn_of_wpIn (F := Fence.wide) trivial ?_
  have ht : ((ps.zip args.toArray).foldl (fun (tmps : Array Value) (x : Tmp × Value) => tmps.setIfInBounds x.1 x.2) tm.toArray) = (putps tm ps.toList args).toArray := by
    exact putps_eq ps args tm
  have hst : ({ tmps := (ps.zip args.toArray).foldl (fun (tmps : Array Value) (x : Tmp × Value) => tmps.setIfInBounds x.1 x.2) tm.toArray, defers := [] } : Act) = St.act ⟨putps tm ps.toList args, [], H⟩ := by
    rw [ht]; rfl
  show Code.wpIn (Fence.wide.inRound l) 0 P asg _ ({ tmps := (ps.zip args.toArray).foldl (fun (tmps : Array Value) (x : Tmp × Value) => tmps.setIfInBounds x.1 x.2) tm.toArray, defers := [] } : Act) w
  rw [hst]
  refine wpIn_mono (hb Rx w (RO.le_trans hle hR) hs) ?_
  rintro e a w1 ⟨e', s1, G, X1, rfl, rfl, ⟨rfl, hbd⟩, hx1, hs1⟩
  have x1l := hx1.lex.mem _ _ hrx'
  have gl : G.mem l = none := by
    cases hg : G.mem l with
    | none => rfl
    | some o =>
      rcases hx1.own l (by rw [hg]; simp) with h | h
      · exact (h hl).elim
      · rw [hrx'] at h; cases h
  have hs2 := hs1.set (.loop (rec .busy)) x1l
  have hle2 : G.le (X1.with l (.loop (rec .busy))) := by
    refine ⟨fun b o hk => ?_, hx1.leg.os, hx1.leg.tape, hx1.leg.out⟩
    rw [RO.with_ne _ _ (fun h => by rw [h, gl] at hk; cases hk)]
    exact hx1.leg.mem b o hk
  have hrb : ({ rec .ready with state := .busy } : Loop) = rec .busy := by rw [hrec]
  have hbr := run_beginRound (P := P) (r := rec .ready) (hs1.ro _ _ x1l) (by rw [hrec])
  rw [hrb] at hbr
  refine ⟨_, hbr, ?_⟩
  refine wpIn_mono (hbd _ _ hle2 hs2) ?_
  rintro e a w3 ⟨e', s2, G2, X3, rfl, rfl, ⟨rfl, y, hy, hB⟩, hx3, hs3⟩
  have x3l := hx3.lex.mem l _ (RO.with_same _ _ _)
  have hs4 := hs3.set (.loop (rec .ready)) x3l
  have hre : ({ rec .busy with state := .ready, pending := none } : Loop) = rec .ready := by rw [hrec]
  have her := run_endRound (P := P) none (hs3.ro _ _ x3l)
  simp only [Option.isNone_none, if_true] at her
  rw [hre] at her
  refine ⟨_, _, her, ⟨y, hy⟩, X3.with l (.loop (rec .ready)), rfl, ⟨R1.le_refl, ?_, ?_, fun b hb => .inl hb⟩, ?_⟩
  · refine ⟨fun b o hk => ?_, (hx3.lex.os.trans hx1.lex.os), (hx3.lex.tape.trans hx1.lex.tape), (hx3.lex.out.trans hx1.lex.out)⟩
    by_cases he : b = l
    · rw [he, hrx'] at hk; cases hk
      rw [he]; exact RO.with_same _ _ _
    · rw [RO.with_ne _ _ he]
      refine hx3.lex.mem b o ?_
      rw [RO.with_ne _ _ he]
      exact hx1.lex.mem b o hk
  · refine ⟨fun b o hk => ?_, (hx3.lex.os.trans hx1.lex.os).trans hR.os, (hx3.lex.tape.trans hx1.lex.tape).trans hR.tape, (hx3.lex.out.trans hx1.lex.out).trans hR.out⟩
    have hk' := hR.mem b o hk
    by_cases he : b = l
    · rw [he, hrx'] at hk'; cases hk'
      rw [he]; exact RO.with_same _ _ _
    · rw [RO.with_ne _ _ he]
      refine hx3.lex.mem b o ?_
      rw [RO.with_ne _ _ he]
      exact hx1.lex.mem b o hk'
  · have : Sat (w3.putObj l (.loop (rec .ready))) (X3.with l (.loop (rec .ready))) (Hs y) := by
      rw [← hB]
      exact ⟨hs4.ro, fun i a B hi => hs4.own i a B (Hp.at_take hi), fun i a B hi => hs4.off i a B (Hp.at_take hi), fun i j a B C hi hj => hs4.one i j a B C (Hp.at_take hi) (Hp.at_take hj), hs4.os, hs4.tape, hs4.out⟩
    exact this

/-- A range over a function that calls back, with whatever. -/
theorem CT.range_runJ {α σ : Type} {g : Operand} {ps : Array Tmp} {assign body : Code} {s : St} {R : RO} {f : FuncId} {cap : Array Value} {k : Nat × σ → Sc} (n : Nat) (enc : α → List Value) (Hs : σ → Hp) (J : List α → σ → Prop) (F : List α → Prop) (z : σ)
    (hg : ev s.tm g = .func (.func f) #[] cap) (he : ∀ args w, (callFunc f args).run P w = .ok (.enter f args) w) (h0 : s.hp = Hs z) (hlen : ∀ x, (enc x).length = ps.size)
    (hbody : ∀ pre x y, J pre y → pre.length < n → ∀ l, RBK (some l) P assign body ⟨putps s.tm ps.toList (enc x), [], Hs y⟩ R Hs (J (pre ++ [x])))
    (hcall : ∀ (l : Nat) (R1 : RO), R.le R1 → (∀ pre x y, J pre y → pre.length < n → YDoesJ P l (enc x) R1 (Hs y) Hs (J (pre ++ [x]))) →
      Does P f (.func (.yield l) #[] #[] :: cap.toList) R1 (Hs z) fun o G B => G = R1 ∧ o = .ret (.tuple #[]) ∧ ∃ pre y, J pre y ∧ F pre ∧ B = Hs y) :
    CT P (.rangeFunc g ps assign body) s R (altPost R (.altG (Nat × σ) (fun x G => (G.mem x.1 = some (.deferred (some [])) ∧ R.mem x.1 = none) ∧ ∃ pre, J pre x.2 ∧ F pre) (fun x => (.normal, ⟨s.tm, { target := .collected x.1, args := #[] } :: s.df, Hs x.2⟩)) k .altn)) := by
  intro Rx w hR hs
  rw [← wpIn_wide (n := 1)]
  refine wpIn_rangeFunc ?_
  intro fn hfn
  obtain ⟨rec, hrec⟩ : ∃ rec : LoopState → Option Code → Loop, rec = fun st pe => { state := st, pending := pe, fn, tmps := s.act.tmps, params := ps, assign, body, defers := w.heap.size } := ⟨_, rfl⟩
  have hsz : (w.alloc (.deferred (some []))).heap.size = w.heap.size + 1 := World.size_alloc _ _
  have hs1 := (hs.alloc (.deferred (some []))).alloc (.loop (rec .ready none))
  rw [hsz] at hs1
  have hxr : Rx.mem w.heap.size = none := hs.fresh
  have hxl : Rx.mem (w.heap.size + 1) = none := by
    cases hr : Rx.mem (w.heap.size + 1) with
    | none => rfl
    | some o => have := (Array.getElem?_eq_some_iff.1 (hs.ro _ _ hr)).1; omega
  have hrr := RO.none_of_le hR hxr
  have hrl := RO.none_of_le hR hxl
  obtain ⟨R1, hR1⟩ : ∃ R1, (R.with w.heap.size (.deferred (some []))).with (w.heap.size + 1) (.loop (rec .ready none)) = R1 := ⟨_, rfl⟩
  obtain ⟨X1, hX1⟩ : ∃ X1, (Rx.with w.heap.size (.deferred (some []))).with (w.heap.size + 1) (.loop (rec .ready none)) = X1 := ⟨_, rfl⟩
  rw [hX1] at hs1
  have le1 : R1.le X1 := by
    rw [← hR1, ← hX1]
    refine ⟨fun b o hb => ?_, hR.os, hR.tape, hR.out⟩
    by_cases h1 : b = w.heap.size + 1
    · subst h1; rw [RO.with_same] at hb ⊢; exact hb
    · rw [RO.with_ne _ _ h1] at hb ⊢
      by_cases h2 : b = w.heap.size
      · subst h2; rw [RO.with_same] at hb ⊢; exact hb
      · rw [RO.with_ne _ _ h2] at hb ⊢; exact hR.mem b o hb
  have le0 : R.le R1 := by
    rw [← hR1]
    refine ⟨fun b o hb => ?_, rfl, rfl, rfl⟩
    rw [RO.with_ne _ _ (fun h => by subst h; rw [hrl] at hb; cases hb), RO.with_ne _ _ (fun h => by subst h; rw [hrr] at hb; cases hb)]
    exact hb
  have xl : X1.mem (w.heap.size + 1) = some (.loop (rec .ready none)) := by rw [← hX1]; exact RO.with_same _ _ _
  have r1l : R1.mem (w.heap.size + 1) = some (.loop (rec .ready none)) := by rw [← hR1]; exact RO.with_same _ _ _
  have xr : X1.mem w.heap.size = some (.deferred (some [])) := by rw [← hX1, RO.with_ne _ _ (by omega)]; exact RO.with_same _ _ _
  have xle : Rx.le X1 := by
    rw [← hX1]
    refine ⟨fun b o hb => ?_, rfl, rfl, rfl⟩
    rw [RO.with_ne _ _ (fun h => by subst h; rw [hxl] at hb; cases hb), RO.with_ne _ _ (fun h => by subst h; rw [hxr] at hb; cases hb)]
    exact hb
  refine ⟨w.heap.size + 1, [{ target := .collected w.heap.size, args := #[] }], (w.alloc (.deferred (some []))).alloc (.loop (rec .ready none)), { target := .fn (.func f) cap, args := #[.func (.yield (w.heap.size + 1)) #[] #[]] },
    (w.alloc (.deferred (some []))).alloc (.loop (rec .ready none)), f, #[.func (.yield (w.heap.size + 1)) #[] #[]] ++ cap, (w.alloc (.deferred (some []))).alloc (.loop (rec .ready none)), ?_, ?_, ?_, ?_, fun _ => Nat.le_refl 1, ?_⟩
  · rw [hrec]; exact run_enterLoop_outer _ _ _ _ _
  · have hg' : s.act.eval g = .func (.func f) #[] cap := by rw [St.eval]; exact hg
    simp only [resolve, hg']
    simp [go_sem]
  · intro f' hf'; simp [Target.leads] at hf'; subst hf'; trivial
  · simp [invoke, go_sem, he]
  · refine (callsIn_wide (n := 1 - 1)).2 ?_
    have hy : ∀ pre x y, J pre y → pre.length < n → YDoesJ P (w.heap.size + 1) (enc x) R1 (Hs y) Hs (J (pre ++ [x])) := fun pre x y hj hn =>
      YDoesJ.of (R := R) (tm := s.tm) (fn := fn) (db := w.heap.size) (hlen x) le0 hrl (by rw [r1l, hrec]; rfl) (hbody pre x y hj hn _)
    have hcall := hcall (w.heap.size + 1) R1 le0 hy X1 _ le1 (h0 ▸ hs1)
    have ha : (Value.func (.yield (w.heap.size + 1)) #[] #[] :: cap.toList).toArray = #[.func (.yield (w.heap.size + 1)) #[] #[]] ++ cap := by simp
    rw [ha] at hcall
    refine hcall.mono ?_
    rintro e w3 ⟨o, G, B, X2, rfl, ⟨rfl, rfl, pre, y, hJ, hF, rfl⟩, hx, hs3⟩
    have x2l := hx.lex.mem _ _ xl
    have x2r := hx.lex.mem _ _ xr
    refine ⟨none, w3.putObj (w.heap.size + 1) (.loop (rec .exhausted none)), ?_, ?_⟩
    · have := run_endLoop (P := P) (hs3.ro _ _ x2l) (by rw [hrec]; simp)
      rw [hrec] at this ⊢; exact this
    · refine ⟨.normal, ⟨s.tm, { target := .collected w.heap.size, args := #[] } :: s.df, Hs y⟩, R.with w.heap.size (.deferred (some [])), X2.less (w.heap.size + 1), rfl, rfl, .inl ⟨(w.heap.size, y), ⟨⟨RO.with_same _ _ _, hrr⟩, pre, hJ, hF⟩, rfl, ⟨rfl, rfl, List.take_length⟩⟩, ?_, hs3.put _ x2l⟩
      refine ⟨⟨fun b o hb => ?_, rfl, rfl, rfl⟩, ⟨fun b o hb => ?_, hx.lex.os.trans xle.os, hx.lex.tape.trans xle.tape, hx.lex.out.trans xle.out⟩, ⟨fun b o hb => ?_, (hx.lex.os.trans xle.os).trans hR.os, (hx.lex.tape.trans xle.tape).trans hR.tape, (hx.lex.out.trans xle.out).trans hR.out⟩, fun b hb => ?_⟩
      · rw [RO.with_ne _ _ (fun h => by subst h; rw [hrr] at hb; cases hb)]; exact hb
      · rw [RO.less_ne _ (fun h => by subst h; rw [hxl] at hb; cases hb)]; exact hx.lex.mem b o (xle.mem b o hb)
      · by_cases h2 : b = w.heap.size
        · subst h2
          rw [RO.with_same] at hb; cases hb
          rw [RO.less_ne _ (by omega)]; exact x2r
        · rw [RO.with_ne _ _ h2] at hb
          rw [RO.less_ne _ (fun h => by subst h; rw [hrl] at hb; cases hb)]
          exact hx.lex.mem b o (xle.mem b o (hR.mem b o hb))
      · by_cases h2 : b = w.heap.size
        · subst h2; exact .inr hxr
        · rw [RO.with_ne _ _ h2] at hb; exact .inl hb


theorem CT.range_runJ_eq {α σ : Type} {c : Code} {s : St} {R : RO} (f : FuncId) (cap : Array Value) {k : Nat × σ → Sc} (n : Nat) (enc : α → List Value) (Hs : σ → Hp) (J : List α → σ → Prop) (F : List α → Prop) (z : σ)
    (hc : c = .rangeFunc (rgO c) (rgP c) (rgA c) (rgB c)) (hg : ev s.tm (rgO c) = .func (.func f) #[] cap) (he : ∀ args : Array Value, pureE P (callFunc f args) = some (f, args)) (h0 : s.hp = Hs z) (hlen : ∀ x, (enc x).length = (rgP c).size)
    (hbody : ∀ pre x y, J pre y → pre.length < n → ∀ l, RBK (some l) P (rgA c) (rgB c) ⟨putps s.tm (rgP c).toList (enc x), [], Hs y⟩ R Hs (J (pre ++ [x])))
    (hcall : ∀ (l : Nat) (R1 : RO), R.le R1 → (∀ pre x y, J pre y → pre.length < n → YDoesJ P l (enc x) R1 (Hs y) Hs (J (pre ++ [x]))) →
      Does P f (.func (.yield l) #[] #[] :: cap.toList) R1 (Hs z) fun o G B => G = R1 ∧ o = .ret (.tuple #[]) ∧ ∃ pre y, J pre y ∧ F pre ∧ B = Hs y) :
    CT P c s R (altPost R (.altG (Nat × σ) (fun x G => (G.mem x.1 = some (.deferred (some [])) ∧ R.mem x.1 = none) ∧ ∃ pre, J pre x.2 ∧ F pre) (fun x => (.normal, ⟨s.tm, { target := .collected x.1, args := #[] } :: s.df, Hs x.2⟩)) k .altn)) := by
  have := CT.range_runJ (P := P) (ps := rgP c) (assign := rgA c) (body := rgB c) (s := s) (R := R) (f := f) (cap := cap) (k := k) n enc Hs J F z hg (fun args w => pureE_run (he args) w) h0 hlen hbody hcall
  rw [← hc] at this
  exact this
end
end Vc
