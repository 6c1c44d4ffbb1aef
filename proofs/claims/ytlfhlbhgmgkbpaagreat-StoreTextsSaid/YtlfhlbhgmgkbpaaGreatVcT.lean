import Derived.Test.YtlfhlbhgmgkbpaaGreatVcS
/- Vc, part T: a range over a function that calls back; such a function. -/
set_option linter.unusedVariables false
set_option linter.unusedSimpArgs false
namespace Vc
open Go

/-- The fence that asks nothing, in a round's frame or in none. -/
def rf (ro : Option Nat) : Fence := { Fence.wide with round := ro }

section
variable {P : Program}

/-- What a call of a round's own function does. -/
def YDoes (P : Program) (l : Nat) (args : List Value) (R : RO) (H : Hp) (X : Type) (g : X → Value × Hp) : Prop :=
  ∀ Rx w, R.le Rx → Sat w Rx H → ∃ f tmps assign body, (Instr.yield l args.toArray).run P w = .ok (.round l f tmps assign body) w ∧
    RoundIn Fence.wide 0 P l f tmps assign body w fun e w' => ∃ x Rx', e = .returned (g x).1 ∧ Ext R Rx R Rx' ∧ Sat w' Rx' (g x).2
abbrev YGives (P : Program) (l : Nat) (args : List Value) (R : RO) (H B : Hp) : Prop := YDoes P l args R H Unit fun _ => (.bool true, B)

variable (P)
variable {P}
/-- A piece of code, in a round's frame or in none. -/
def CTI (P : Program) (ro : Option Nat) (c : Code) (s : St) (R : RO) (K : Exit' → St → RO → Prop) : Prop :=
  ∀ Rx w, R.le Rx → Sat w Rx s.hp → c.wpIn (rf ro) 0 P (Lift R Rx K) s.act w
variable (P)
variable {P}

/-- A round is to end where it is off its end, with these blocks. -/
def RB (B : Hp) : Exit' → St → RO → Prop := fun e s _ => e = .normal ∧ s.hp.take B.length = B
def RBs (ro : Option Nat) (P : Program) (as bd : Code) (s : St) (R : RO) (B : Hp) : Prop :=
  CTI P ro as s R fun e s' G => e = .normal ∧ CTI P ro bd s' G (RB B)
def putps : List Value → List Tmp → List Value → List Value
  | tm, p :: ps, v :: vs => putps (tput tm p v) ps vs
  | tm, _, _ => tm
theorem putps_list : ∀ (ps : List Tmp) (vs tm : List Value), (ps.zip vs).foldl (fun (t : Array Value) (x : Tmp × Value) => t.setIfInBounds x.1 x.2) tm.toArray = (putps tm ps vs).toArray
  | [], vs, tm => by simp [putps]
  | p :: ps, [], tm => by simp [putps]
  | p :: ps, v :: vs, tm => by
    have := putps_list ps vs (tput tm p v)
    simp only [putps]
    rw [← this]
    simp [tput_eq]
theorem putps_eq (ps : Array Tmp) (vs tm : List Value) : ((ps.zip vs.toArray).foldl (fun (t : Array Value) (x : Tmp × Value) => t.setIfInBounds x.1 x.2) tm.toArray) = (putps tm ps.toList vs).toArray := by
  rw [← putps_list]
  rw [← Array.foldl_toList]
  simp

theorem Sat.set {w : World} {R : RO} {H : Hp} {b : Nat} {x : Obj} (o : Obj) (h : Sat w R H) (hb : R.mem b = some x) : Sat (w.putObj b o) (R.with b o) H := by
  have hlt := (Array.getElem?_eq_some_iff.1 (h.ro b x hb)).1
  have h2 := h.put o hb
  refine ⟨fun k y hk => ?_, h2.own, fun i a B hi => ?_, h2.one, h2.os, h2.tape, h2.out⟩
  · by_cases he : k = b
    · subst he; rw [RO.with_same] at hk; cases hk
      exact World.putObj_heap_same hlt
    · rw [RO.with_ne _ _ he] at hk
      rw [World.putObj_heap_other he]; exact h.ro k y hk
  · have hne : a ≠ b := fun he => by subst he; rw [h.off i a B hi] at hb; cases hb
    rw [RO.with_ne _ _ hne]; exact h.off i a B hi

/-- The rounds of a range, by their bodies. -/
theorem YGives.of {l : Nat} {args : List Value} {R R1 : RO} {H B : Hp} {tm : List Value} {ps : Array Tmp} {as bd : Code} {fn : FuncId} {db : Nat}
    (hn : args.length = ps.size) (hle : R.le R1) (hl : R.mem l = none)
    (hr : R1.mem l = some (.loop { state := .ready, pending := none, fn, tmps := tm.toArray, params := ps, assign := as, body := bd, defers := db }))
    (hb : RBs (some l) P as bd ⟨putps tm ps.toList args, [], H⟩ R B) : YGives P l args R1 H B := by
  intro Rx w hR hs
  have hrx := hR.mem _ _ hr
  obtain ⟨rec, hrec⟩ : ∃ rec : LoopState → Loop, rec = fun st => { state := st, pending := none, fn, tmps := tm.toArray, params := ps, assign := as, body := bd, defers := db } := ⟨_, rfl⟩
  have hrx' : Rx.mem l = some (.loop (rec .ready)) := by rw [hrec]; exact hrx
  have h0 := run_yield (P := P) (args := args.toArray) (hs.ro _ _ hrx) (by simpa using hn)
  refine ⟨_, _, _, _, h0, ?_⟩
  refine roundIn_of_wpIn (F := Fence.wide) trivial ?_
  have ht : ((ps.zip args.toArray).foldl (fun (tmps : Array Value) (x : Tmp × Value) => tmps.setIfInBounds x.1 x.2) tm.toArray) = (putps tm ps.toList args).toArray := by
    exact putps_eq ps args tm
  have hst : ({ tmps := (ps.zip args.toArray).foldl (fun (tmps : Array Value) (x : Tmp × Value) => tmps.setIfInBounds x.1 x.2) tm.toArray, defers := [] } : Act) = St.act ⟨putps tm ps.toList args, [], H⟩ := by
    rw [ht]; rfl
  show Code.wpIn (Fence.wide.inRound l) 0 P as _ ({ tmps := (ps.zip args.toArray).foldl (fun (tmps : Array Value) (x : Tmp × Value) => tmps.setIfInBounds x.1 x.2) tm.toArray, defers := [] } : Act) w
  rw [hst]
  refine wpIn_mono (hb Rx w (RO.le_trans hle hR) hs) ?_
  rintro e a w1 ⟨e', s1, G, X1, rfl, rfl, ⟨rfl, hbd⟩, hx1, hs1⟩
  have x1l := hx1.lex.mem _ _ hrx'
  have gl : G.mem l = none := by
    cases hg : G.mem l with
    | none => rfl
    | some o =>
      rcases hx1.own l (by rw [hg]; simp) with h | h
      · exact (h hl).elim
      · rw [hrx'] at h; cases h
  have hs2 := hs1.set (.loop (rec .busy)) x1l
  have hle2 : G.le (X1.with l (.loop (rec .busy))) := by
    refine ⟨fun b o hk => ?_, hx1.leg.os, hx1.leg.tape, hx1.leg.out⟩
    rw [RO.with_ne _ _ (fun h => by rw [h, gl] at hk; cases hk)]
    exact hx1.leg.mem b o hk
  have hrb : ({ rec .ready with state := .busy } : Loop) = rec .busy := by rw [hrec]
  have hbr := run_beginRound (P := P) (r := rec .ready) (hs1.ro _ _ x1l) (by rw [hrec])
  rw [hrb] at hbr
  refine ⟨_, hbr, ?_⟩
  refine wpIn_mono (hbd _ _ hle2 hs2) ?_
  rintro e a w3 ⟨e', s2, G2, X3, rfl, rfl, ⟨rfl, hB⟩, hx3, hs3⟩
  have x3l := hx3.lex.mem l _ (RO.with_same _ _ _)
  have hs4 := hs3.set (.loop (rec .ready)) x3l
  have hre : ({ rec .busy with state := .ready, pending := none } : Loop) = rec .ready := by rw [hrec]
  have her := run_endRound (P := P) none (hs3.ro _ _ x3l)
  simp only [Option.isNone_none, if_true] at her
  rw [hre] at her
  refine ⟨_, _, her, (), X3.with l (.loop (rec .ready)), rfl, ⟨R1.le_refl, ?_, ?_, fun b hb => .inl hb⟩, ?_⟩
  · refine ⟨fun b o hk => ?_, (hx3.lex.os.trans hx1.lex.os), (hx3.lex.tape.trans hx1.lex.tape), (hx3.lex.out.trans hx1.lex.out)⟩
    by_cases he : b = l
    · rw [he, hrx'] at hk; cases hk
      rw [he]; exact RO.with_same _ _ _
    · rw [RO.with_ne _ _ he]
      refine hx3.lex.mem b o ?_
      rw [RO.with_ne _ _ he]
      exact hx1.lex.mem b o hk
  · refine ⟨fun b o hk => ?_, (hx3.lex.os.trans hx1.lex.os).trans hR.os, (hx3.lex.tape.trans hx1.lex.tape).trans hR.tape, (hx3.lex.out.trans hx1.lex.out).trans hR.out⟩
    have hk' := hR.mem b o hk
    by_cases he : b = l
    · rw [he, hrx'] at hk'; cases hk'
      rw [he]; exact RO.with_same _ _ _
    · rw [RO.with_ne _ _ he]
      refine hx3.lex.mem b o ?_
      rw [RO.with_ne _ _ he]
      exact hx1.lex.mem b o hk'
  · have : Sat (w3.putObj l (.loop (rec .ready))) (X3.with l (.loop (rec .ready))) B := by
      rw [← hB]
      exact ⟨hs4.ro, fun i a B hi => hs4.own i a B (Hp.at_take hi), fun i a B hi => hs4.off i a B (Hp.at_take hi), fun i j a B C hi hj => hs4.one i j a B C (Hp.at_take hi) (Hp.at_take hj), hs4.os, hs4.tape, hs4.out⟩
    exact this

end
end Vc
