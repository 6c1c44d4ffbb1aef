import Derived.Test.YtejpoojgbnppoaaDoorTmA
namespace Go.Proofs.YtejpoojgbnppoaaDoor
open Vc Go
set_option linter.unusedVariables false
set_option linter.unusedSimpArgs false

theorem powR_app (a b : List PW) : powR (a ++ b) = powR a ++ powR b := by simp [powR]
theorem powR_one (l : List PW) : ∀ v ∈ powR l, v.oneCell' = true := by
  intro v hv
  simp only [powR, List.mem_flatMap] at hv
  obtain ⟨p, _, hp⟩ := hv
  rcases List.mem_cons.1 hp with rfl | hp
  · rfl
  · rcases List.mem_singleton.1 hp with rfl; rfl
theorem cells_snoc {R : RO} {a o : Nat} {l m : List Value} (h : R.cells a o l) (h' : R.cells a (o + l.length) m) : R.cells a o (l ++ m) := by
  obtain ⟨c, t, fr, h1, h2⟩ := h
  obtain ⟨c', t', fr', h1', h2'⟩ := h'
  rw [h1] at h1'; cases h1'
  refine ⟨c, t, fr, h1, ?_⟩
  rw [List.length_append, List.take_add, h2, List.drop_drop, h2']
theorem cells_pows {R : RO} {B O : Nat} {f : Nat → PW} : ∀ {n : Nat}, 0 < n → (∀ j, j < n → R.cells B (O + j * 2) [.int .u32 (f j).1, .int .i64 (f j).2]) → R.cells B O (powR ((List.range n).map f))
  | 1, _, h => by simpa [powR] using h 0 (by omega)
  | n + 2, _, h => by
    have ih := cells_pows (n := n + 1) (by omega) fun j hj => h j (by omega)
    rw [List.range_succ, List.map_append, powR_app]
    refine cells_snoc ih ?_
    rw [powR_len, List.length_map, List.length_range]
    simpa [powR] using h (n + 1) (by omega)
theorem src_pows {R : RO} {H : Hp} {lv : Option Addr} {ln lc LB LO : Nat} {f : Nat → PW} (hx : ∀ j, j < ln → lv = some ⟨LB, LO, none⟩ ∧ R.cells LB (LO + j * 2) [.int .u32 (f j).1, .int .i64 (f j).2]) :
    Src R H 2 ln (.slice lv ln lc) (powR ((List.range ln).map f)) := by
  refine ⟨by rw [powR_len, List.length_map, List.length_range], ?_⟩
  rcases Nat.eq_zero_or_pos ln with h | h
  · subst h; exact .inr (.inl ⟨rfl, lv, lc, rfl⟩)
  · refine .inr (.inr ⟨LB, LO, lc, ?_, .inr (cells_pows h fun j hj => (hx j hj).2)⟩)
    rw [(hx 0 h).1]

set_option maxRecDepth 100000 in
set_option maxHeartbeats 4000000 in
theorem grow_some (n : Nat) (R : RO) (h0 : 0 < n) (hn : n ≤ 1000000) : GivesX Tryd.prog 87 [.slice none 0 0, .int .i64 ((n : Nat) : Int)] R [] ({y : Nat × Nat // n ≤ y.2 ∧ y.2 ≤ maxLen}) (fun y => (.slice (some ⟨y.1.1, 0, none⟩) 0 y.1.2, [some (y.1.1, .row [] 25 (y.1.2 * 2))])) :=
  Does.of_wp_eq (VC := ((decide (((n : Nat) : Int) < 0)) = false ∧ (NW .i64 (((n : Nat) : Int) - 0)) ∧ (decide ((((n : Nat) : Int) - 0) > 0)) = true ∧ ((0 : Int) ≤ 0 ∧ (0 : Int) ≤ 0) ∧ (PrimOK Tryd.prog (.app 28 3 28 (.slice none 0 0) (.int .i64 (((n : Nat) : Int) - 0))) R [] (Nat × Nat) (fun y0 => n ≤ y0.2 ∧ y0.2 ≤ maxLen) (fun y0 => (.slice (some ⟨y0.1, 0, none⟩) n y0.2, [some (y0.1, .row [] 25 (y0.2 * 2))]))) ∧ ∀ y0 : Nat × Nat, (n ≤ y0.2 ∧ y0.2 ≤ maxLen) → ((0 : Int) ≤ 0 ∧ (0 : Int) ≤ ((y0.2 : Nat) : Int)) ∧ GX R ({y : Nat × Nat // n ≤ y.2 ∧ y.2 ≤ maxLen}) (fun y => (.slice (some ⟨y.1.1, 0, none⟩) 0 y.1.2, [some (y.1.1, .row [] 25 (y.1.2 * 2))])) (.ret (.slice (some ⟨y0.1, 0, none⟩) 0 y0.2)) R [some (y0.1, .row [] 25 (y0.2 * 2))])) (ops [.d, .d, .d] (.br 6 false (ops [.d, .d, .d, .d, .d, .d, .nw, .d, .d, .d] (.br 16 true (ops [.d, .d, .d, .sl0, .d] (.opp [] [0] (Nat × Nat) (fun y0 => n ≤ y0.2 ∧ y0.2 ≤ maxLen) (fun y0 => (.slice (some ⟨y0.1, 0, none⟩) n y0.2, [some (y0.1, .row [] 25 (y0.2 * 2))])) (fun y0 => (ops [.d, .d, .sl0, .d, .d, .d] (.fin [0] []))))))))) Tryd.func87 (by kernel_rfl) (by kernel_rfl)
    (⟨(decide_eq_false (by omega)), ⟨(nwI (by omega) (by omega)), ⟨(decide_eq_true (by omega)), ⟨(by omega), ⟨(by rw [Int.sub_zero]; exact app0_ok (e := 25) (kk := .i64) (by' := 16) (zc := [.int .u32 0, .int .i64 0]) (n := n) (by kernel_rfl) (by kernel_rfl) (by kernel_rfl) rfl (by omega) (by omega) (by omega)), fun y0 qy0 => ⟨(by omega), ⟨rfl, ⟨y0, qy0⟩, (by rfl), (by rfl)⟩⟩⟩⟩⟩⟩⟩)

set_option maxRecDepth 100000 in
set_option maxHeartbeats 4000000 in
theorem grow_none  (R : RO)  : Gives Tryd.prog 87 [.slice none 0 0, .int .i64 0] R [] (.ret (.slice none 0 0)) [] :=
  Does.of_wp_eq (VC := (GQ R (.ret (.slice none 0 0)) [] (.ret (.slice none 0 0)) R [])) (ops [.d, .d, .d, .d, .d, .d, .d, .d, .d, .d, .d, .d, .d, .d, .d] (.fin [] [])) Tryd.func87 (by kernel_rfl) (by kernel_rfl)
    (⟨rfl, (by rfl), (by rfl)⟩)


theorem Does.pad1 {P : Program} {f : FuncId} {args : List Value} {R : RO} {H : Hp} {Q : Out → RO → Hp → Prop} (h : Does P f args R H Q) : Does P f args R H fun o G B => ∃ B', B = B' ++ [none] ∧ Q o G B' :=
  fun Rx w hR hs => (h Rx w hR hs).mono fun e w' ⟨o, G, B, Rx', h1, h2, h3, h4⟩ => ⟨o, G, B ++ [none], Rx', h1, ⟨B, rfl, h2⟩, h3,
    ⟨h4.ro, fun i a C hi => h4.own i a C (Hp.at_pad (k := 1) hi), fun i a C hi => h4.off i a C (Hp.at_pad (k := 1) hi), fun i j a C D hi hj => h4.one i j a C D (Hp.at_pad (k := 1) hi) (Hp.at_pad (k := 1) hj), h4.os, h4.tape, h4.out⟩⟩
theorem grow_ok (n : Nat) (R : RO) (hn : n ≤ 1000000) : GivesX Tryd.prog 87 [.slice none 0 0, .int .i64 ((n : Nat) : Int)] R [] {y : Option Nat × Nat // n ≤ y.2 ∧ y.2 ≤ maxLen ∧ (y.1 = none → y.2 = 0)} (fun y => (gsv y.1.1 0 y.1.2, [gsb y.1.1 [] 25 (y.1.2 * 2)])) := by
  rcases Nat.eq_zero_or_pos n with h | h
  · subst h
    exact Does.mono (Does.pad1 (grow_none R)) (by
      rintro o G B hle ⟨B', rfl, rfl, rfl, rfl⟩
      exact ⟨rfl, ⟨(none, 0), by simp [maxLen]⟩, rfl, rfl⟩)
  · exact (grow_some n R h hn).mono (by
      rintro o G B hle ⟨rfl, ⟨⟨a, cap⟩, h1, h2⟩, rfl, rfl⟩
      exact ⟨rfl, ⟨(some a, cap), h1, h2, by simp⟩, rfl, rfl⟩)
end Go.Proofs.YtejpoojgbnppoaaDoor
