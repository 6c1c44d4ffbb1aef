import Derived.Test.YtejpoojgbnppoaaDoorTmC
namespace Go.Proofs.YtejpoojgbnppoaaDoor
open Vc Go
set_option linter.unusedVariables false
set_option linter.unusedSimpArgs false

theorem sorted_none (bx M c : Nat) (R : RO) : GivesX Tryd.prog 88 [.func (.func 103) #[] #[.pointer (some ⟨bx, 0, none⟩)]] R [some (bx, .row [.map (some M)] 124 1), some (M, .map (ents (Value.int .u32) (Value.int .i64) []) c)] ({n : Nat // n ≤ maxLen}) (fun y => (.slice none 0 y.1, [some (bx, .row [.map (some M)] 124 1), some (M, .map (ents (Value.int .u32) (Value.int .i64) []) c), none])) :=
  (sorted_ok bx M c [] R (Stm.nil c) (by simp)).mono (by
    rintro o G B hle ⟨rfl, ⟨⟨b, cap⟩, h1, h2, h3⟩, rfl, rfl⟩
    cases b with
    | none => exact ⟨rfl, ⟨cap, h3⟩, rfl, rfl⟩
    | some a => have := h1.2 rfl; cases this)

set_option maxRecDepth 100000 in
set_option maxHeartbeats 4000000 in
theorem product_nil (lv : Option Addr) (lc : Nat) (R : RO)  : Gives Tryd.prog 67 [.slice lv 0 lc] R [] (.ret (.slice none 0 0)) [] :=
  Does.of_wp_eq (VC := (∀ a0 : Nat, (GivesX Tryd.prog 89 [.map (some a0)] R [] (Nat) (fun w1 => (.func (.func 103) #[] #[.pointer (some ⟨w1, 0, none⟩)], [some (w1, .row [.map (some a0)] 124 1)]))) ∧ ∀ w1 : Nat, (GivesX Tryd.prog 88 [.func (.func 103) #[] #[.pointer (some ⟨w1, 0, none⟩)]] R [some (w1, .row [.map (some a0)] 124 1), some (a0, .map (ents (Value.int .u32) (Value.int .i64) []) 0)] ({n : Nat // n ≤ maxLen}) (fun w2 => (.slice none 0 w2.1, [some (w1, .row [.map (some a0)] 124 1), some (a0, .map (ents (Value.int .u32) (Value.int .i64) []) 0), none]))) ∧ ∀ w2 : {n : Nat // n ≤ maxLen}, GQ R (.ret (.slice none 0 0)) [] (.ret (.slice none 0 0)) R [])) (ops [.d] (.opn 0 (fun a0 => (ops [.d, .d, .d, .d] (.un 1 (ops [.d, .d, .d] (.opx [] [1] (Nat) (fun w1 => (.func (.func 103) #[] #[.pointer (some ⟨w1, 0, none⟩)], [some (w1, .row [.map (some a0)] 124 1)])) (fun w1 => (.opx [1, 0] [2] ({n : Nat // n ≤ maxLen}) (fun w2 => (.slice none 0 w2.1, [some (w1, .row [.map (some a0)] 124 1), some (a0, .map (ents (Value.int .u32) (Value.int .i64) []) 0), none])) (fun w2 => (ops [.d, .d] (.un 1 (ops [.d, .d, .d] (.fin [] [])))))))))))))) Tryd.func67 (by kernel_rfl) (by kernel_rfl)
    (fun a0 => ⟨(keys_ok a0 R), fun w1 => ⟨(sorted_none w1 a0 0 R), fun w2 => ⟨rfl, (by rfl), (by rfl)⟩⟩⟩)


theorem product_G (lv : Option Addr) (ln lc LB LO : Nat) (f : Nat → PW) (R : RO) (hn : ln ≤ 1000000) (hx : ∀ j, j < ln → lv = some ⟨LB, LO, none⟩ ∧ R.cells LB (LO + j * 2) [.int .u32 (f j).1, .int .i64 (f j).2]) : Does Tryd.prog 67 [.slice lv ln lc] R [] (fun r G B => ∃ z : L, (z.ok G ∧ z.pl = T.prod ((List.range ln).map f)) ∧ r = .ret (.slice z.pa z.m z.pc) ∧ B = []) := by
  have hp : prodL f ln = T.prod ((List.range ln).map f) := prod_of rfl f fun _ _ => rfl
  rcases Nat.eq_zero_or_pos ln with h | h
  · subst h
    refine (product_nil lv lc R).mono ?_
    rintro o G B hle ⟨rfl, rfl, rfl⟩
    exact ⟨plL none 0 [], ⟨plL_ok (Nat.le_refl _) (by simp [maxLen]) (fun _ => rfl) (by simp), by rw [plL_pl, ← hp]; rfl⟩, rfl, rfl⟩
  · refine (Does.freeze (X := {y : Option Nat × Nat // (prodL f ln).length ≤ y.2 ∧ y.2 ≤ maxLen ∧ (y.1 = none → y.2 = 0)}) (q := fun _ _ => True) (g := fun y => (gsv y.1.1 (prodL f ln).length y.1.2, [gsb y.1.1 (powR (prodL f ln)) 25 (y.1.2 * 2)]))
      ((product_ok lv ln lc LB LO f R hn h hx).mono (by rintro o G B hle ⟨_, y, h1, h2⟩; exact ⟨y, trivial, h1, h2⟩))).mono ?_
    rintro o G B hle ⟨y, G0, h0, -, hc, rfl, rfl⟩
    exact ⟨plL y.1.1 y.1.2 (prodL f ln), ⟨plL_ok y.2.1 y.2.2.1 y.2.2.2 fun a ha => hc 0 a _ 25 _ (by show Hp.at [gsb y.1.1 _ 25 _] 0 = _; rw [ha]; rfl), by rw [plL_pl, hp]⟩, rfl, rfl⟩
end Go.Proofs.YtejpoojgbnppoaaDoor
