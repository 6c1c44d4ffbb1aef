/- What is proved: TableNil: a table that is none answers as the document says. Without conditions. -/
import Derived.Test.YtankpkkhjfclcaaTab
import Derived.Test.YtankpkkhjfclcaaVcS
import Derived.Test.YtankpkkhjfclcaaVcL
import Derived.Test.YtankpkkhjfclcaaRows
namespace Go.Proofs.Ytankpkkhjfclcaa
open Vc Go
set_option linter.unusedVariables false
set_option linter.unusedSimpArgs false

set_option maxRecDepth 100000 in
theorem clear_nil  (R : RO)  : Gives Try.prog 26 [.pointer none] R [] (.ret (.tuple #[])) [] :=
  Does.of_wp_eq (VC := (GQ R (.ret (.tuple #[])) [] (.ret (.tuple #[])) R [])) (ops [.d, .d] (.fin [] [])) Try.func26 (by kernel_rfl) (by kernel_rfl)
    (⟨rfl, (by rfl), (by rfl)⟩)

set_option maxRecDepth 100000 in
theorem open_nil (x : Int) (R : RO)  : Gives Try.prog 14 [.pointer none, .int .i64 x] R [] (.ret (.tuple #[.int .i64 0, .int .i64 1])) [] :=
  Does.of_wp_eq (VC := (GQ R (.ret (.tuple #[.int .i64 0, .int .i64 1])) [] (.ret (.tuple #[.int .i64 0, .int .i64 1])) R [])) (ops [.d, .d, .d, .d, .d, .d] (.fin [] [])) Try.func14 (by kernel_rfl) (by kernel_rfl)
    (⟨rfl, (by rfl), (by rfl)⟩)

set_option maxRecDepth 100000 in
theorem look_nil (x : Int) (R : RO)  : Gives Try.prog 17 [.pointer none, .int .i64 x] R [] (.ret (.tuple #[.int .i64 0, .bool false])) [] :=
  Does.of_wp_eq (VC := (GQ R (.ret (.tuple #[.int .i64 0, .bool false])) [] (.ret (.tuple #[.int .i64 0, .bool false])) R [])) (ops [.d, .d, .d, .d, .d, .d, .d, .d] (.fin [] [])) Try.func17 (by kernel_rfl) (by kernel_rfl)
    (⟨rfl, (by rfl), (by rfl)⟩)

set_option maxRecDepth 100000 in
theorem take_nil (x : Int) (R : RO)  : Gives Try.prog 18 [.pointer none, .int .i64 x] R [] (.ret (.tuple #[.int .i64 0, .int .i64 1])) [] :=
  Does.of_wp_eq (VC := ((Gives Try.prog 17 [.pointer none, .int .i64 x] R [] (.ret (.tuple #[.int .i64 0, .bool false])) []) ∧ GQ R (.ret (.tuple #[.int .i64 0, .int .i64 1])) [] (.ret (.tuple #[.int .i64 0, .int .i64 1])) R [])) (ops [.d, .d, .d, .d, .call0 [] [] (fun e v => .ret (.tuple #[.int .i64 0, .bool false])) (fun e v => []), .d, .d, .d, .d, .d, .d, .d, .d, .d, .d, .d] (.fin [] [])) Try.func18 (by kernel_rfl) (by kernel_rfl)
    (⟨(look_nil x R), ⟨rfl, (by rfl), (by rfl)⟩⟩)

set_option maxRecDepth 100000 in
theorem len_nil  (R : RO)  : Gives Try.prog 16 [.pointer none] R [] (.ret (.int .i64 0)) [] :=
  Does.of_wp_eq (VC := (GQ R (.ret (.int .i64 0)) [] (.ret (.int .i64 0)) R [])) (ops [.d, .d, .d, .d] (.fin [] [])) Try.func16 (by kernel_rfl) (by kernel_rfl)
    (⟨rfl, (by rfl), (by rfl)⟩)

set_option maxRecDepth 100000 in
theorem free_nil  (R : RO)  : Gives Try.prog 15 [.pointer none] R [] (.ret (.int .i64 0)) [] :=
  Does.of_wp_eq (VC := (GQ R (.ret (.int .i64 0)) [] (.ret (.int .i64 0)) R [])) (ops [.d, .d, .d, .d] (.fin [] [])) Try.func15 (by kernel_rfl) (by kernel_rfl)
    (⟨rfl, (by rfl), (by rfl)⟩)

set_option maxRecDepth 100000 in
theorem each1_nil (y : Value) (T1 : Nat) (R : RO)  : Gives Try.prog 33 [y, .pointer (some ⟨T1, 0, none⟩)] R [some (T1, .row [.pointer none] 37 1)] (.ret (.tuple #[])) [some (T1, .row [.pointer none] 37 1)] :=
  Does.of_wp_eq (VC := ((T1 = T1) ∧ GQ R (.ret (.tuple #[])) [some (T1, .row [.pointer none] 37 1)] (.ret (.tuple #[])) R [some (T1, .row [.pointer none] 37 1)])) (ops [.p 0, .d] (.fin [0] [])) Try.func33 (by kernel_rfl) (by kernel_rfl)
    (⟨rfl, ⟨rfl, (by rfl), (by rfl)⟩⟩)

set_option maxRecDepth 100000 in
theorem each_nil  (R : RO)  : GivesX Try.prog 27 [.pointer none] R [] (Nat) (fun w => (.func (.func 33) #[] #[.pointer (some ⟨w, 0, none⟩)], [some (w, .row [.pointer none] 37 1)])) :=
  Does.of_wp_eq (VC := (∀ a0 : Nat, GX R (Nat) (fun w => (.func (.func 33) #[] #[.pointer (some ⟨w, 0, none⟩)], [some (w, .row [.pointer none] 37 1)])) (.ret (.func (.func 33) #[] #[.pointer (some ⟨a0, 0, none⟩)])) R [some (a0, .row [.pointer none] 37 1)])) (.opn 0 (fun a0 => (ops [.d, .d, .d] (.fin [0] [])))) Try.func27 (by kernel_rfl) (by kernel_rfl)
    (fun a0 => ⟨rfl, a0, (by rfl), (by rfl)⟩)

set_option maxRecDepth 100000 in
theorem tnil_law  (R : RO)  : Gives Try.prog 6 [] R [] (.ret (.bool true)) [] :=
  Does.of_wpm_eq (VC := (∀ a0 : Nat, (Gives Try.prog 7 [] R [] (.ret (.bool true)) []) ∧ (Gives Try.prog 26 [.pointer none] R [] (.ret (.tuple #[])) []) ∧ (Gives Try.prog 14 [.pointer none, .int .i64 1] R [] (.ret (.tuple #[.int .i64 0, .int .i64 1])) []) ∧ (Gives Try.prog 18 [.pointer none, .int .i64 1] R [] (.ret (.tuple #[.int .i64 0, .int .i64 1])) []) ∧ (Gives Try.prog 17 [.pointer none, .int .i64 1] R [] (.ret (.tuple #[.int .i64 0, .bool false])) []) ∧ (GivesX Try.prog 27 [.pointer none] R [] (Nat) (fun w1 => (.func (.func 33) #[] #[.pointer (some ⟨w1, 0, none⟩)], [some (w1, .row [.pointer none] 37 1)]))) ∧ ∀ w1 : Nat, (CT Try.prog (sub (bodyOf Try.f6) [1, 1, 1, 1, 1, 1, 1, 0, 1, 0]) ⟨[.pointer (some ⟨a0, 0, none⟩), .pointer none, .int .i64 0, .int .i64 1, .int .i64 0, .int .i64 1, .int .i64 0, .bool false, .bool true, .bool false, .pointer none, .tuple #[], .tuple #[.int .i64 0, .int .i64 1], .pointer none, .tuple #[.int .i64 0, .int .i64 1], .int .i64 0, .int .i64 1, .tuple #[.int .i64 0, .int .i64 1], .pointer none, .tuple #[.int .i64 0, .int .i64 1], .int .i64 0, .int .i64 1, .tuple #[.int .i64 0, .bool false], .pointer none, .tuple #[.int .i64 0, .bool false], .int .i64 0, .bool false, .pointer none, .func (.func 33) #[] #[.pointer (some ⟨w1, 0, none⟩)], undef, undef, undef, undef, undef, undef, undef, undef, undef, undef, undef, undef, undef, undef, undef, undef, undef, undef, undef, undef, undef, undef], [], [some (a0, .row [.bool false] 4 1), some (w1, .row [.pointer none] 37 1)]⟩ R (altPost R (.altG Nat (fun r2 G => G.mem r2 = some (.deferred (some [])) ∧ R.mem r2 = none) (fun r2 => (.normal, ⟨[.pointer (some ⟨a0, 0, none⟩), .pointer none, .int .i64 0, .int .i64 1, .int .i64 0, .int .i64 1, .int .i64 0, .bool false, .bool true, .bool false, .pointer none, .tuple #[], .tuple #[.int .i64 0, .int .i64 1], .pointer none, .tuple #[.int .i64 0, .int .i64 1], .int .i64 0, .int .i64 1, .tuple #[.int .i64 0, .int .i64 1], .pointer none, .tuple #[.int .i64 0, .int .i64 1], .int .i64 0, .int .i64 1, .tuple #[.int .i64 0, .bool false], .pointer none, .tuple #[.int .i64 0, .bool false], .int .i64 0, .bool false, .pointer none, .func (.func 33) #[] #[.pointer (some ⟨w1, 0, none⟩)], undef, undef, undef, undef, undef, undef, undef, undef, undef, undef, undef, undef, undef, undef, undef, undef, undef, undef, undef, undef, undef, undef], [{ target := .collected r2, args := #[] }], [some (a0, .row [.bool false] 4 1), some (w1, .row [.pointer none] 37 1)]⟩)) (fun _ => .altn) .altn))) ∧ (∀ (r2 : Nat) (G3 : RO), R.le G3 → (G3.mem r2 = some (.deferred (some [])) ∧ R.mem r2 = none) → (Gives Try.prog 16 [.pointer none] G3 [] (.ret (.int .i64 0)) []) ∧ (Gives Try.prog 15 [.pointer none] G3 [] (.ret (.int .i64 0)) []) ∧ (a0 = a0) ∧ (G3.mem r2 = some (.deferred (some [])) ∧ R.mem r2 = none ∧ R.le G3) ∧ (a0 = a0) ∧ GQ R (.ret (.bool true)) [] (.ret (.bool true)) R []) ∧ True)) (.opn 0 (fun a0 => (ops [.call0 [] [] (fun e v => .ret (.bool true)) (fun e v => []), .d, .d, .d, .call0 [] [] (fun e v => .ret (.tuple #[])) (fun e v => []), .d, .call0 [] [] (fun e v => .ret (.tuple #[.int .i64 0, .int .i64 1])) (fun e v => []), .d, .d, .d, .d, .d, .d, .call0 [] [] (fun e v => .ret (.tuple #[.int .i64 0, .int .i64 1])) (fun e v => []), .d, .d, .d, .d, .d, .d, .call0 [] [] (fun e v => .ret (.tuple #[.int .i64 0, .bool false])) (fun e v => []), .d, .d, .d, .d, .d, .d] (.opx [] [1] (Nat) (fun w1 => (.func (.func 33) #[] #[.pointer (some ⟨w1, 0, none⟩)], [some (w1, .row [.pointer none] 37 1)])) (fun w1 => (.altG Nat (fun r2 G => G.mem r2 = some (.deferred (some [])) ∧ R.mem r2 = none) (fun r2 => (.normal, ⟨[.pointer (some ⟨a0, 0, none⟩), .pointer none, .int .i64 0, .int .i64 1, .int .i64 0, .int .i64 1, .int .i64 0, .bool false, .bool true, .bool false, .pointer none, .tuple #[], .tuple #[.int .i64 0, .int .i64 1], .pointer none, .tuple #[.int .i64 0, .int .i64 1], .int .i64 0, .int .i64 1, .tuple #[.int .i64 0, .int .i64 1], .pointer none, .tuple #[.int .i64 0, .int .i64 1], .int .i64 0, .int .i64 1, .tuple #[.int .i64 0, .bool false], .pointer none, .tuple #[.int .i64 0, .bool false], .int .i64 0, .bool false, .pointer none, .func (.func 33) #[] #[.pointer (some ⟨w1, 0, none⟩)], undef, undef, undef, undef, undef, undef, undef, undef, undef, undef, undef, undef, undef, undef, undef, undef, undef, undef, undef, undef, undef, undef], [{ target := .collected r2, args := #[] }], [some (a0, .row [.bool false] 4 1), some (w1, .row [.pointer none] 37 1)]⟩)) (fun r2 => (ops [.d, .d, .d, .d, .d, .d, .d, .d, .d, .d, .d, .d, .call0 [] [] (fun e v => .ret (.int .i64 0)) (fun e v => []), .d, .d, .d, .d, .call0 [] [] (fun e v => .ret (.int .i64 0)) (fun e v => []), .d, .d, .p 0] (.fin [] [(0, none)]))) .altn)))))) Try.func6 (by kernel_rfl) (by kernel_rfl)
    (fun a0 => ⟨(awake_ok R), ⟨(clear_nil  R), ⟨(open_nil 1 R), ⟨(take_nil 1 R), ⟨(look_nil 1 R), ⟨(each_nil R), fun w1 => ⟨CT.range_none_eq 33 #[.pointer (some ⟨w1, 0, none⟩)] [1] (by kernel_rfl) (by kernel_rfl) (fun _ => by kernel_rfl) (by rfl) (fun y G => each1_nil y w1 G), fun r2 G3 hG3 qG3 => ⟨(len_nil  G3), ⟨(free_nil  G3), ⟨rfl, ⟨⟨qG3.1, qG3.2, hG3⟩, ⟨rfl, ⟨rfl, (by first | rfl | (simp only [*]; done)), (by rfl)⟩⟩⟩⟩⟩⟩, trivial⟩⟩⟩⟩⟩⟩⟩)


set_option maxRecDepth 100000 in
theorem tableNil_all (R : RO) (args : List Value) (h : FitAll Try.prog R 30 [] args) : Gives Try.prog 6 args R [] (.ret (.bool true)) [] :=
  fitAll_args (n := 30) (E := Gives Try.prog 6 [] R [] (.ret (.bool true)) []) (K := fun args => Gives Try.prog 6 args R [] (.ret (.bool true)) []) (by kernel_rfl)
    (tnil_law R) h
theorem tableNil_lifted (os : Os) (started : os.Started) (H : Type) (enc : TypeId × Value → H) :
    ReturnsInHanded {} Try.checked os 6 .any (Rows.tableNilSpec.pre6 enc Try.prog Try.f6 Rows.tableNilRow.domain false) (Rows.tableNilSpec.post enc Try.prog Try.f6 false true false false) :=
  law_lifted (C := Try.checked) (tb := 4) 30 (by kernel_rfl) started (by kernel_rfl) Try.func6
    (ChangeSpec.witness6 (enc := enc) (C := Try.checked) false ⟨#[], #[], []⟩ 8 (by kernel_rfl) (by kernel_rfl) (by kernel_rfl) (by kernel_rfl))
    (by kernel_rfl) (by kernel_rfl) (by kernel_rfl) rfl (by kernel_rfl) (by kernel_rfl)
    (fun ds hl => by
      have hn : Try.f6.params.size = 0 := by kernel_rfl
      rw [hn] at hl
      obtain ⟨rfl⟩ := len0 hl
      rfl)
    (fun R args h => tableNil_all R args h)
/-- THE ROW: see the head of this text. -/
theorem tableNil_holds : Rows.TableNilSaid :=
  OpenClaim.holds_of_wide 6 Try.f6 rfl rfl rfl rfl rfl rfl rfl ⟨rfl, rfl, rfl, rfl, rfl⟩ rfl rfl rfl rfl rfl (by kernel_rfl) Try.func6 (by kernel_rfl)
    (of_decide_eq_true (by kernel_rfl)) (by unfold Func.isWrapper; first | (rw [if_pos (by decide +kernel)]; kernel_rfl) | (rw [if_neg (by decide +kernel)]; exact ⟨rfl, rfl⟩))
    (fun os started H enc _ => tableNil_lifted os started H enc)

end Go.Proofs.Ytankpkkhjfclcaa