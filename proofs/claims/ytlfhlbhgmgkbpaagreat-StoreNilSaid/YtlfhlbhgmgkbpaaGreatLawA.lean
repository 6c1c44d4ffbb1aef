/- What is proved: StoreNil: a store that is none answers as the document says. Without conditions. -/
import Derived.Test.YtlfhlbhgmgkbpaaGreatStD
import Derived.Test.YtlfhlbhgmgkbpaaGreatVcT
import Derived.Test.YtlfhlbhgmgkbpaaGreatVcL
import Derived.Test.YtlfhlbhgmgkbpaaGreatRows
namespace Go.Proofs.YtlfhlbhgmgkbpaaGreat
open Vc Go
set_option linter.unusedVariables false
set_option linter.unusedSimpArgs false

set_option maxRecDepth 100000 in
set_option maxHeartbeats 4000000 in
theorem keys1_nil (y : Value) (T1 T2 : Nat) (s : ByteArray) (R : RO)  : Gives Tryz.prog 36 [y, .pointer (some ⟨T1, 0, none⟩), .pointer (some ⟨T2, 0, none⟩)] R [some (T1, .row [.pointer none] 39 1), some (T2, .row [.string s] 9 1)] (.ret (.tuple #[])) [some (T1, .row [.pointer none] 39 1), some (T2, .row [.string s] 9 1)] :=
  Does.of_wp_eq (VC := ((T1 = T1) ∧ GQ R (.ret (.tuple #[])) [some (T1, .row [.pointer none] 39 1), some (T2, .row [.string s] 9 1)] (.ret (.tuple #[])) R [some (T1, .row [.pointer none] 39 1), some (T2, .row [.string s] 9 1)])) (ops [.p 0, .d] (.fin [0, 1] [])) Tryz.func36 (by kernel_rfl) (by kernel_rfl)
    (⟨rfl, ⟨rfl, (by rfl), (by rfl)⟩⟩)

set_option maxRecDepth 100000 in
set_option maxHeartbeats 4000000 in
theorem keys_nil (s : ByteArray) (R : RO)  : GivesX Tryz.prog 14 [.pointer none, .string s] R [] (Nat × Nat) (fun w => (.func (.func 36) #[] #[.pointer (some ⟨w.1, 0, none⟩), .pointer (some ⟨w.2, 0, none⟩)], [some (w.1, .row [.pointer none] 39 1), some (w.2, .row [.string s] 9 1)])) :=
  Does.of_wp_eq (VC := (∀ a0 : Nat, ∀ a1 : Nat, GX R (Nat × Nat) (fun w => (.func (.func 36) #[] #[.pointer (some ⟨w.1, 0, none⟩), .pointer (some ⟨w.2, 0, none⟩)], [some (w.1, .row [.pointer none] 39 1), some (w.2, .row [.string s] 9 1)])) (.ret (.func (.func 36) #[] #[.pointer (some ⟨a0, 0, none⟩), .pointer (some ⟨a1, 0, none⟩)])) R [some (a0, .row [.pointer none] 39 1), some (a1, .row [.string s] 9 1)])) (.opn 0 (fun a0 => (.opn 1 (fun a1 => (ops [.d, .d, .d] (.fin [0, 1] [])))))) Tryz.func14 (by kernel_rfl) (by kernel_rfl)
    (fun a0 => fun a1 => ⟨rfl, (a0, a1), (by rfl), (by rfl)⟩)

set_option maxRecDepth 100000 in
set_option maxHeartbeats 4000000 in
theorem snil_law  (R : RO)  : Gives Tryz.prog 4 [] R [] (.ret (.bool true)) [] :=
  Does.of_wpm_eq (VC := (∀ a0 : Nat, (Gives Tryz.prog 5 [] R [] (.ret (.bool true)) []) ∧ (Gives Tryz.prog 12 [.pointer none] R [] (.ret (.tuple #[.pointer none, .int .i64 1])) []) ∧ (Gives Tryz.prog 13 [.pointer none, .string (⟨#[97]⟩ : ByteArray)] R [] (.ret (.tuple #[.string ByteArray.empty, .bool false])) []) ∧ (GivesX Tryz.prog 14 [.pointer none, .string ByteArray.empty] R [] (Nat × Nat) (fun w1 => (.func (.func 36) #[] #[.pointer (some ⟨w1.1, 0, none⟩), .pointer (some ⟨w1.2, 0, none⟩)], [some (w1.1, .row [.pointer none] 39 1), some (w1.2, .row [.string ByteArray.empty] 9 1)]))) ∧ ∀ w1 : Nat × Nat, (CT Tryz.prog (sub (bodyOf Tryz.f4) [1, 1, 1, 1, 1, 0, 1, 0]) ⟨[.pointer (some ⟨a0, 0, none⟩), .pointer none, .pointer none, .int .i64 1, .string ByteArray.empty, .bool false, .bool true, .bool false, .tuple #[.pointer none, .int .i64 1], .tuple #[.pointer none, .int .i64 1], .pointer none, .int .i64 1, .tuple #[.string ByteArray.empty, .bool false], .pointer none, .tuple #[.string ByteArray.empty, .bool false], .string ByteArray.empty, .bool false, .pointer none, .func (.func 36) #[] #[.pointer (some ⟨w1.1, 0, none⟩), .pointer (some ⟨w1.2, 0, none⟩)], undef, undef, undef, undef, undef, undef, undef, undef, undef, undef, undef, undef, undef, undef, undef, undef, undef, undef, undef, undef, undef, undef, undef, undef, undef, undef, undef, undef, undef, undef, undef, undef, undef], [], [some (a0, .row [.bool false] 4 1), some (w1.1, .row [.pointer none] 39 1), some (w1.2, .row [.string ByteArray.empty] 9 1)]⟩ R (altPost R (.altG Nat (fun r2 G => G.mem r2 = some (.deferred (some [])) ∧ R.mem r2 = none) (fun r2 => (.normal, ⟨[.pointer (some ⟨a0, 0, none⟩), .pointer none, .pointer none, .int .i64 1, .string ByteArray.empty, .bool false, .bool true, .bool false, .tuple #[.pointer none, .int .i64 1], .tuple #[.pointer none, .int .i64 1], .pointer none, .int .i64 1, .tuple #[.string ByteArray.empty, .bool false], .pointer none, .tuple #[.string ByteArray.empty, .bool false], .string ByteArray.empty, .bool false, .pointer none, .func (.func 36) #[] #[.pointer (some ⟨w1.1, 0, none⟩), .pointer (some ⟨w1.2, 0, none⟩)], undef, undef, undef, undef, undef, undef, undef, undef, undef, undef, undef, undef, undef, undef, undef, undef, undef, undef, undef, undef, undef, undef, undef, undef, undef, undef, undef, undef, undef, undef, undef, undef, undef], [{ target := .collected r2, args := #[] }], [some (a0, .row [.bool false] 4 1), some (w1.1, .row [.pointer none] 39 1), some (w1.2, .row [.string ByteArray.empty] 9 1)]⟩)) (fun _ => .altn) .altn))) ∧ (∀ (r2 : Nat) (G3 : RO), R.le G3 → (G3.mem r2 = some (.deferred (some [])) ∧ R.mem r2 = none) → (Gives Tryz.prog 15 [.pointer none, .slice none 0 0] G3 [] (.ret (.int .i64 1)) []) ∧ (Gives Tryz.prog 16 [.pointer none] G3 [] (.ret (.int .i64 1)) []) ∧ (Gives Tryz.prog 17 [.pointer none] G3 [] (.ret (.int .i64 0)) []) ∧ (Gives Tryz.prog 18 [.pointer none] G3 [] (.ret (.int .i64 1)) []) ∧ (Gives Tryz.prog 19 [.pointer none] G3 [] (.ret (.int .i64 0)) []) ∧ (a0 = a0) ∧ (G3.mem r2 = some (.deferred (some [])) ∧ R.mem r2 = none ∧ R.le G3) ∧ (a0 = a0) ∧ GQ R (.ret (.bool true)) [] (.ret (.bool true)) R []) ∧ True)) (.opn 0 (fun a0 => (ops [.call0 [] [] (fun e v => .ret (.bool true)) (fun e v => []), .d, .d, .call0 [] [] (fun e v => .ret (.tuple #[.pointer none, .int .i64 1])) (fun e v => []), .d, .d, .d, .d, .d, .d, .call0 [] [] (fun e v => .ret (.tuple #[.string ByteArray.empty, .bool false])) (fun e v => []), .d, .d, .d, .d, .d, .d] (.opx [] [1, 2] (Nat × Nat) (fun w1 => (.func (.func 36) #[] #[.pointer (some ⟨w1.1, 0, none⟩), .pointer (some ⟨w1.2, 0, none⟩)], [some (w1.1, .row [.pointer none] 39 1), some (w1.2, .row [.string ByteArray.empty] 9 1)])) (fun w1 => (.altG Nat (fun r2 G => G.mem r2 = some (.deferred (some [])) ∧ R.mem r2 = none) (fun r2 => (.normal, ⟨[.pointer (some ⟨a0, 0, none⟩), .pointer none, .pointer none, .int .i64 1, .string ByteArray.empty, .bool false, .bool true, .bool false, .tuple #[.pointer none, .int .i64 1], .tuple #[.pointer none, .int .i64 1], .pointer none, .int .i64 1, .tuple #[.string ByteArray.empty, .bool false], .pointer none, .tuple #[.string ByteArray.empty, .bool false], .string ByteArray.empty, .bool false, .pointer none, .func (.func 36) #[] #[.pointer (some ⟨w1.1, 0, none⟩), .pointer (some ⟨w1.2, 0, none⟩)], undef, undef, undef, undef, undef, undef, undef, undef, undef, undef, undef, undef, undef, undef, undef, undef, undef, undef, undef, undef, undef, undef, undef, undef, undef, undef, undef, undef, undef, undef, undef, undef, undef], [{ target := .collected r2, args := #[] }], [some (a0, .row [.bool false] 4 1), some (w1.1, .row [.pointer none] 39 1), some (w1.2, .row [.string ByteArray.empty] 9 1)]⟩)) (fun r2 => (ops [.d, .d, .d, .d, .d, .d, .d, .d, .call0 [] [] (fun e v => .ret (.int .i64 1)) (fun e v => []), .d, .d, .d, .d, .call0 [] [] (fun e v => .ret (.int .i64 1)) (fun e v => []), .d, .d, .d, .d, .call0 [] [] (fun e v => .ret (.int .i64 0)) (fun e v => []), .d, .d, .d, .d, .call0 [] [] (fun e v => .ret (.int .i64 1)) (fun e v => []), .d, .d, .d, .d, .call0 [] [] (fun e v => .ret (.int .i64 0)) (fun e v => []), .d, .d, .p 0] (.fin [] [(0, none)]))) .altn)))))) Tryz.func4 (by kernel_rfl) (by kernel_rfl)
    (fun a0 => ⟨(awake18_ok R), ⟨(open18_nil R), ⟨(get_nil (⟨#[97]⟩ : ByteArray) R), ⟨(keys_nil ByteArray.empty R), fun w1 => ⟨CT.range_none_eq 36 #[.pointer (some ⟨w1.1, 0, none⟩), .pointer (some ⟨w1.2, 0, none⟩)] [1, 2] (by kernel_rfl) (by kernel_rfl) (fun _ => by kernel_rfl) (by rfl) (fun y G => keys1_nil y w1.1 w1.2 ByteArray.empty G), fun r2 G3 hG3 qG3 => ⟨(do_nil G3), ⟨(ren18_nil G3), ⟨(len18_nil G3), ⟨(err18_nil G3), ⟨(left18_nil G3), ⟨rfl, ⟨⟨qG3.1, qG3.2, hG3⟩, ⟨rfl, ⟨rfl, (by first | rfl | (simp only [*]; done)), (by rfl)⟩⟩⟩⟩⟩⟩⟩⟩⟩, trivial⟩⟩⟩⟩⟩)


set_option maxRecDepth 100000 in
set_option maxHeartbeats 4000000 in
theorem storeNil_all (R : RO) (args : List Value) (h : FitAll Tryz.prog R 30 [] args) : Gives Tryz.prog 4 args R [] (.ret (.bool true)) [] :=
  fitAll_args (n := 30) (E := Gives Tryz.prog 4 [] R [] (.ret (.bool true)) []) (K := fun args => Gives Tryz.prog 4 args R [] (.ret (.bool true)) []) (by kernel_rfl)
    (snil_law R) h
theorem storeNil_lifted (os : Os) (started : os.Started) (H : Type) (enc : TypeId × Value → H) :
    ReturnsInHanded {} Tryz.checked os 4 .any (Rows.storeNilSpec.pre6 enc Tryz.prog Tryz.f4 Rows.storeNilRow.domain false) (Rows.storeNilSpec.post enc Tryz.prog Tryz.f4 false true false false) :=
  law_lifted (C := Tryz.checked) (tb := 4) 30 (by kernel_rfl) started (by kernel_rfl) Tryz.func4
    (ChangeSpec.witness6 (enc := enc) (C := Tryz.checked) false ⟨#[], #[], []⟩ 8 (by kernel_rfl) (by kernel_rfl) (by kernel_rfl) (by kernel_rfl))
    (by kernel_rfl) (by kernel_rfl) (by kernel_rfl) rfl (by kernel_rfl) (by kernel_rfl)
    (fun ds hl => by
      have hn : Tryz.f4.params.size = 0 := by kernel_rfl
      rw [hn] at hl
      obtain ⟨rfl⟩ := len0 hl
      rfl)
    (fun R args h => storeNil_all R args h)
/-- THE ROW: see the head of this text. -/
theorem storeNil_holds : Rows.StoreNilSaid :=
  OpenClaim.holds_of_wide 4 Tryz.f4 rfl rfl rfl rfl rfl rfl rfl ⟨rfl, rfl, rfl, rfl, rfl⟩ rfl rfl rfl rfl rfl (by kernel_rfl) Tryz.func4 (by kernel_rfl)
    (of_decide_eq_true (by kernel_rfl)) (by unfold Func.isWrapper; first | (rw [if_pos (by decide +kernel)]; kernel_rfl) | (rw [if_neg (by decide +kernel)]; exact ⟨rfl, rfl⟩))
    (fun os started H enc _ => storeNil_lifted os started H enc)

end Go.Proofs.YtlfhlbhgmgkbpaaGreat