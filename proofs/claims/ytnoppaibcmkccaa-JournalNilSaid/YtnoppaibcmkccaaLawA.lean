/- What is proved: JournalNil: a journal that is none answers as the document says. Without conditions. -/
import Derived.Test.YtnoppaibcmkccaaJrK
import Derived.Test.YtnoppaibcmkccaaVcL
import Derived.Test.YtnoppaibcmkccaaRows
namespace Go.Proofs.Ytnoppaibcmkccaa
open Vc Go
set_option linter.unusedVariables false
set_option linter.unusedSimpArgs false

set_option maxRecDepth 100000 in
set_option maxHeartbeats 4000000 in
theorem nil_law  (R : RO)  : Gives Try.prog 3 [] R [] (.ret (.bool true)) [] :=
  Does.of_wp_eq (VC := ((Gives Try.prog 5 [.pointer none] R [] (.ret (.tuple #[.pointer none, .slice none 0 0, .int .i64 1])) []) ∧ (Gives Try.prog 6 [] R [] (.ret (.bool true)) []) ∧ (Gives Try.prog 7 [.pointer none, .string ByteArray.empty] R [] (.ret (.int .i64 1)) []) ∧ (Gives Try.prog 8 [.pointer none, .string ByteArray.empty] R [] (.ret (.int .i64 1)) []) ∧ (Gives Try.prog 9 [.pointer none] R [] (.ret (.int .i64 0)) []) ∧ (Gives Try.prog 10 [.pointer none] R [] (.ret (.int .u64 0)) []) ∧ (Gives Try.prog 11 [.pointer none] R [] (.ret (.int .i64 0)) []) ∧ (Gives Try.prog 12 [.pointer none] R [] (.ret (.int .i64 1)) []) ∧ GQ R (.ret (.bool true)) [] (.ret (.bool true)) R [])) (ops [.d, .d, .call0 [] [] (fun e v => .ret (.tuple #[.pointer none, .slice none 0 0, .int .i64 1])) (fun e v => []), .d, .d, .d, .d, .d, .d, .d, .call0 [] [] (fun e v => .ret (.bool true)) (fun e v => []), .d, .d, .d, .d, .d, .d, .call0 [] [] (fun e v => .ret (.int .i64 1)) (fun e v => []), .d, .d, .d, .d, .call0 [] [] (fun e v => .ret (.int .i64 1)) (fun e v => []), .d, .d, .d, .d, .call0 [] [] (fun e v => .ret (.int .i64 0)) (fun e v => []), .d, .d, .d, .d, .call0 [] [] (fun e v => .ret (.int .u64 0)) (fun e v => []), .d, .d, .d, .d, .call0 [] [] (fun e v => .ret (.int .i64 0)) (fun e v => []), .d, .d, .d, .d, .call0 [] [] (fun e v => .ret (.int .i64 1)) (fun e v => []), .d, .d, .d] (.fin [] [])) Try.func3 (by kernel_rfl) (by kernel_rfl)
    (⟨(open_nil R), ⟨(awake17_ok R), ⟨(add_nil ByteArray.empty R), ⟨(renew_nil ByteArray.empty R), ⟨(count_nil R), ⟨(gen_nil R), ⟨(left_nil R), ⟨(err_nil R), ⟨rfl, (by first | rfl | (simp only [*]; done)), (by rfl)⟩⟩⟩⟩⟩⟩⟩⟩⟩)


set_option maxRecDepth 100000 in
set_option maxHeartbeats 4000000 in
theorem journalNil_all (R : RO) (args : List Value) (h : FitAll Try.prog R 30 [] args) : Gives Try.prog 3 args R [] (.ret (.bool true)) [] :=
  fitAll_args (n := 30) (E := Gives Try.prog 3 [] R [] (.ret (.bool true)) []) (K := fun args => Gives Try.prog 3 args R [] (.ret (.bool true)) []) (by kernel_rfl)
    (nil_law R) h
theorem journalNil_lifted (os : Os) (started : os.Started) (H : Type) (enc : TypeId × Value → H) :
    ReturnsInHanded {} Try.checked os 3 .any (Rows.journalNilSpec.pre6 enc Try.prog Try.f3 Rows.journalNilRow.domain false) (Rows.journalNilSpec.post enc Try.prog Try.f3 false true false false) :=
  law_lifted (C := Try.checked) (tb := 4) 30 (by kernel_rfl) started (by kernel_rfl) Try.func3
    (ChangeSpec.witness6 (enc := enc) (C := Try.checked) false ⟨#[], #[], []⟩ 8 (by kernel_rfl) (by kernel_rfl) (by kernel_rfl) (by kernel_rfl))
    (by kernel_rfl) (by kernel_rfl) (by kernel_rfl) rfl (by kernel_rfl) (by kernel_rfl)
    (fun ds hl => by
      have hn : Try.f3.params.size = 0 := by kernel_rfl
      rw [hn] at hl
      obtain ⟨rfl⟩ := len0 hl
      rfl)
    (fun R args h => journalNil_all R args h)
/-- THE ROW: see the head of this text. -/
theorem journalNil_holds : Rows.JournalNilSaid :=
  OpenClaim.holds_of_wide 3 Try.f3 rfl rfl rfl rfl rfl rfl rfl ⟨rfl, rfl, rfl, rfl, rfl⟩ rfl rfl rfl rfl rfl (by kernel_rfl) Try.func3 (by kernel_rfl)
    (of_decide_eq_true (by kernel_rfl)) (by unfold Func.isWrapper; first | (rw [if_pos (by decide +kernel)]; kernel_rfl) | (rw [if_neg (by decide +kernel)]; exact ⟨rfl, rfl⟩))
    (fun os started H enc _ => journalNil_lifted os started H enc)

end Go.Proofs.Ytnoppaibcmkccaa