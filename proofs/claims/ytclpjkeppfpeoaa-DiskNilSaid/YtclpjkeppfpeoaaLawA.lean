/- What is proved: DiskNil: a disk that is none answers as the document says. Without conditions. -/
import Derived.Test.YtclpjkeppfpeoaaDskC
import Derived.Test.YtclpjkeppfpeoaaVcL
import Derived.Test.YtclpjkeppfpeoaaRows
namespace Go.Proofs.Ytclpjkeppfpeoaa
open Vc Go
set_option linter.unusedVariables false
set_option linter.unusedSimpArgs false

set_option maxRecDepth 100000 in
theorem nil_law  (R : RO)  : Gives Try.prog 5 [] R [] (.ret (.bool true)) [] :=
  Does.of_wp_eq (VC := ((Gives Try.prog 18 [.pointer none, .int .i64 1] R [] (.ret (.tuple #[])) []) ∧ ∀ a0 : Nat, (Gives Try.prog 15 [.pointer none, .slice (some ⟨a0, 0, none⟩) 1 1] R [some (a0, .row [.int .i64 5] 52 1)] (.ret (.tuple #[])) [some (a0, .row [.int .i64 5] 52 1)]) ∧ (Gives Try.prog 10 [.pointer none, .int .i64 0] R [] (.ret (.tuple #[.agg ((blkL (fun _ => 0)).toArray), .int .i64 1])) []) ∧ ∀ a1 : Nat, (a1 = a1 ∧ writeVar Try.prog 34 (blkL (fun _ => 0)) 0 (.agg ((blkL (fun _ => 0)).toArray)) = some (blkL (fun _ => 0))) ∧ (Gives Try.prog 7 [] R [] (.ret (.bool true)) []) ∧ (Prim0 Try.prog (.bld 34 []) R [] (.agg ((blkL (fun _ => 0)).toArray)) []) ∧ (Gives Try.prog 9 [.pointer none, .int .i64 0, .agg ((blkL (fun _ => 0)).toArray)] R [] (.ret (.int .i64 1)) []) ∧ (Gives Try.prog 13 [.pointer none] R [] (.ret (.int .i64 1)) []) ∧ (Gives Try.prog 19 [.pointer none] R [] (.ret (.int .i64 0)) []) ∧ (Gives Try.prog 20 [.pointer none] R [] (.ret (.bool false)) []) ∧ (Gives Try.prog 21 [.pointer none] R [] (.ret (.int .i64 0)) []) ∧ (Gives Try.prog 17 [.pointer none] R [] (.ret (.slice none 0 0)) []) ∧ (Gives Try.prog 14 [.pointer none, .int .i64 0] R [] (.ret (.agg ((blkL (fun _ => 0)).toArray))) []) ∧ (Prim0 Try.prog (.bld 34 []) R [] (.agg ((blkL (fun _ => 0)).toArray)) []) ∧ ((IntRow .u8 512 (((blkL (fun _ => 0)).toArray).toList)) ∧ (IntRow .u8 512 (((blkL (fun _ => 0)).toArray).toList))) ∧ (vEq (((blkL (fun _ => 0)).toArray).toList) (((blkL (fun _ => 0)).toArray).toList)) = true ∧ (Gives Try.prog 11 [.pointer none, .int .i64 0, .int .i64 0, .int .u8 1] R [] (.ret (.bool false)) []) ∧ GQ R (.ret (.bool true)) [] (.ret (.bool true)) R [])) (ops [.d, .d, .d, .call0 [] [] (fun e v => .ret (.tuple #[])) (fun e v => []), .d, .d] (.opn 0 (fun a0 => (ops [.call0 [0] [] (fun e v => .ret (.tuple #[])) (fun e v => [some (a0, .row [.int .i64 5] 52 1)]), .d, .call0 [] [] (fun e v => .ret (.tuple #[.agg ((blkL (fun _ => 0)).toArray), .int .i64 1])) (fun e v => []), .d, .d, .d] (.opn 1 (fun a1 => (ops [.sq 1 (fun e v => blkL (fun _ => 0)), .d, .call0 [] [] (fun e v => .ret (.bool true)) (fun e v => []), .d, .d, .d, .d, .d, .d, .pr0 [] [] (fun e v => .agg ((blkL (fun _ => 0)).toArray)) (fun e v => []), .call0 [] [] (fun e v => .ret (.int .i64 1)) (fun e v => []), .d, .d, .d, .d, .call0 [] [] (fun e v => .ret (.int .i64 1)) (fun e v => []), .d, .d, .d, .d, .call0 [] [] (fun e v => .ret (.int .i64 0)) (fun e v => []), .d, .d, .d, .d, .call0 [] [] (fun e v => .ret (.bool false)) (fun e v => []), .d, .d, .d, .d, .call0 [] [] (fun e v => .ret (.int .i64 0)) (fun e v => []), .d, .d, .d, .d, .call0 [] [] (fun e v => .ret (.slice none 0 0)) (fun e v => []), .d, .d, .d, .d, .d, .call0 [] [] (fun e v => .ret (.agg ((blkL (fun _ => 0)).toArray))) (fun e v => []), .pr0 [] [] (fun e v => .agg ((blkL (fun _ => 0)).toArray)) (fun e v => []), .eqs, .d, .d] (.br 58 true (ops [.d, .call0 [] [] (fun e v => .ret (.bool false)) (fun e v => []), .d, .d, .d] (.fin [] [])))))))))) Try.func5 (by kernel_rfl) (by kernel_rfl)
    (⟨(fuse_nil 1 R), fun a0 => ⟨(crash_nil (some a0) 1 [5] R), ⟨(read_nil 0 R), fun a1 => ⟨⟨rfl, (write_blk (by kernel_rfl) (blkL_len _) _)⟩, ⟨(awake_ok R), ⟨(bld_ok (by kernel_rfl)), ⟨(write_nil 0 (fun _ => 0) R), ⟨(barrier_nil R), ⟨(sectors_nil R), ⟨(down_nil R), ⟨(steps_nil R), ⟨(waits_nil R), ⟨(lasts_nil 0 R (by decide)), ⟨(bld_ok (by kernel_rfl)), ⟨⟨blkL_row _, blkL_row _⟩, ⟨(vEq_blk.2 (fun k hk => rfl)), ⟨(turn_nil 0 0 1 R), ⟨rfl, (by first | rfl | (simp only [*]; done)), (by rfl)⟩⟩⟩⟩⟩⟩⟩⟩⟩⟩⟩⟩⟩⟩⟩⟩⟩⟩)


set_option maxRecDepth 100000 in
theorem diskNil_all (R : RO) (args : List Value) (h : FitAll Try.prog R 30 [] args) : Gives Try.prog 5 args R [] (.ret (.bool true)) [] :=
  fitAll_args (n := 30) (E := Gives Try.prog 5 [] R [] (.ret (.bool true)) []) (K := fun args => Gives Try.prog 5 args R [] (.ret (.bool true)) []) (by kernel_rfl)
    (nil_law R) h
theorem diskNil_lifted (os : Os) (started : os.Started) (H : Type) (enc : TypeId × Value → H) :
    ReturnsInHanded {} Try.checked os 5 .any (Rows.diskNilSpec.pre6 enc Try.prog Try.f5 Rows.diskNilRow.domain false) (Rows.diskNilSpec.post enc Try.prog Try.f5 false true false false) :=
  law_lifted (C := Try.checked) (tb := 4) 30 (by kernel_rfl) started (by kernel_rfl) Try.func5
    (ChangeSpec.witness6 (enc := enc) (C := Try.checked) false ⟨#[], #[], []⟩ 8 (by kernel_rfl) (by kernel_rfl) (by kernel_rfl) (by kernel_rfl))
    (by kernel_rfl) (by kernel_rfl) (by kernel_rfl) rfl (by kernel_rfl) (by kernel_rfl)
    (fun ds hl => by
      have hn : Try.f5.params.size = 0 := by kernel_rfl
      rw [hn] at hl
      obtain ⟨rfl⟩ := len0 hl
      rfl)
    (fun R args h => diskNil_all R args h)
/-- THE ROW: see the head of this text. -/
theorem diskNil_holds : Rows.DiskNilSaid :=
  OpenClaim.holds_of_wide 5 Try.f5 rfl rfl rfl rfl rfl rfl rfl ⟨rfl, rfl, rfl, rfl, rfl⟩ rfl rfl rfl rfl rfl (by kernel_rfl) Try.func5 (by kernel_rfl)
    (of_decide_eq_true (by kernel_rfl)) (by unfold Func.isWrapper; first | (rw [if_pos (by decide +kernel)]; kernel_rfl) | (rw [if_neg (by decide +kernel)]; exact ⟨rfl, rfl⟩))
    (fun os started H enc _ => diskNil_lifted os started H enc)

end Go.Proofs.Ytclpjkeppfpeoaa