/- The law's row of opalinelaw29.OracleRenames, in its second form: its call returns true for every input of bulk at most 1048576, and changes nothing that was handed to it. -/
import Derived.Test.YtehbmooelcjfoaaDoorCards
import Derived.Test.YtehbmooelcjfoaaDoorTie
import Derived.OpenShut
import Derived.Deep.DeepHandedRow
import Derived.Lib.LaidTab
import Derived.WalkKit
import Derived.ProofKit
import Derived.Test.YtehbmooelcjfoaaDoorPb6
namespace Go.Proofs.YtehbmooelcjfoaaDoor
open Vc Go
set_option linter.unusedVariables false
set_option linter.unusedSimpArgs false
open Go.ChangeShapes Go.WideShapes Go.ChangeAt Go.RowKit

theorem own_ : ownKnob Tryd.prog.godebug = none := by kernel_rfl
def layC (cs : List Value) : Obj → Obj
  | .cells _ t fr => .cells cs.toArray t fr
  | o => o
noncomputable def laidWorld (os : Os) : World := { World.holding Tryd.prog os ⟨#[], #[], []⟩ with heap := ((((World.holding Tryd.prog os ⟨#[], #[], []⟩).heap).modify 2 (layC ([0, 1, 28, 2, 29, 14, 24, 3, 30, 22, 20, 15, 25, 17, 4, 8, 31, 27, 13, 23, 21, 19, 16, 7, 26, 12, 18, 6, 11, 5, 10, 9].map fun z => Value.int .u8 z))).modify 3 (layC ([0, 1, 56, 2, 57, 49, 28, 3, 61, 58, 42, 50, 38, 29, 17, 4, 62, 47, 59, 36, 45, 43, 51, 22, 53, 39, 33, 30, 24, 18, 12, 5, 63, 55, 48, 27, 60, 41, 37, 16, 46, 35, 44, 21, 52, 32, 23, 11, 54, 26, 40, 15, 34, 20, 31, 10, 25, 14, 19, 9, 13, 8, 7, 6].map fun z => Value.int .u8 z))).modify 0 (layC ([1, 10, 100, 1000, 10000, 100000, 1000000, 10000000, 100000000, 1000000000, 10000000000, 100000000000, 1000000000000, 10000000000000, 100000000000000, 1000000000000000, 10000000000000000, 100000000000000000, 1000000000000000000, 10000000000000000000].map fun z => Value.int .u64 z)) }
theorem tab_of {W : World} {l : List (String × DataW Unit)} (h : laidMetH Tryd.prog l W) (hl : (l.filter fun x => x.1 == "internal/strconv.uint64pow10") = [("internal/strconv.uint64pow10", Lib.tabData .u64 Lib.pow10Tab)]) : TabR (memRO W) := by
  have h1 := laidMetH.filter (fun x => x.1 == "internal/strconv.uint64pow10") h
  rw [hl] at h1
  have h3 : Lib.TabIs Tryd.prog W "internal/strconv.uint64pow10" .u64 Lib.pow10Tab := Lib.tabIs_of_head (rest := []) (g := 0) (t := 108) (e := 73) (n := 20) (by kernel_rfl) (by kernel_rfl) (by kernel_rfl) (by kernel_rfl) (by kernel_rfl) (by kernel_rfl) h1
  have hg : Tryd.prog.globalNamed "internal/strconv.uint64pow10" = some 0 := by kernel_rfl
  unfold Lib.TabIs World.var? at h3
  rw [hg] at h3
  simp only [Option.bind_some] at h3
  cases hh : W.heap[0]? with
  | none => rw [hh] at h3; cases h3
  | some ob =>
    rw [hh] at h3
    cases ob with
    | cells c t fr =>
      exact ⟨t, fr, by show W.heap[0]? = _; rw [hh]; exact congrArg (fun z => some (Obj.cells z t fr)) (Option.some.inj h3)⟩
    | _ => cases h3

theorem oracleRenames_ok (lv : Option Addr) (ln lc LB LO : Nat) (rw : Nat → RW) (bz : Int) (R : RO) (hT : TabR R) (hbz : 0 ≤ bz ∧ bz ≤ 4294967295) (hln : ln ≤ 1048576) (hrw : ∀ j, j < ln → lv = some ⟨LB, LO, none⟩ ∧ R.cells LB (LO + j * 1) [.slice (rw j).a (rw j).n (rw j).c] ∧ (rw j).Ok R) : Gives Tryd.prog 3 [.slice lv ln lc, .int .u32 bz] R [] (.ret (.bool true)) [] :=
  Does.forget ((oracleRenames_own lv ln lc LB LO rw bz R hT hbz hln hrw).mono (by rintro o G B hle ⟨-, -, rfl, rfl⟩; exact ⟨rfl, rfl⟩))


set_option maxRecDepth 100000 in
set_option maxHeartbeats 4000000 in
theorem oracleRenames_all (R : RO) (hT : TabR R) (args : List Value) (h : Vc.B.FitAll 1048576 Tryd.prog R 40 [22, 23] args) : Gives Tryd.prog 3 args R [] (.ret (.bool true)) [] :=
  Vc.B.fitAll_args (n := 40) (E := ∀ (lv : Option Addr) (lvn lvc : Nat) (klv : lvn ≤ lvc) (mlv : lvc ≤ 1048576) (Llv : Vc.B.Lies 1048576 Tryd.prog R 51 lv lvn) (bz : Int) (lbz : IntKind.u32.min ≤ bz) (ubz : bz ≤ IntKind.u32.max), Gives Tryd.prog 3 [.slice lv lvn lvc, .int .u32 bz] R [] (.ret (.bool true)) []) (K := fun args => Gives Tryd.prog 3 args R [] (.ret (.bool true)) []) (by kernel_rfl)
    (fun lv lvn lvc klv mlv Llv bz lbz ubz => by
      obtain ⟨LB, LO, rw, hrw⟩ := rows_of Llv
      exact oracleRenames_ok lv lvn lvc LB LO rw bz R hT ⟨lbz, ubz⟩ (by omega) hrw) h
set_option maxRecDepth 100000 in
theorem oracleRenames_laid (os : Os) : laidMet Tryd.prog Rows.oracleRenamesUptoRow.laid ((laidWorld os).forCall (fun _ _ => 0) ⟨#[], #[.slice none 0 0, .int .u32 0], []⟩).memory :=
  laidMet_of_run' 8 (by kernel_rfl) (by kernel_rfl)
set_option maxRecDepth 100000 in
theorem oracleRenames_reads (os : Os) {H : Type} (enc : TypeId × Value → H) : ∃ places, DataW.whole enc Tryd.prog ((laidWorld os).forCall (fun _ _ => 0) ⟨#[], #[.slice none 0 0, .int .u32 0], []⟩).memory Tryd.f3.params.toList Rows.oracleRenamesSpec.vars false (#[.slice none 0 0, .int .u32 0] : Array Value).toList 8 = some ([.nil, .lit (.int .u32 0)], [], places) :=
  ⟨[], by kernel_rfl⟩
set_option maxRecDepth 100000 in
theorem oracleRenames_liftedUpto (os : Os) (started : os.Started) (H : Type) (enc : TypeId × Value → H) (F : Stop.Interp) :
    ReturnsInHanded {} Tryd.checked os 3 .any ((Rows.OpenSpec.upto Rows.oracleRenamesSpec).preRow enc Tryd.prog Tryd.f3 Rows.oracleRenamesUptoRow.domain false Rows.oracleRenamesUptoRow.laid) (((Rows.OpenSpec.upto Rows.oracleRenamesSpec).at F).post enc Tryd.prog Tryd.f3 false true false false) := by
  obtain ⟨places, hx⟩ := oracleRenames_reads os enc
  refine returnsInHanded_of_row (C := Tryd.checked) (s := Rows.OpenSpec.upto Rows.oracleRenamesSpec) own_ started (by kernel_rfl) Tryd.func3
    (witness_row_at (enc := enc) (C := Tryd.checked) false (laidWorld os) #[.slice none 0 0, .int .u32 0] rfl (by kernel_rfl) (by kernel_rfl) (by kernel_rfl)
      (OpenSpec.preRow_of_cond 8 hx (by kernel_rfl) (fun k hk => by cases hk; kernel_rfl) (by kernel_rfl) (oracleRenames_laid os))) ?_
  intro W base args ds gs before hval hW _ hcond _ hL _ _
  have hN : Rows.uptoBulkAll (ds ++ gs) ≤ 1048576 := of_decide_eq_true (hcond _ rfl)
  exact Vc.B.row_contract (C := Tryd.checked) (f := 3) (fn := Tryd.f3) (s := Rows.oracleRenamesSpec) (enc := enc) (tb := 4) (N := 1048576) 40 (by kernel_rfl) (by kernel_rfl) (by kernel_rfl) rfl (by kernel_rfl) (by kernel_rfl)
    (fun ds hl => by
      have hn : Tryd.f3.params.size = 2 := by kernel_rfl
      rw [hn] at hl
      obtain ⟨d0, d1, rfl⟩ := len2 hl
      rfl) hval hW hN (fun h => oracleRenames_all (memRO W) (tab_of hL (by kernel_rfl)) args.toList h)
/-- The second form's row. -/
theorem oracleRenames_saidUpto : Rows.OracleRenamesUptoSaid :=
  OpenClaim.holds_of_cond 3 Tryd.f3 rfl rfl rfl rfl rfl rfl rfl ⟨rfl, rfl, rfl, rfl, rfl⟩ rfl rfl rfl rfl rfl (by kernel_rfl) Tryd.func3 (by kernel_rfl)
    (of_decide_eq_true (by kernel_rfl)) (by unfold Func.isWrapper; first | (rw [if_pos (by decide +kernel)]; kernel_rfl) | (rw [if_neg (by decide +kernel)]; exact ⟨rfl, rfl⟩))
    (fun os started H enc _ F => by rw [OpenClaim.pre_eq_preRow]; exact oracleRenames_liftedUpto os started H enc F)
theorem oracleRenames_plain (f : FuncId) (fn : Func) (hf : Tryd.pinned.checked.prog.funcNamed "opaline/opalinelaw29.OracleRenames" = some f) (hfn : Tryd.pinned.checked.prog.funcs[f]? = some fn) :
    false = Tryd.pinned.checked.prog.looks [] ∧ ∀ (j : Nat) t, fn.params[j]? = some t → Tryd.pinned.checked.prog.wantsStandIn t = false := by
  obtain rfl : f = 3 := Option.some.inj ((show Tryd.prog.funcNamed "opaline/opalinelaw29.OracleRenames" = some 3 by kernel_rfl).symm.trans hf) |>.symm
  obtain rfl : fn = Tryd.f3 := (Option.some.inj (Tryd.func3.symm.trans hfn)).symm
  refine ⟨by kernel_rfl, fun j t ht => ?_⟩
  have hall : Tryd.f3.params.toList.all (fun t => !Tryd.prog.wantsStandIn t) = true := by kernel_rfl
  have hm : t ∈ Tryd.f3.params.toList := by
    have := Array.mem_of_getElem? ht
    simpa using this
  have := List.all_eq_true.1 hall t hm
  show Tryd.prog.wantsStandIn t = false
  simpa using this
/-- THE CARD OF THE SECOND FORM: see the head of this text. -/
theorem oracleRenamesUpto_holds : Rows.OracleRenamesUptoCardSaid :=
  Claim7.holds_tied_plain_at .later [] _ _ _ _ oracleRenames_saidUpto (fun _ h => by cases h) (by kernel_rfl) (fun _ h => by cases h) oracleRenamesUpto_row_tie rfl ⟨rfl, rfl⟩ (by kernel_rfl) rfl oracleRenames_plain (by kernel_rfl)
end Go.Proofs.YtehbmooelcjfoaaDoor
