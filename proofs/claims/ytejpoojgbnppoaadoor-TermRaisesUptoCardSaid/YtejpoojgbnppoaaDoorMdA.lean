import Derived.Test.YtejpoojgbnppoaaDoorStD
import Derived.Test.YtejpoojgbnppoaaDoorVcL
import Derived.Test.YtejpoojgbnppoaaDoorVcO
namespace Go.Proofs.YtejpoojgbnppoaaDoor
open Vc Go
set_option linter.unusedVariables false
set_option linter.unusedSimpArgs false

/-- A node as it came in. -/
structure ND where
  k : Int
  i : Int
  s : ByteArray
  ba : Option Addr
  bn : Nat
  bc : Nat
  BB : Nat
  BO : Nat
  bk : Nat → Int
  pa : Option Addr
  pm : Nat
  pc : Nat
  PB : Nat
  PO : Nat
  pw : Nat → PW
namespace ND
def row (x : ND) : List Value := [.int .i64 x.k, .int .u32 x.i, .string x.s, .slice x.ba x.bn x.bc, .slice x.pa x.pm x.pc]
structure Ok (R : RO) (x : ND) : Prop where
  k0 : IntKind.i64.min ≤ x.k
  k1 : x.k ≤ IntKind.i64.max
  i0 : 0 ≤ x.i
  i1 : x.i ≤ 4294967295
  sl : x.s.size ≤ 1048576
  bl : x.bn ≤ x.bc ∧ x.bc ≤ 1048576
  pl : x.pm ≤ x.pc ∧ x.pc ≤ 1048576
  bb : ∀ j, j < x.bn → x.ba = some ⟨x.BB, x.BO, none⟩ ∧ R.cells x.BB (x.BO + j * 1) [.int .u8 (x.bk j)] ∧ 0 ≤ x.bk j ∧ x.bk j ≤ 255
  pp : ∀ j, j < x.pm → x.pa = some ⟨x.PB, x.PO, none⟩ ∧ R.cells x.PB (x.PO + j * 2) [.int .u32 (x.pw j).1, .int .i64 (x.pw j).2] ∧ (0 ≤ (x.pw j).1 ∧ (x.pw j).1 ≤ 4294967295) ∧ IntKind.i64.min ≤ (x.pw j).2 ∧ (x.pw j).2 ≤ IntKind.i64.max
theorem Ok.mono {R S : RO} (h : R.le S) {x : ND} (o : x.Ok R) : x.Ok S :=
  ⟨o.k0, o.k1, o.i0, o.i1, o.sl, o.bl, o.pl, fun j hj => ⟨(o.bb j hj).1, RO.cells_mono h (o.bb j hj).2.1, (o.bb j hj).2.2⟩, fun j hj => ⟨(o.pp j hj).1, RO.cells_mono h (o.pp j hj).2.1, (o.pp j hj).2.2⟩⟩
instance : Inhabited ND := ⟨⟨0, 0, .empty, none, 0, 0, 0, 0, fun _ => 0, none, 0, 0, 0, 0, fun _ => (0, 0)⟩⟩
end ND
/-- Nodes that came in, told by a function. -/
theorem nodes_of {R : RO} {lv : Option Addr} {ln : Nat} (h : Vc.B.Lies 1048576 Tryd.prog R 36 lv ln) : ∃ (B O : Nat) (nd : Nat → ND), ∀ j, j < ln → lv = some ⟨B, O, none⟩ ∧ R.cells B (O + j * 5) (nd j).row ∧ (nd j).Ok R :=
  Vc.B.Lies.fn h 40 ND.row (ND.Ok R) (z := 5) (by kernel_rfl)
    (E := ∀ (k : Int), IntKind.i64.min ≤ k → k ≤ IntKind.i64.max → ∀ (i : Int), IntKind.u32.min ≤ i → i ≤ IntKind.u32.max → ∀ (s : ByteArray), s.size ≤ 1048576 →
      ∀ (ba : Option Addr) (bn bc : Nat), bn ≤ bc → bc ≤ 1048576 → Vc.B.Lies 1048576 Tryd.prog R 5 ba bn → ∀ (pa : Option Addr) (pm pc : Nat), pm ≤ pc → pc ≤ 1048576 → Vc.B.Lies 1048576 Tryd.prog R 25 pa pm →
      ∃ x : ND, [Value.int .i64 k, .int .u32 i, .string s, .slice ba bn bc, .slice pa pm pc] = x.row ∧ x.Ok R) (by kernel_rfl)
    (fun k k0 k1 i i0 i1 s hs ba bn bc h1 h2 L1 pa pm pc h3 h4 L2 => by
      obtain ⟨BB, BO, bk, hb⟩ := Vc.B.Lies.fn L1 10 (fun x : Int => [.int .u8 x]) (fun x => 0 ≤ x ∧ x ≤ 255) (z := 1) (by kernel_rfl)
        (E := ∀ i : Int, IntKind.u8.min ≤ i → i ≤ IntKind.u8.max → ∃ x : Int, [Value.int .u8 i] = [.int .u8 x] ∧ 0 ≤ x ∧ x ≤ 255) (by kernel_rfl) (fun i h1 h2 => ⟨i, rfl, h1, h2⟩)
      obtain ⟨PB, PO, pw, hp⟩ := Vc.B.Lies.fn L2 10 (fun x : PW => [.int .u32 x.1, .int .i64 x.2]) (fun x => (0 ≤ x.1 ∧ x.1 ≤ 4294967295) ∧ IntKind.i64.min ≤ x.2 ∧ x.2 ≤ IntKind.i64.max) (z := 2) (by kernel_rfl)
        (E := ∀ i : Int, IntKind.u32.min ≤ i → i ≤ IntKind.u32.max → ∀ n : Int, IntKind.i64.min ≤ n → n ≤ IntKind.i64.max → ∃ x : PW, [Value.int .u32 i, .int .i64 n] = [.int .u32 x.1, .int .i64 x.2] ∧ (0 ≤ x.1 ∧ x.1 ≤ 4294967295) ∧ IntKind.i64.min ≤ x.2 ∧ x.2 ≤ IntKind.i64.max) (by kernel_rfl)
        (fun i h1 h2 n h3 h4 => ⟨(i, n), rfl, ⟨h1, h2⟩, h3, h4⟩)
      exact ⟨⟨k, i, s, ba, bn, bc, BB, BO, bk, pa, pm, pc, PB, PO, pw⟩, rfl, k0, k1, i0, i1, hs, ⟨h1, h2⟩, ⟨h3, h4⟩, hb, hp⟩)
end Go.Proofs.YtejpoojgbnppoaaDoor
