/- Parts of the proof: what the texts behind this one need. -/
import Derived.RangeFuncRecord
import Derived.Shelf.SlIterI.Nil
import Derived.Shelf.SortM.Plain
import Derived.Shelf.SortM.SortNone
import Derived.Test.YtehbmooelcjfoaaDoorPb2
set_option maxRecDepth 100000
set_option maxHeartbeats 4000000
namespace Go.Proofs.YtehbmooelcjfoaaDoor
open Vc Go
set_option linter.unusedVariables false
set_option linter.unusedSimpArgs false
theorem o2_ok (A0 n cap N W0 : Nat) (T : List Value) (d : Array Int) (a b s : Int) (R : RO) (hd : d.size = n) (hn : n ≤ 1152921504606846976) (h1 : 0 ≤ a∧a < n) (h2 : 0 ≤ b∧b < n) : Gives Tryd.prog 89 [slA A0 n cap, vi a, vi b, ptA W0] R [some (A0, .row (u32l d ++ T) 23 N), some (W0, .row [vi s] 3 1)] (.ret (.tuple #[vi (o2 d a b s).1, vi (o2 d a b s).2.1])) [some (A0, .row (u32l d ++ T) 23 N), some (W0, .row [vi ((o2 d a b s).2.2)] 3 1)] :=
  Does.of_wp_eq (VC := ((IB b (n : Nat))∧(RDu A0 d T b)∧(IB a (n : Nat))∧(RDu A0 d T a)∧(Gives Tryd.prog 79 [vu (d[Int.toNat b]!), vu (d[Int.toNat a]!)] R [] (.ret (.bool (decide ((d[Int.toNat b]!) < (d[Int.toNat a]!))))) [])∧((decide ((d[Int.toNat b]!) < (d[Int.toNat a]!))) = true → (W0 = W0)∧(W0 = W0)∧GQ R (.ret (.tuple #[vi (o2 d a b s).1, vi (o2 d a b s).2.1])) [some (A0, .row (u32l d ++ T) 23 N), some (W0, .row [vi ((o2 d a b s).2.2)] 3 1)] (.ret (.tuple #[vi b, vi a])) R [some (A0, .row (u32l d ++ T) 23 N), some (W0, .row [vi (IntKind.i64.wrap (s + 1))] 3 1)])∧((decide ((d[Int.toNat b]!) < (d[Int.toNat a]!))) = false → GQ R (.ret (.tuple #[vi (o2 d a b s).1, vi (o2 d a b s).2.1])) [some (A0, .row (u32l d ++ T) 23 N), some (W0, .row [vi ((o2 d a b s).2.2)] 3 1)] (.ret (.tuple #[vi a, vi b])) R [some (A0, .row (u32l d ++ T) 23 N), some (W0, .row [vi s] 3 1)]))) (ops [.d, .d] (.dr [some (.d), some (.d), some (.ia), some (.q 0 (fun e v => .int .u32 (d[Int.toNat b]!))), some (.d), some (.d), some (.ia), some (.q 0 (fun e v => .int .u32 (d[Int.toNat a]!))), some (.call0 [] [] (fun e v => .ret (.bool (decide ((d[Int.toNat b]!) < (d[Int.toNat a]!))))) (fun e v => []))] (.sp 18 (ops [.d, .d, .p 1, .d, .d, .p 1, .d, .d, .d, .d] (.fin [0, 1] [])) (ops [.d, .d, .d, .d] (.fin [0, 1] []))))) Tryd.func89 (by kernel_rfl) (by kernel_rfl)
    (⟨(by omega), ⟨(rdu (by omega)), ⟨(by omega), ⟨(rdu (by omega)), ⟨(less_ok (d[Int.toNat b]!) (d[Int.toNat a]!) R), ⟨fun h0 => ⟨rfl, ⟨rfl, ⟨rfl, (by simp only [o2, h0];rfl), (by simp only [o2, h0];rfl)⟩⟩⟩, fun h0 => ⟨rfl, (by simp only [o2, h0];rfl), (by simp only [o2, h0];rfl)⟩⟩⟩⟩⟩⟩⟩)
theorem md_ok (A0 n cap N W0 : Nat) (T : List Value) (d : Array Int) (a b c s : Int) (R : RO) (hd : d.size = n) (hn : n ≤ 1152921504606846976) (h1 : 0 ≤ a∧a < n) (h2 : 0 ≤ b∧b < n) (h3 : 0 ≤ c∧c < n) : Gives Tryd.prog 87 [slA A0 n cap, vi a, vi b, vi c, ptA W0] R [some (A0, .row (u32l d ++ T) 23 N), some (W0, .row [vi s] 3 1)] (.ret (vi (med d a b c s).1)) [some (A0, .row (u32l d ++ T) 23 N), some (W0, .row [vi ((med d a b c s).2)] 3 1)] :=
  Does.of_wp_eq (VC := (let z2 : Hp := [some (A0, .row (u32l d ++ T) 23 N), some (W0, .row [vi ((o2 d a b s).2.2)] 3 1)];let z0 := (o2 d ((o2 d a b s).2.1) c ((o2 d a b s).2.2));let z3 : Hp := [some (A0, .row (u32l d ++ T) 23 N), some (W0, .row [vi (z0.2.2)] 3 1)];let z1 := (o2 d ((o2 d a b s).1) (z0.1) (z0.2.2));let z4 : Hp := [some (A0, .row (u32l d ++ T) 23 N), some (W0, .row [vi (z1.2.2)] 3 1)];(Gives Tryd.prog 89 [slA A0 n cap, vi a, vi b, ptA W0] R [some (A0, .row (u32l d ++ T) 23 N), some (W0, .row [vi s] 3 1)] (.ret (.tuple #[vi ((o2 d a b s).1), vi ((o2 d a b s).2.1)])) z2)∧(Gives Tryd.prog 89 [slA A0 n cap, vi ((o2 d a b s).2.1), vi c, ptA W0] R z2 (.ret (.tuple #[vi (z0.1), vi (z0.2.1)])) z3)∧(Gives Tryd.prog 89 [slA A0 n cap, vi ((o2 d a b s).1), vi (z0.1), ptA W0] R z3 (.ret (.tuple #[vi (z1.1), vi (z1.2.1)])) z4)∧GQ R (.ret (vi (med d a b c s).1)) [some (A0, .row (u32l d ++ T) 23 N), some (W0, .row [vi ((med d a b c s).2)] 3 1)] (.ret (vi (z1.2.1))) R z4)) (let y_0 := (o2 d ((o2 d a b s).2.1) c ((o2 d a b s).2.2));let y_1 := (o2 d ((o2 d a b s).1) (y_0.1) (y_0.2.2));ops [.d, .d, .d, .d, .d, .call0 [0, 1] [] (fun e v => .ret (.tuple #[vi ((o2 d a b s).1), vi ((o2 d a b s).2.1)])) (fun e v => [some (A0, .row (u32l d ++ T) 23 N), some (W0, .row [vi ((o2 d a b s).2.2)] 3 1)]), .d, .d, .d, .d, .d, .d, .d, .d, .d, .call0 [0, 1] [] (fun e v => .ret (.tuple #[vi (y_0.1), vi (y_0.2.1)])) (fun e v => [some (A0, .row (u32l d ++ T) 23 N), some (W0, .row [vi (y_0.2.2)] 3 1)]), .d, .d, .d, .d, .d, .d, .d, .d, .d, .call0 [0, 1] [] (fun e v => .ret (.tuple #[vi (y_1.1), vi (y_1.2.1)])) (fun e v => [some (A0, .row (u32l d ++ T) 23 N), some (W0, .row [vi (y_1.2.2)] 3 1)]), .d, .d, .d, .d, .d, .d, .d] (.fin [0, 1] [])) Tryd.func87 (by kernel_rfl) (by kernel_rfl)
    (⟨(o2_ok A0 n cap N W0 T d a b s R hd hn h1 h2), ⟨(o2_ok A0 n cap N W0 T d ((o2 d a b s).2.1) c ((o2 d a b s).2.2) R hd hn (o2_in h1 h2).2 h3), ⟨(o2_ok A0 n cap N W0 T d ((o2 d a b s).1) ((o2 d ((o2 d a b s).2.1) c ((o2 d a b s).2.2)).1) ((o2 d ((o2 d a b s).2.1) c ((o2 d a b s).2.2)).2.2) R hd hn (o2_in h1 h2).1 (o2_in (o2_in h1 h2).2 h3).1), ⟨rfl, (by rfl), (by rfl)⟩⟩⟩⟩)
theorem ma_ok (A0 n cap N W0 : Nat) (T : List Value) (d : Array Int) (a s : Int) (R : RO) (hd : d.size = n) (hn : n ≤ 1152921504606846976) (h1 : 1 ≤ a∧a + 1 < n) : Gives Tryd.prog 86 [slA A0 n cap, vi a, ptA W0] R [some (A0, .row (u32l d ++ T) 23 N), some (W0, .row [vi s] 3 1)] (.ret (vi (med d (a - 1) a (a + 1) s).1)) [some (A0, .row (u32l d ++ T) 23 N), some (W0, .row [vi ((med d (a - 1) a (a + 1) s).2)] 3 1)] :=
  Does.of_wp_eq (VC := ((NW .i64 (a - 1))∧(NW .i64 (a + 1))∧(Gives Tryd.prog 87 [slA A0 n cap, vi (a - 1), vi a, vi (a + 1), ptA W0] R [some (A0, .row (u32l d ++ T) 23 N), some (W0, .row [vi s] 3 1)] (.ret (vi ((med d (a - 1) a (a + 1) s).1))) [some (A0, .row (u32l d ++ T) 23 N), some (W0, .row [vi ((med d (a - 1) a (a + 1) s).2)] 3 1)])∧GQ R (.ret (vi (med d (a - 1) a (a + 1) s).1)) [some (A0, .row (u32l d ++ T) 23 N), some (W0, .row [vi ((med d (a - 1) a (a + 1) s).2)] 3 1)] (.ret (vi ((med d (a - 1) a (a + 1) s).1))) R [some (A0, .row (u32l d ++ T) 23 N), some (W0, .row [vi ((med d (a - 1) a (a + 1) s).2)] 3 1)])) (ops [.d, .d, .d, .nw, .d, .d, .nw, .d, .call0 [0, 1] [] (fun e v => .ret (vi ((med d (a - 1) a (a + 1) s).1))) (fun e v => [some (A0, .row (u32l d ++ T) 23 N), some (W0, .row [vi ((med d (a - 1) a (a + 1) s).2)] 3 1)]), .d] (.fin [0, 1] [])) Tryd.func86 (by kernel_rfl) (by kernel_rfl)
    (⟨(nwI (by omega) (by omega)), ⟨(nwI (by omega) (by omega)), ⟨(md_ok A0 n cap N W0 T d (a - 1) a (a + 1) s R hd hn (by omega) (by omega) (by omega)), ⟨rfl, (by rfl), (by rfl)⟩⟩⟩⟩)
theorem cp_ok (A0 n cap N : Nat) (T : List Value) (d : Array Int) (a b : Int) (R : RO) (hd : d.size = n) (hn : n ≤ 1152921504606846976) (ha : 0 ≤ a) (hab : a < b) (hb : b ≤ (n : Int)) : GivesX Tryd.prog 76 [slA A0 n cap, vi a, vi b] R [some (A0, .row (u32l d ++ T) 23 N)] ({y : Int×Int // a ≤ y.1∧y.1 < b}) (fun y => (.tuple #[vi y.1.1, vi y.1.2], [some (A0, .row (u32l d ++ T) 23 N)])) :=
  Does.of_wp_eq (VC := (let z3 : Hp := [some (A0, .row (u32l d ++ T) 23 N)];let z1 := (wq4 a b);let z6 := (med d ((a + (z1 * 1)) - 1) (a + (z1 * 1)) ((a + (z1 * 1)) + 1) 0);let z4 := (med d (a + (z1 * 1)) (a + (z1 * 2)) (a + (z1 * 3)) 0);let z2 := (med d ((a + (z1 * 2)) - 1) (a + (z1 * 2)) ((a + (z1 * 2)) + 1) (z6.2));let z5 := (med d ((a + (z1 * 3)) - 1) (a + (z1 * 3)) ((a + (z1 * 3)) + 1) (z2.2));let z0 := (med d (z6.1) (z2.1) (z5.1) (z5.2));(NW .i64 (b - a))∧∀ a0 : Nat, let z10 : Hp := [some (A0, .row (u32l d ++ T) 23 N), some (a0, .row [vi 0] 3 1)];let z9 : Hp := [some (A0, .row (u32l d ++ T) 23 N), some (a0, .row [vi (z5.2)] 3 1)];let z8 : Hp := [some (A0, .row (u32l d ++ T) 23 N), some (a0, .row [vi (z2.2)] 3 1)];let z7 : Hp := [some (A0, .row (u32l d ++ T) 23 N), some (a0, .row [vi (z6.2)] 3 1)];(NW .i64 (z1 * 1))∧(NW .i64 (a + (z1 * 1)))∧(NW .i64 (z1 * 2))∧(NW .i64 (a + (z1 * 2)))∧(NW .i64 (z1 * 3))∧(NW .i64 (a + (z1 * 3)))∧((decide ((b - a) ≥ 8)) = true → ((decide ((b - a) ≥ 50)) = true → (Gives Tryd.prog 86 [slA A0 n cap, vi (a + (z1 * 1)), ptA a0] R z10 (.ret (vi (z6.1))) z7)∧(Gives Tryd.prog 86 [slA A0 n cap, vi (a + (z1 * 2)), ptA a0] R z7 (.ret (vi (z2.1))) z8)∧(Gives Tryd.prog 86 [slA A0 n cap, vi (a + (z1 * 3)), ptA a0] R z8 (.ret (vi (z5.1))) z9)∧(Gives Tryd.prog 87 [slA A0 n cap, vi (z6.1), vi (z2.1), vi (z5.1), ptA a0] R z9 (.ret (vi (z0.1))) [some (A0, .row (u32l d ++ T) 23 N), some (a0, .row [vi (z0.2)] 3 1)])∧(a0 = a0)∧(((z0.2) == 0) = true → GX R ({y : Int×Int // a ≤ y.1∧y.1 < b}) (fun y => (.tuple #[vi y.1.1, vi y.1.2], z3)) (.ret (.tuple #[vi (z0.1), vi 1])) R z3)∧(((z0.2) == 0) = false → (((z0.2) == 12) = true → GX R ({y : Int×Int // a ≤ y.1∧y.1 < b}) (fun y => (.tuple #[vi y.1.1, vi y.1.2], z3)) (.ret (.tuple #[vi (z0.1), vi 2])) R z3)∧(((z0.2) == 12) = false → GX R ({y : Int×Int // a ≤ y.1∧y.1 < b}) (fun y => (.tuple #[vi y.1.1, vi y.1.2], z3)) (.ret (.tuple #[vi (z0.1), vi 0])) R z3)))∧((decide ((b - a) ≥ 50)) = false → (Gives Tryd.prog 87 [slA A0 n cap, vi (a + (z1 * 1)), vi (a + (z1 * 2)), vi (a + (z1 * 3)), ptA a0] R z10 (.ret (vi (z4.1))) [some (A0, .row (u32l d ++ T) 23 N), some (a0, .row [vi (z4.2)] 3 1)])∧(a0 = a0)∧(((z4.2) == 0) = true → GX R ({y : Int×Int // a ≤ y.1∧y.1 < b}) (fun y => (.tuple #[vi y.1.1, vi y.1.2], z3)) (.ret (.tuple #[vi (z4.1), vi 1])) R z3)∧(((z4.2) == 0) = false → (((z4.2) == 12) = true → GX R ({y : Int×Int // a ≤ y.1∧y.1 < b}) (fun y => (.tuple #[vi y.1.1, vi y.1.2], z3)) (.ret (.tuple #[vi (z4.1), vi 2])) R z3)∧(((z4.2) == 12) = false → GX R ({y : Int×Int // a ≤ y.1∧y.1 < b}) (fun y => (.tuple #[vi y.1.1, vi y.1.2], z3)) (.ret (.tuple #[vi (z4.1), vi 0])) R z3))))∧((decide ((b - a) ≥ 8)) = false → (a0 = a0)∧GX R ({y : Int×Int // a ≤ y.1∧y.1 < b}) (fun y => (.tuple #[vi y.1.1, vi y.1.2], z3)) (.ret (.tuple #[vi (a + (z1 * 2)), vi 1])) R z3))) (let y_4 := (ops [.d, .d, .d] (.fin [0] []));let y_0 := (wq4 a b);let y_3 := (med d ((a + (y_0 * 1)) - 1) (a + (y_0 * 1)) ((a + (y_0 * 1)) + 1) 0);let y_1 := (med d ((a + (y_0 * 2)) - 1) (a + (y_0 * 2)) ((a + (y_0 * 2)) + 1) (y_3.2));let y_2 := (med d ((a + (y_0 * 3)) - 1) (a + (y_0 * 3)) ((a + (y_0 * 3)) + 1) (y_1.2));ops [.d, .d, .d, .d, .nw, .d] (.opn 1 (fun a0 => (ops [.d, .d, .d, .nw, .nw, .d, .d, .d, .d, .nw, .nw, .d, .d, .d, .d, .nw, .nw, .d, .d, .d] (.sp 32 (ops [.d, .d] (.sp 34 (ops [.d, .d, .call0 [0, 1] [] (fun e v => .ret (vi (y_3.1))) (fun e v => [some (A0, .row (u32l d ++ T) 23 N), some (a0, .row [vi (y_3.2)] 3 1)]), .d, .d, .d, .call0 [0, 1] [] (fun e v => .ret (vi (y_1.1))) (fun e v => [some (A0, .row (u32l d ++ T) 23 N), some (a0, .row [vi (y_1.2)] 3 1)]), .d, .d, .d, .call0 [0, 1] [] (fun e v => .ret (vi (y_2.1))) (fun e v => [some (A0, .row (u32l d ++ T) 23 N), some (a0, .row [vi (y_2.2)] 3 1)]), .d, .d, .d, .d, .d, .call0 [0, 1] [] (fun e v => .ret (vi ((med d (y_3.1) (y_1.1) (y_2.1) (y_2.2)).1))) (fun e v => [some (A0, .row (u32l d ++ T) 23 N), some (a0, .row [vi ((med d (y_3.1) (y_1.1) (y_2.1) (y_2.2)).2)] 3 1)]), .d, .p 1, .d, .d] (.sp 51 y_4 (ops [.d, .d] (.sp 54 y_4 y_4)))) (ops [.d, .d, .d, .d, .call0 [0, 1] [] (fun e v => .ret (vi ((med d (a + (y_0 * 1)) (a + (y_0 * 2)) (a + (y_0 * 3)) 0).1))) (fun e v => [some (A0, .row (u32l d ++ T) 23 N), some (a0, .row [vi ((med d (a + (y_0 * 1)) (a + (y_0 * 2)) (a + (y_0 * 3)) 0).2)] 3 1)]), .d, .p 1, .d, .d] (.sp 51 y_4 (ops [.d, .d] (.sp 54 y_4 y_4)))))) (ops [.p 1, .d, .d, .d, .d, .d] (.fin [0] []))))))) Tryd.func76 (by kernel_rfl) (by kernel_rfl)
    (⟨(nwI (by have := q4k (a := a) (b := b) (by omega) (by omega);omega) (by have := q4k (a := a) (b := b) (by omega) (by omega);omega)), fun a0 => ⟨(nwI (by have := q4k (a := a) (b := b) (by omega) (by omega);omega) (by have := q4k (a := a) (b := b) (by omega) (by omega);omega)), ⟨(nwI (by have := q4k (a := a) (b := b) (by omega) (by omega);omega) (by have := q4k (a := a) (b := b) (by omega) (by omega);omega)), ⟨(nwI (by have := q4k (a := a) (b := b) (by omega) (by omega);omega) (by have := q4k (a := a) (b := b) (by omega) (by omega);omega)), ⟨(nwI (by have := q4k (a := a) (b := b) (by omega) (by omega);omega) (by have := q4k (a := a) (b := b) (by omega) (by omega);omega)), ⟨(nwI (by have := q4k (a := a) (b := b) (by omega) (by omega);omega) (by have := q4k (a := a) (b := b) (by omega) (by omega);omega)), ⟨(nwI (by have := q4k (a := a) (b := b) (by omega) (by omega);omega) (by have := q4k (a := a) (b := b) (by omega) (by omega);omega)), ⟨fun h1 => (have := of_decide_eq_true h1;⟨fun h2 => (have := of_decide_eq_true h2;⟨(ma_ok A0 n cap N a0 T d (a + ((wq4 a b) * 1)) 0 R hd hn (by have := q4k (a := a) (b := b) (by omega) (by omega);omega)), ⟨(ma_ok A0 n cap N a0 T d (a + ((wq4 a b) * 2)) ((med d ((a + ((wq4 a b) * 1)) - 1) (a + ((wq4 a b) * 1)) ((a + ((wq4 a b) * 1)) + 1) 0).2) R hd hn (by have := q4k (a := a) (b := b) (by omega) (by omega);have := med_in (d := d) (a := ((a + ((wq4 a b) * 1)) - 1)) (b := (a + ((wq4 a b) * 1))) (c := ((a + ((wq4 a b) * 1)) + 1)) (s := 0) (lo := a) (hi := b) (by omega) (by omega) (by omega);omega)), ⟨(ma_ok A0 n cap N a0 T d (a + ((wq4 a b) * 3)) ((med d ((a + ((wq4 a b) * 2)) - 1) (a + ((wq4 a b) * 2)) ((a + ((wq4 a b) * 2)) + 1) ((med d ((a + ((wq4 a b) * 1)) - 1) (a + ((wq4 a b) * 1)) ((a + ((wq4 a b) * 1)) + 1) 0).2)).2) R hd hn (by have := q4k (a := a) (b := b) (by omega) (by omega);have := med_in (d := d) (a := ((a + ((wq4 a b) * 1)) - 1)) (b := (a + ((wq4 a b) * 1))) (c := ((a + ((wq4 a b) * 1)) + 1)) (s := 0) (lo := a) (hi := b) (by omega) (by omega) (by omega);have := med_in (d := d) (a := ((a + ((wq4 a b) * 2)) - 1)) (b := (a + ((wq4 a b) * 2))) (c := ((a + ((wq4 a b) * 2)) + 1)) (s := ((med d ((a + ((wq4 a b) * 1)) - 1) (a + ((wq4 a b) * 1)) ((a + ((wq4 a b) * 1)) + 1) 0).2)) (lo := a) (hi := b) (by omega) (by omega) (by omega);omega)), ⟨(md_ok A0 n cap N a0 T d ((med d ((a + ((wq4 a b) * 1)) - 1) (a + ((wq4 a b) * 1)) ((a + ((wq4 a b) * 1)) + 1) 0).1) ((med d ((a + ((wq4 a b) * 2)) - 1) (a + ((wq4 a b) * 2)) ((a + ((wq4 a b) * 2)) + 1) ((med d ((a + ((wq4 a b) * 1)) - 1) (a + ((wq4 a b) * 1)) ((a + ((wq4 a b) * 1)) + 1) 0).2)).1) ((med d ((a + ((wq4 a b) * 3)) - 1) (a + ((wq4 a b) * 3)) ((a + ((wq4 a b) * 3)) + 1) ((med d ((a + ((wq4 a b) * 2)) - 1) (a + ((wq4 a b) * 2)) ((a + ((wq4 a b) * 2)) + 1) ((med d ((a + ((wq4 a b) * 1)) - 1) (a + ((wq4 a b) * 1)) ((a + ((wq4 a b) * 1)) + 1) 0).2)).2)).1) ((med d ((a + ((wq4 a b) * 3)) - 1) (a + ((wq4 a b) * 3)) ((a + ((wq4 a b) * 3)) + 1) ((med d ((a + ((wq4 a b) * 2)) - 1) (a + ((wq4 a b) * 2)) ((a + ((wq4 a b) * 2)) + 1) ((med d ((a + ((wq4 a b) * 1)) - 1) (a + ((wq4 a b) * 1)) ((a + ((wq4 a b) * 1)) + 1) 0).2)).2)).2) R hd hn (by have := q4k (a := a) (b := b) (by omega) (by omega);have := med_in (d := d) (a := ((a + ((wq4 a b) * 1)) - 1)) (b := (a + ((wq4 a b) * 1))) (c := ((a + ((wq4 a b) * 1)) + 1)) (s := 0) (lo := a) (hi := b) (by omega) (by omega) (by omega);have := med_in (d := d) (a := ((a + ((wq4 a b) * 2)) - 1)) (b := (a + ((wq4 a b) * 2))) (c := ((a + ((wq4 a b) * 2)) + 1)) (s := ((med d ((a + ((wq4 a b) * 1)) - 1) (a + ((wq4 a b) * 1)) ((a + ((wq4 a b) * 1)) + 1) 0).2)) (lo := a) (hi := b) (by omega) (by omega) (by omega);have := med_in (d := d) (a := ((a + ((wq4 a b) * 3)) - 1)) (b := (a + ((wq4 a b) * 3))) (c := ((a + ((wq4 a b) * 3)) + 1)) (s := ((med d ((a + ((wq4 a b) * 2)) - 1) (a + ((wq4 a b) * 2)) ((a + ((wq4 a b) * 2)) + 1) ((med d ((a + ((wq4 a b) * 1)) - 1) (a + ((wq4 a b) * 1)) ((a + ((wq4 a b) * 1)) + 1) 0).2)).2)) (lo := a) (hi := b) (by omega) (by omega) (by omega);omega) (by have := q4k (a := a) (b := b) (by omega) (by omega);have := med_in (d := d) (a := ((a + ((wq4 a b) * 1)) - 1)) (b := (a + ((wq4 a b) * 1))) (c := ((a + ((wq4 a b) * 1)) + 1)) (s := 0) (lo := a) (hi := b) (by omega) (by omega) (by omega);have := med_in (d := d) (a := ((a + ((wq4 a b) * 2)) - 1)) (b := (a + ((wq4 a b) * 2))) (c := ((a + ((wq4 a b) * 2)) + 1)) (s := ((med d ((a + ((wq4 a b) * 1)) - 1) (a + ((wq4 a b) * 1)) ((a + ((wq4 a b) * 1)) + 1) 0).2)) (lo := a) (hi := b) (by omega) (by omega) (by omega);have := med_in (d := d) (a := ((a + ((wq4 a b) * 3)) - 1)) (b := (a + ((wq4 a b) * 3))) (c := ((a + ((wq4 a b) * 3)) + 1)) (s := ((med d ((a + ((wq4 a b) * 2)) - 1) (a + ((wq4 a b) * 2)) ((a + ((wq4 a b) * 2)) + 1) ((med d ((a + ((wq4 a b) * 1)) - 1) (a + ((wq4 a b) * 1)) ((a + ((wq4 a b) * 1)) + 1) 0).2)).2)) (lo := a) (hi := b) (by omega) (by omega) (by omega);omega) (by have := q4k (a := a) (b := b) (by omega) (by omega);have := med_in (d := d) (a := ((a + ((wq4 a b) * 1)) - 1)) (b := (a + ((wq4 a b) * 1))) (c := ((a + ((wq4 a b) * 1)) + 1)) (s := 0) (lo := a) (hi := b) (by omega) (by omega) (by omega);have := med_in (d := d) (a := ((a + ((wq4 a b) * 2)) - 1)) (b := (a + ((wq4 a b) * 2))) (c := ((a + ((wq4 a b) * 2)) + 1)) (s := ((med d ((a + ((wq4 a b) * 1)) - 1) (a + ((wq4 a b) * 1)) ((a + ((wq4 a b) * 1)) + 1) 0).2)) (lo := a) (hi := b) (by omega) (by omega) (by omega);have := med_in (d := d) (a := ((a + ((wq4 a b) * 3)) - 1)) (b := (a + ((wq4 a b) * 3))) (c := ((a + ((wq4 a b) * 3)) + 1)) (s := ((med d ((a + ((wq4 a b) * 2)) - 1) (a + ((wq4 a b) * 2)) ((a + ((wq4 a b) * 2)) + 1) ((med d ((a + ((wq4 a b) * 1)) - 1) (a + ((wq4 a b) * 1)) ((a + ((wq4 a b) * 1)) + 1) 0).2)).2)) (lo := a) (hi := b) (by omega) (by omega) (by omega);omega)), ⟨rfl, ⟨fun h3 => (have := eq_of_beq h3;⟨rfl, ⟨((med d ((med d ((a + ((wq4 a b) * 1)) - 1) (a + ((wq4 a b) * 1)) ((a + ((wq4 a b) * 1)) + 1) 0).1) ((med d ((a + ((wq4 a b) * 2)) - 1) (a + ((wq4 a b) * 2)) ((a + ((wq4 a b) * 2)) + 1) ((med d ((a + ((wq4 a b) * 1)) - 1) (a + ((wq4 a b) * 1)) ((a + ((wq4 a b) * 1)) + 1) 0).2)).1) ((med d ((a + ((wq4 a b) * 3)) - 1) (a + ((wq4 a b) * 3)) ((a + ((wq4 a b) * 3)) + 1) ((med d ((a + ((wq4 a b) * 2)) - 1) (a + ((wq4 a b) * 2)) ((a + ((wq4 a b) * 2)) + 1) ((med d ((a + ((wq4 a b) * 1)) - 1) (a + ((wq4 a b) * 1)) ((a + ((wq4 a b) * 1)) + 1) 0).2)).2)).1) ((med d ((a + ((wq4 a b) * 3)) - 1) (a + ((wq4 a b) * 3)) ((a + ((wq4 a b) * 3)) + 1) ((med d ((a + ((wq4 a b) * 2)) - 1) (a + ((wq4 a b) * 2)) ((a + ((wq4 a b) * 2)) + 1) ((med d ((a + ((wq4 a b) * 1)) - 1) (a + ((wq4 a b) * 1)) ((a + ((wq4 a b) * 1)) + 1) 0).2)).2)).2)).1, 1), (show a ≤ (med d ((med d ((a + ((wq4 a b) * 1)) - 1) (a + ((wq4 a b) * 1)) ((a + ((wq4 a b) * 1)) + 1) 0).1) ((med d ((a + ((wq4 a b) * 2)) - 1) (a + ((wq4 a b) * 2)) ((a + ((wq4 a b) * 2)) + 1) ((med d ((a + ((wq4 a b) * 1)) - 1) (a + ((wq4 a b) * 1)) ((a + ((wq4 a b) * 1)) + 1) 0).2)).1) ((med d ((a + ((wq4 a b) * 3)) - 1) (a + ((wq4 a b) * 3)) ((a + ((wq4 a b) * 3)) + 1) ((med d ((a + ((wq4 a b) * 2)) - 1) (a + ((wq4 a b) * 2)) ((a + ((wq4 a b) * 2)) + 1) ((med d ((a + ((wq4 a b) * 1)) - 1) (a + ((wq4 a b) * 1)) ((a + ((wq4 a b) * 1)) + 1) 0).2)).2)).1) ((med d ((a + ((wq4 a b) * 3)) - 1) (a + ((wq4 a b) * 3)) ((a + ((wq4 a b) * 3)) + 1) ((med d ((a + ((wq4 a b) * 2)) - 1) (a + ((wq4 a b) * 2)) ((a + ((wq4 a b) * 2)) + 1) ((med d ((a + ((wq4 a b) * 1)) - 1) (a + ((wq4 a b) * 1)) ((a + ((wq4 a b) * 1)) + 1) 0).2)).2)).2)).1∧(med d ((med d ((a + ((wq4 a b) * 1)) - 1) (a + ((wq4 a b) * 1)) ((a + ((wq4 a b) * 1)) + 1) 0).1) ((med d ((a + ((wq4 a b) * 2)) - 1) (a + ((wq4 a b) * 2)) ((a + ((wq4 a b) * 2)) + 1) ((med d ((a + ((wq4 a b) * 1)) - 1) (a + ((wq4 a b) * 1)) ((a + ((wq4 a b) * 1)) + 1) 0).2)).1) ((med d ((a + ((wq4 a b) * 3)) - 1) (a + ((wq4 a b) * 3)) ((a + ((wq4 a b) * 3)) + 1) ((med d ((a + ((wq4 a b) * 2)) - 1) (a + ((wq4 a b) * 2)) ((a + ((wq4 a b) * 2)) + 1) ((med d ((a + ((wq4 a b) * 1)) - 1) (a + ((wq4 a b) * 1)) ((a + ((wq4 a b) * 1)) + 1) 0).2)).2)).1) ((med d ((a + ((wq4 a b) * 3)) - 1) (a + ((wq4 a b) * 3)) ((a + ((wq4 a b) * 3)) + 1) ((med d ((a + ((wq4 a b) * 2)) - 1) (a + ((wq4 a b) * 2)) ((a + ((wq4 a b) * 2)) + 1) ((med d ((a + ((wq4 a b) * 1)) - 1) (a + ((wq4 a b) * 1)) ((a + ((wq4 a b) * 1)) + 1) 0).2)).2)).2)).1 < b from (by have := q4k (a := a) (b := b) (by omega) (by omega);have := med_in (d := d) (a := ((a + ((wq4 a b) * 1)) - 1)) (b := (a + ((wq4 a b) * 1))) (c := ((a + ((wq4 a b) * 1)) + 1)) (s := 0) (lo := a) (hi := b) (by omega) (by omega) (by omega);have := med_in (d := d) (a := ((a + ((wq4 a b) * 2)) - 1)) (b := (a + ((wq4 a b) * 2))) (c := ((a + ((wq4 a b) * 2)) + 1)) (s := ((med d ((a + ((wq4 a b) * 1)) - 1) (a + ((wq4 a b) * 1)) ((a + ((wq4 a b) * 1)) + 1) 0).2)) (lo := a) (hi := b) (by omega) (by omega) (by omega);have := med_in (d := d) (a := ((a + ((wq4 a b) * 3)) - 1)) (b := (a + ((wq4 a b) * 3))) (c := ((a + ((wq4 a b) * 3)) + 1)) (s := ((med d ((a + ((wq4 a b) * 2)) - 1) (a + ((wq4 a b) * 2)) ((a + ((wq4 a b) * 2)) + 1) ((med d ((a + ((wq4 a b) * 1)) - 1) (a + ((wq4 a b) * 1)) ((a + ((wq4 a b) * 1)) + 1) 0).2)).2)) (lo := a) (hi := b) (by omega) (by omega) (by omega);have := med_in (d := d) (a := ((med d ((a + ((wq4 a b) * 1)) - 1) (a + ((wq4 a b) * 1)) ((a + ((wq4 a b) * 1)) + 1) 0).1)) (b := ((med d ((a + ((wq4 a b) * 2)) - 1) (a + ((wq4 a b) * 2)) ((a + ((wq4 a b) * 2)) + 1) ((med d ((a + ((wq4 a b) * 1)) - 1) (a + ((wq4 a b) * 1)) ((a + ((wq4 a b) * 1)) + 1) 0).2)).1)) (c := ((med d ((a + ((wq4 a b) * 3)) - 1) (a + ((wq4 a b) * 3)) ((a + ((wq4 a b) * 3)) + 1) ((med d ((a + ((wq4 a b) * 2)) - 1) (a + ((wq4 a b) * 2)) ((a + ((wq4 a b) * 2)) + 1) ((med d ((a + ((wq4 a b) * 1)) - 1) (a + ((wq4 a b) * 1)) ((a + ((wq4 a b) * 1)) + 1) 0).2)).2)).1)) (s := ((med d ((a + ((wq4 a b) * 3)) - 1) (a + ((wq4 a b) * 3)) ((a + ((wq4 a b) * 3)) + 1) ((med d ((a + ((wq4 a b) * 2)) - 1) (a + ((wq4 a b) * 2)) ((a + ((wq4 a b) * 2)) + 1) ((med d ((a + ((wq4 a b) * 1)) - 1) (a + ((wq4 a b) * 1)) ((a + ((wq4 a b) * 1)) + 1) 0).2)).2)).2)) (lo := a) (hi := b) (by omega) (by omega) (by omega);omega))⟩, (by rfl), (by rfl)⟩), fun h3 => (have := ne_of_beq_false h3;⟨fun h4 => (have := eq_of_beq h4;⟨rfl, ⟨((med d ((med d ((a + ((wq4 a b) * 1)) - 1) (a + ((wq4 a b) * 1)) ((a + ((wq4 a b) * 1)) + 1) 0).1) ((med d ((a + ((wq4 a b) * 2)) - 1) (a + ((wq4 a b) * 2)) ((a + ((wq4 a b) * 2)) + 1) ((med d ((a + ((wq4 a b) * 1)) - 1) (a + ((wq4 a b) * 1)) ((a + ((wq4 a b) * 1)) + 1) 0).2)).1) ((med d ((a + ((wq4 a b) * 3)) - 1) (a + ((wq4 a b) * 3)) ((a + ((wq4 a b) * 3)) + 1) ((med d ((a + ((wq4 a b) * 2)) - 1) (a + ((wq4 a b) * 2)) ((a + ((wq4 a b) * 2)) + 1) ((med d ((a + ((wq4 a b) * 1)) - 1) (a + ((wq4 a b) * 1)) ((a + ((wq4 a b) * 1)) + 1) 0).2)).2)).1) ((med d ((a + ((wq4 a b) * 3)) - 1) (a + ((wq4 a b) * 3)) ((a + ((wq4 a b) * 3)) + 1) ((med d ((a + ((wq4 a b) * 2)) - 1) (a + ((wq4 a b) * 2)) ((a + ((wq4 a b) * 2)) + 1) ((med d ((a + ((wq4 a b) * 1)) - 1) (a + ((wq4 a b) * 1)) ((a + ((wq4 a b) * 1)) + 1) 0).2)).2)).2)).1, 2), (show a ≤ (med d ((med d ((a + ((wq4 a b) * 1)) - 1) (a + ((wq4 a b) * 1)) ((a + ((wq4 a b) * 1)) + 1) 0).1) ((med d ((a + ((wq4 a b) * 2)) - 1) (a + ((wq4 a b) * 2)) ((a + ((wq4 a b) * 2)) + 1) ((med d ((a + ((wq4 a b) * 1)) - 1) (a + ((wq4 a b) * 1)) ((a + ((wq4 a b) * 1)) + 1) 0).2)).1) ((med d ((a + ((wq4 a b) * 3)) - 1) (a + ((wq4 a b) * 3)) ((a + ((wq4 a b) * 3)) + 1) ((med d ((a + ((wq4 a b) * 2)) - 1) (a + ((wq4 a b) * 2)) ((a + ((wq4 a b) * 2)) + 1) ((med d ((a + ((wq4 a b) * 1)) - 1) (a + ((wq4 a b) * 1)) ((a + ((wq4 a b) * 1)) + 1) 0).2)).2)).1) ((med d ((a + ((wq4 a b) * 3)) - 1) (a + ((wq4 a b) * 3)) ((a + ((wq4 a b) * 3)) + 1) ((med d ((a + ((wq4 a b) * 2)) - 1) (a + ((wq4 a b) * 2)) ((a + ((wq4 a b) * 2)) + 1) ((med d ((a + ((wq4 a b) * 1)) - 1) (a + ((wq4 a b) * 1)) ((a + ((wq4 a b) * 1)) + 1) 0).2)).2)).2)).1∧(med d ((med d ((a + ((wq4 a b) * 1)) - 1) (a + ((wq4 a b) * 1)) ((a + ((wq4 a b) * 1)) + 1) 0).1) ((med d ((a + ((wq4 a b) * 2)) - 1) (a + ((wq4 a b) * 2)) ((a + ((wq4 a b) * 2)) + 1) ((med d ((a + ((wq4 a b) * 1)) - 1) (a + ((wq4 a b) * 1)) ((a + ((wq4 a b) * 1)) + 1) 0).2)).1) ((med d ((a + ((wq4 a b) * 3)) - 1) (a + ((wq4 a b) * 3)) ((a + ((wq4 a b) * 3)) + 1) ((med d ((a + ((wq4 a b) * 2)) - 1) (a + ((wq4 a b) * 2)) ((a + ((wq4 a b) * 2)) + 1) ((med d ((a + ((wq4 a b) * 1)) - 1) (a + ((wq4 a b) * 1)) ((a + ((wq4 a b) * 1)) + 1) 0).2)).2)).1) ((med d ((a + ((wq4 a b) * 3)) - 1) (a + ((wq4 a b) * 3)) ((a + ((wq4 a b) * 3)) + 1) ((med d ((a + ((wq4 a b) * 2)) - 1) (a + ((wq4 a b) * 2)) ((a + ((wq4 a b) * 2)) + 1) ((med d ((a + ((wq4 a b) * 1)) - 1) (a + ((wq4 a b) * 1)) ((a + ((wq4 a b) * 1)) + 1) 0).2)).2)).2)).1 < b from (by have := q4k (a := a) (b := b) (by omega) (by omega);have := med_in (d := d) (a := ((a + ((wq4 a b) * 1)) - 1)) (b := (a + ((wq4 a b) * 1))) (c := ((a + ((wq4 a b) * 1)) + 1)) (s := 0) (lo := a) (hi := b) (by omega) (by omega) (by omega);have := med_in (d := d) (a := ((a + ((wq4 a b) * 2)) - 1)) (b := (a + ((wq4 a b) * 2))) (c := ((a + ((wq4 a b) * 2)) + 1)) (s := ((med d ((a + ((wq4 a b) * 1)) - 1) (a + ((wq4 a b) * 1)) ((a + ((wq4 a b) * 1)) + 1) 0).2)) (lo := a) (hi := b) (by omega) (by omega) (by omega);have := med_in (d := d) (a := ((a + ((wq4 a b) * 3)) - 1)) (b := (a + ((wq4 a b) * 3))) (c := ((a + ((wq4 a b) * 3)) + 1)) (s := ((med d ((a + ((wq4 a b) * 2)) - 1) (a + ((wq4 a b) * 2)) ((a + ((wq4 a b) * 2)) + 1) ((med d ((a + ((wq4 a b) * 1)) - 1) (a + ((wq4 a b) * 1)) ((a + ((wq4 a b) * 1)) + 1) 0).2)).2)) (lo := a) (hi := b) (by omega) (by omega) (by omega);have := med_in (d := d) (a := ((med d ((a + ((wq4 a b) * 1)) - 1) (a + ((wq4 a b) * 1)) ((a + ((wq4 a b) * 1)) + 1) 0).1)) (b := ((med d ((a + ((wq4 a b) * 2)) - 1) (a + ((wq4 a b) * 2)) ((a + ((wq4 a b) * 2)) + 1) ((med d ((a + ((wq4 a b) * 1)) - 1) (a + ((wq4 a b) * 1)) ((a + ((wq4 a b) * 1)) + 1) 0).2)).1)) (c := ((med d ((a + ((wq4 a b) * 3)) - 1) (a + ((wq4 a b) * 3)) ((a + ((wq4 a b) * 3)) + 1) ((med d ((a + ((wq4 a b) * 2)) - 1) (a + ((wq4 a b) * 2)) ((a + ((wq4 a b) * 2)) + 1) ((med d ((a + ((wq4 a b) * 1)) - 1) (a + ((wq4 a b) * 1)) ((a + ((wq4 a b) * 1)) + 1) 0).2)).2)).1)) (s := ((med d ((a + ((wq4 a b) * 3)) - 1) (a + ((wq4 a b) * 3)) ((a + ((wq4 a b) * 3)) + 1) ((med d ((a + ((wq4 a b) * 2)) - 1) (a + ((wq4 a b) * 2)) ((a + ((wq4 a b) * 2)) + 1) ((med d ((a + ((wq4 a b) * 1)) - 1) (a + ((wq4 a b) * 1)) ((a + ((wq4 a b) * 1)) + 1) 0).2)).2)).2)) (lo := a) (hi := b) (by omega) (by omega) (by omega);omega))⟩, (by rfl), (by rfl)⟩), fun h4 => (have := ne_of_beq_false h4;⟨rfl, ⟨((med d ((med d ((a + ((wq4 a b) * 1)) - 1) (a + ((wq4 a b) * 1)) ((a + ((wq4 a b) * 1)) + 1) 0).1) ((med d ((a + ((wq4 a b) * 2)) - 1) (a + ((wq4 a b) * 2)) ((a + ((wq4 a b) * 2)) + 1) ((med d ((a + ((wq4 a b) * 1)) - 1) (a + ((wq4 a b) * 1)) ((a + ((wq4 a b) * 1)) + 1) 0).2)).1) ((med d ((a + ((wq4 a b) * 3)) - 1) (a + ((wq4 a b) * 3)) ((a + ((wq4 a b) * 3)) + 1) ((med d ((a + ((wq4 a b) * 2)) - 1) (a + ((wq4 a b) * 2)) ((a + ((wq4 a b) * 2)) + 1) ((med d ((a + ((wq4 a b) * 1)) - 1) (a + ((wq4 a b) * 1)) ((a + ((wq4 a b) * 1)) + 1) 0).2)).2)).1) ((med d ((a + ((wq4 a b) * 3)) - 1) (a + ((wq4 a b) * 3)) ((a + ((wq4 a b) * 3)) + 1) ((med d ((a + ((wq4 a b) * 2)) - 1) (a + ((wq4 a b) * 2)) ((a + ((wq4 a b) * 2)) + 1) ((med d ((a + ((wq4 a b) * 1)) - 1) (a + ((wq4 a b) * 1)) ((a + ((wq4 a b) * 1)) + 1) 0).2)).2)).2)).1, 0), (show a ≤ (med d ((med d ((a + ((wq4 a b) * 1)) - 1) (a + ((wq4 a b) * 1)) ((a + ((wq4 a b) * 1)) + 1) 0).1) ((med d ((a + ((wq4 a b) * 2)) - 1) (a + ((wq4 a b) * 2)) ((a + ((wq4 a b) * 2)) + 1) ((med d ((a + ((wq4 a b) * 1)) - 1) (a + ((wq4 a b) * 1)) ((a + ((wq4 a b) * 1)) + 1) 0).2)).1) ((med d ((a + ((wq4 a b) * 3)) - 1) (a + ((wq4 a b) * 3)) ((a + ((wq4 a b) * 3)) + 1) ((med d ((a + ((wq4 a b) * 2)) - 1) (a + ((wq4 a b) * 2)) ((a + ((wq4 a b) * 2)) + 1) ((med d ((a + ((wq4 a b) * 1)) - 1) (a + ((wq4 a b) * 1)) ((a + ((wq4 a b) * 1)) + 1) 0).2)).2)).1) ((med d ((a + ((wq4 a b) * 3)) - 1) (a + ((wq4 a b) * 3)) ((a + ((wq4 a b) * 3)) + 1) ((med d ((a + ((wq4 a b) * 2)) - 1) (a + ((wq4 a b) * 2)) ((a + ((wq4 a b) * 2)) + 1) ((med d ((a + ((wq4 a b) * 1)) - 1) (a + ((wq4 a b) * 1)) ((a + ((wq4 a b) * 1)) + 1) 0).2)).2)).2)).1∧(med d ((med d ((a + ((wq4 a b) * 1)) - 1) (a + ((wq4 a b) * 1)) ((a + ((wq4 a b) * 1)) + 1) 0).1) ((med d ((a + ((wq4 a b) * 2)) - 1) (a + ((wq4 a b) * 2)) ((a + ((wq4 a b) * 2)) + 1) ((med d ((a + ((wq4 a b) * 1)) - 1) (a + ((wq4 a b) * 1)) ((a + ((wq4 a b) * 1)) + 1) 0).2)).1) ((med d ((a + ((wq4 a b) * 3)) - 1) (a + ((wq4 a b) * 3)) ((a + ((wq4 a b) * 3)) + 1) ((med d ((a + ((wq4 a b) * 2)) - 1) (a + ((wq4 a b) * 2)) ((a + ((wq4 a b) * 2)) + 1) ((med d ((a + ((wq4 a b) * 1)) - 1) (a + ((wq4 a b) * 1)) ((a + ((wq4 a b) * 1)) + 1) 0).2)).2)).1) ((med d ((a + ((wq4 a b) * 3)) - 1) (a + ((wq4 a b) * 3)) ((a + ((wq4 a b) * 3)) + 1) ((med d ((a + ((wq4 a b) * 2)) - 1) (a + ((wq4 a b) * 2)) ((a + ((wq4 a b) * 2)) + 1) ((med d ((a + ((wq4 a b) * 1)) - 1) (a + ((wq4 a b) * 1)) ((a + ((wq4 a b) * 1)) + 1) 0).2)).2)).2)).1 < b from (by have := q4k (a := a) (b := b) (by omega) (by omega);have := med_in (d := d) (a := ((a + ((wq4 a b) * 1)) - 1)) (b := (a + ((wq4 a b) * 1))) (c := ((a + ((wq4 a b) * 1)) + 1)) (s := 0) (lo := a) (hi := b) (by omega) (by omega) (by omega);have := med_in (d := d) (a := ((a + ((wq4 a b) * 2)) - 1)) (b := (a + ((wq4 a b) * 2))) (c := ((a + ((wq4 a b) * 2)) + 1)) (s := ((med d ((a + ((wq4 a b) * 1)) - 1) (a + ((wq4 a b) * 1)) ((a + ((wq4 a b) * 1)) + 1) 0).2)) (lo := a) (hi := b) (by omega) (by omega) (by omega);have := med_in (d := d) (a := ((a + ((wq4 a b) * 3)) - 1)) (b := (a + ((wq4 a b) * 3))) (c := ((a + ((wq4 a b) * 3)) + 1)) (s := ((med d ((a + ((wq4 a b) * 2)) - 1) (a + ((wq4 a b) * 2)) ((a + ((wq4 a b) * 2)) + 1) ((med d ((a + ((wq4 a b) * 1)) - 1) (a + ((wq4 a b) * 1)) ((a + ((wq4 a b) * 1)) + 1) 0).2)).2)) (lo := a) (hi := b) (by omega) (by omega) (by omega);have := med_in (d := d) (a := ((med d ((a + ((wq4 a b) * 1)) - 1) (a + ((wq4 a b) * 1)) ((a + ((wq4 a b) * 1)) + 1) 0).1)) (b := ((med d ((a + ((wq4 a b) * 2)) - 1) (a + ((wq4 a b) * 2)) ((a + ((wq4 a b) * 2)) + 1) ((med d ((a + ((wq4 a b) * 1)) - 1) (a + ((wq4 a b) * 1)) ((a + ((wq4 a b) * 1)) + 1) 0).2)).1)) (c := ((med d ((a + ((wq4 a b) * 3)) - 1) (a + ((wq4 a b) * 3)) ((a + ((wq4 a b) * 3)) + 1) ((med d ((a + ((wq4 a b) * 2)) - 1) (a + ((wq4 a b) * 2)) ((a + ((wq4 a b) * 2)) + 1) ((med d ((a + ((wq4 a b) * 1)) - 1) (a + ((wq4 a b) * 1)) ((a + ((wq4 a b) * 1)) + 1) 0).2)).2)).1)) (s := ((med d ((a + ((wq4 a b) * 3)) - 1) (a + ((wq4 a b) * 3)) ((a + ((wq4 a b) * 3)) + 1) ((med d ((a + ((wq4 a b) * 2)) - 1) (a + ((wq4 a b) * 2)) ((a + ((wq4 a b) * 2)) + 1) ((med d ((a + ((wq4 a b) * 1)) - 1) (a + ((wq4 a b) * 1)) ((a + ((wq4 a b) * 1)) + 1) 0).2)).2)).2)) (lo := a) (hi := b) (by omega) (by omega) (by omega);omega))⟩, (by rfl), (by rfl)⟩)⟩)⟩⟩⟩⟩⟩⟩), fun h2 => (have := of_decide_eq_false h2;⟨(md_ok A0 n cap N a0 T d (a + ((wq4 a b) * 1)) (a + ((wq4 a b) * 2)) (a + ((wq4 a b) * 3)) 0 R hd hn (by have := q4k (a := a) (b := b) (by omega) (by omega);omega) (by have := q4k (a := a) (b := b) (by omega) (by omega);omega) (by have := q4k (a := a) (b := b) (by omega) (by omega);omega)), ⟨rfl, ⟨fun h3 => (have := eq_of_beq h3;⟨rfl, ⟨((med d (a + ((wq4 a b) * 1)) (a + ((wq4 a b) * 2)) (a + ((wq4 a b) * 3)) 0).1, 1), (show a ≤ (med d (a + ((wq4 a b) * 1)) (a + ((wq4 a b) * 2)) (a + ((wq4 a b) * 3)) 0).1∧(med d (a + ((wq4 a b) * 1)) (a + ((wq4 a b) * 2)) (a + ((wq4 a b) * 3)) 0).1 < b from (by have := q4k (a := a) (b := b) (by omega) (by omega);have := med_in (d := d) (a := (a + ((wq4 a b) * 1))) (b := (a + ((wq4 a b) * 2))) (c := (a + ((wq4 a b) * 3))) (s := 0) (lo := a) (hi := b) (by omega) (by omega) (by omega);omega))⟩, (by rfl), (by rfl)⟩), fun h3 => (have := ne_of_beq_false h3;⟨fun h4 => (have := eq_of_beq h4;⟨rfl, ⟨((med d (a + ((wq4 a b) * 1)) (a + ((wq4 a b) * 2)) (a + ((wq4 a b) * 3)) 0).1, 2), (show a ≤ (med d (a + ((wq4 a b) * 1)) (a + ((wq4 a b) * 2)) (a + ((wq4 a b) * 3)) 0).1∧(med d (a + ((wq4 a b) * 1)) (a + ((wq4 a b) * 2)) (a + ((wq4 a b) * 3)) 0).1 < b from (by have := q4k (a := a) (b := b) (by omega) (by omega);have := med_in (d := d) (a := (a + ((wq4 a b) * 1))) (b := (a + ((wq4 a b) * 2))) (c := (a + ((wq4 a b) * 3))) (s := 0) (lo := a) (hi := b) (by omega) (by omega) (by omega);omega))⟩, (by rfl), (by rfl)⟩), fun h4 => (have := ne_of_beq_false h4;⟨rfl, ⟨((med d (a + ((wq4 a b) * 1)) (a + ((wq4 a b) * 2)) (a + ((wq4 a b) * 3)) 0).1, 0), (show a ≤ (med d (a + ((wq4 a b) * 1)) (a + ((wq4 a b) * 2)) (a + ((wq4 a b) * 3)) 0).1∧(med d (a + ((wq4 a b) * 1)) (a + ((wq4 a b) * 2)) (a + ((wq4 a b) * 3)) 0).1 < b from (by have := q4k (a := a) (b := b) (by omega) (by omega);have := med_in (d := d) (a := (a + ((wq4 a b) * 1))) (b := (a + ((wq4 a b) * 2))) (c := (a + ((wq4 a b) * 3))) (s := 0) (lo := a) (hi := b) (by omega) (by omega) (by omega);omega))⟩, (by rfl), (by rfl)⟩)⟩)⟩⟩⟩)⟩), fun h1 => (have := of_decide_eq_false h1;⟨rfl, ⟨rfl, ⟨(a + ((wq4 a b) * 2), 1), (show a ≤ a + ((wq4 a b) * 2)∧a + ((wq4 a b) * 2) < b from (by have := q4k (a := a) (b := b) (by omega) (by omega);omega))⟩, (by rfl), (by rfl)⟩⟩)⟩⟩⟩⟩⟩⟩⟩⟩)
theorem modl {x : Int} (h : 1 ≤ x) (h2 : x ≤ 1152921504606846976) : 1 ≤ sHl .u64 1 ((Sort.bitsLen (IntKind.u64.wrap x).toNat : Nat) : Int)∧sHl .u64 1 ((Sort.bitsLen (IntKind.u64.wrap x).toNat : Nat) : Int) ≤ 2 * x∧IntKind.u64.wrap (sHl .u64 1 ((Sort.bitsLen (IntKind.u64.wrap x).toNat : Nat) : Int) - 1) = sHl .u64 1 ((Sort.bitsLen (IntKind.u64.wrap x).toNat : Nat) : Int) - 1 := by
  have hw : ∀ z : Int, IntKind.u64.wrap z = z % 18446744073709551616 := fun z => rfl
  have e0 : IntKind.u64.wrap x = x := by rw [hw];omega
  rw [e0]
  have h3 := Sort.two_pow_bitsLen_le (n := Int.toNat x) (by omega)
  have h4 : Sort.bitsLen x.toNat ≤ 61 := (Sort.bitsLen_le_iff _ _).2 (by omega)
  have h5 : 0 < 2 ^ Sort.bitsLen x.toNat := Nat.two_pow_pos _
  have e1 : sHl .u64 1 ((Sort.bitsLen x.toNat : Nat) : Int) = ((2 ^ Sort.bitsLen x.toNat : Nat) : Int) := by
    unfold sHl
    have e : min ((Sort.bitsLen x.toNat : Nat) : Int).toNat IntKind.u64.bits = Sort.bitsLen x.toNat := by have : IntKind.u64.bits = 64 := rfl;omega
    rw [e, hw, Int.one_mul]
    have : ((2 : Int) ^ Sort.bitsLen x.toNat) = ((2 ^ Sort.bitsLen x.toNat : Nat) : Int) := by push_cast;rfl
    rw [this];omega
  rw [e1, hw]
  omega
section
open Go.Sort
variable {E E3 : Array Int} {a b pv : Nat} {G : Array Int → Prop}
theorem gives_nm {P : Program} {f : FuncId} {args : List Value} {R : RO} {H : Hp} {X : Type} {t : X} {v : X → Value} {h : X → Hp} (q : Gives P f args R H (.ret (v t)) (h t)) : GivesX P f args R H {y : X // y = t} (fun y => (v y.1, h y.1)) :=
  Does.mono q (by rintro o G B hle ⟨h1, h2, h3⟩;exact ⟨h1, ⟨t, rfl⟩, h2, h3⟩)
theorem pdq_eq (hP : PermIn a b E E3) (hB : Below ltInt a b E) (hb : b ≤ E.size) (ha0 : 0 < a) (hp : a ≤ pv) (hp2 : pv < b) (hnl : decide (E3[a - 1]! < E3[pv]!) = false) (hG : ∀ F, PermIn a b E F → SortedIn ltInt a b F → G F) {w : Nat×Array Int} (e : w = partitionEqual ltInt E3 a b pv) :
    a < w.1∧w.1 ≤ b∧w.2.size = E.size∧Below ltInt w.1 b w.2 ∧
    ∀ F, PermIn w.1 b w.2 F → SortedIn ltInt w.1 b F → G F := by
  subst e
  have hb3 : b ≤ E3.size := by rw [hP.1];exact hb
  obtain ⟨h1, h2, h3, h4, h5⟩ := round_eq swo_ltInt (partitionEqual_holds (lt := ltInt)) ha0 hp hp2 hb3 (hB.perm hb hP) hnl (mid := (partitionEqual ltInt E3 a b pv).1) (d4 := (partitionEqual ltInt E3 a b pv).2) rfl
  exact ⟨h1, h2, h3.trans hP.1, h4, fun F hF hS => hG F (permIn_trans _ _ _ _ _ hP (h5 F hF hS).1) (h5 F hF hS).2⟩
theorem pdq_part (hP : PermIn a b E E3) (hB : Below ltInt a b E) (hb : b ≤ E.size) (hp : a ≤ pv) (hp2 : pv < b) (hG : ∀ F, PermIn a b E F → SortedIn ltInt a b F → G F) {w : Nat×Bool×Array Int} (e : w = partition ltInt E3 a b pv) :
    a ≤ w.1∧w.1 < b∧w.2.2.size = E.size∧Below ltInt a w.1 w.2.2∧Below ltInt (w.1 + 1) b w.2.2 ∧
    (∀ L, PermIn a w.1 w.2.2 L → SortedIn ltInt a w.1 L → Below ltInt (w.1 + 1) b L∧∀ F, PermIn (w.1 + 1) b L F → SortedIn ltInt (w.1 + 1) b F → G F) ∧
    (∀ L, PermIn (w.1 + 1) b w.2.2 L → SortedIn ltInt (w.1 + 1) b L → Below ltInt a w.1 L∧∀ F, PermIn a w.1 L F → SortedIn ltInt a w.1 F → G F) := by
  subst e
  have hb3 : b ≤ E3.size := by rw [hP.1];exact hb
  obtain ⟨h1, h2, h3, h4, h5, h6, h7⟩ := round_part swo_ltInt (partition_holds (lt := ltInt)) hp hp2 hb3 (hB.perm hb hP) (mid := (partition ltInt E3 a b pv).1) (ap := (partition ltInt E3 a b pv).2.1) (d4 := (partition ltInt E3 a b pv).2.2) rfl
  exact ⟨h1, h2, h3.trans hP.1, h4, h5, fun L hL hS => ⟨(h6 L hL hS).1, fun F hF hS2 => hG F (permIn_trans _ _ _ _ _ hP ((h6 L hL hS).2 F hF hS2).1) ((h6 L hL hS).2 F hF hS2).2⟩,
    fun L hL hS => ⟨(h7 L hL hS).1, fun F hF hS2 => hG F (permIn_trans _ _ _ _ _ hP ((h7 L hL hS).2 F hF hS2).1) ((h7 L hL hS).2 F hF hS2).2⟩⟩
theorem pdq_ins (hb : b ≤ E.size) (hab : a ≤ b) (hG : ∀ F, PermIn a b E F → SortedIn ltInt a b F → G F) : G (insertionSort ltInt E a b) :=
  hG _ (insertionSort_holds (lt := ltInt) swo_ltInt E a b hab hb).1 (insertionSort_holds (lt := ltInt) swo_ltInt E a b hab hb).2
theorem pdq_heap (hb : b ≤ E.size) (hab : a ≤ b) (hG : ∀ F, PermIn a b E F → SortedIn ltInt a b F → G F) : G (heapSort ltInt E a b) :=
  hG _ (heapSort_holds (lt := ltInt) swo_ltInt E a b hab hb).1 (heapSort_holds (lt := ltInt) swo_ltInt E a b hab hb).2
theorem pdq_pi (hP : PermIn a b E E3) (hB : Below ltInt a b E) (hb : b ≤ E.size) (hab : a < b)  (hG : ∀ F, PermIn a b E F → SortedIn ltInt a b F → G F) {w : Array Int×Bool} (e : w = partialInsertionSort ltInt E3 a b) (ht : w.2 = true) : G w.1 := by
  subst e
  have hb3 : b ≤ E3.size := by rw [hP.1];exact hb
  have h := partialInsertionSort_holds (lt := ltInt) swo_ltInt E3 a b hab hb3 (hB.perm hb hP)
  exact hG _ (permIn_trans _ _ _ _ _ hP h.1) (h.2 ht)
theorem pdq_pif (hP : PermIn a b E E3) (hB : Below ltInt a b E) (hb : b ≤ E.size) (hab : a < b) {w : Array Int×Bool} (e : w = partialInsertionSort ltInt E3 a b) : PermIn a b E w.1 := by
  subst e
  have hb3 : b ≤ E3.size := by rw [hP.1];exact hb
  exact permIn_trans _ _ _ _ _ hP (partialInsertionSort_holds (lt := ltInt) swo_ltInt E3 a b hab hb3 (hB.perm hb hP)).1
theorem pdq_rev (hP : PermIn a b E E3) (hb : b ≤ E.size) (hab : a ≤ b) : PermIn a b E (reverseRange E3 a b) :=
  permIn_trans _ _ _ _ _ hP (reverseRange_holds E3 a b hab (by rw [hP.1];exact hb))
end
noncomputable def bp_ok_L5_inv (A0 n cap N : Nat) (T : List Value) (d : Array Int) (a b : Int) (a1 : Nat)  : Int×Int×(Array Int)×NV → St := fun zx => ⟨(slA A0 n cap::vi a::vi b::undef::undef::undef::vi (b - a)::ptA a1::.int .u64 (sHl .u64 1 ((Sort.bitsLen (IntKind.u64.wrap (b - a)).toNat : Nat) : Int))::vi zx.1::(zx.2.2.2 10)::vi b::vi a::vi (b - a)::vi (b - a)::.bool true::vi (b - a)::.int .u64 (IntKind.u64.wrap (b - a))::vi (b - a)::.int .u64 (sHl .u64 1 ((Sort.bitsLen (IntKind.u64.wrap (b - a)).toNat : Nat) : Int))::vi a::vi (b - a)::vi (wq4 a b)::vi ((wq4 a b) * 2)::vi (a + ((wq4 a b) * 2))::vi ((a + ((wq4 a b) * 2)) - 1)::urun zx.2.2.2 26 39 []), [], [some (A0, .row (u32l zx.2.2.1 ++ T) 23 N), some (a1, .row [.int .u64 zx.2.1] 128 1)]⟩
def bp_ok_L5_I (A0 n cap N : Nat) (T : List Value) (d : Array Int) (a b : Int) (a1 : Nat)  (R : RO) : Int×Int×(Array Int)×NV → RO → Prop := fun zx G => G = R∧(zx.2.2.1.size = n∧a + wq4 a b * 2 - 1 ≤ zx.1∧zx.1 ≤ a + wq4 a b * 2 + 2∧Sort.PermIn a.toNat b.toNat d zx.2.2.1)
def bp_ok_L5_mu (A0 n cap N : Nat) (T : List Value) (d : Array Int) (a b : Int) (a1 : Nat)  : Int×Int×(Array Int)×NV → Nat := fun zx => Int.toNat (a + wq4 a b * 2 + 2 - zx.1)
noncomputable def bp_ok_L5_K (A0 n cap N : Nat) (T : List Value) (d : Array Int) (a b : Int) (a1 : Nat)  (R : RO) : Exit' → St → RO → Prop := altPost R (.alt (Int×Int×(Array Int)×NV) (fun zx => zx.2.2.1.size = n∧Sort.PermIn a.toNat b.toNat d zx.2.2.1) (fun zx => (.exit 0, ((bp_ok_L5_inv A0 n cap N T d a b a1 zx).up [] [some (A0, .row (u32l zx.2.2.1 ++ T) 23 N), some (a1, .row [.int .u64 zx.2.1] 128 1)]))) (fun _ => .altn) .altn)
theorem bp_ok_L5_body (A0 n cap N : Nat) (T : List Value) (d : Array Int) (a b : Int) (a1 : Nat)  (R : RO) (hd : d.size = n) (hn : n ≤ 1152921504606846976) (ha : 0 ≤ a) (hab : a < b) (hb : b ≤ (n : Int)) (h8 : b - a ≥ 8) (ix : Int) (r : Int) (E : Array Int) (u2 : Nat → Value) (hI : E.size = n∧a + wq4 a b * 2 - 1 ≤ ix∧ix ≤ a + wq4 a b * 2 + 2∧Sort.PermIn a.toNat b.toNat d E) : CT Tryd.prog (sub (bodyOf Tryd.f75) [1, 1, 0, 1, 1, 1, 0, 0]) (bp_ok_L5_inv A0 n cap N T d a b a1 (ix, r, E, u2)) R (LK (bp_ok_L5_inv A0 n cap N T d a b a1) (bp_ok_L5_I A0 n cap N T d a b a1 R) (bp_ok_L5_mu A0 n cap N T d a b a1) (bp_ok_L5_K A0 n cap N T d a b a1 R) (ix, r, E, u2)) :=
  CT.of_wp_eq (VC := (let z7 := (bp_ok_L5_mu A0 n cap N T d a b a1);let z6 := (bp_ok_L5_K A0 n cap N T d a b a1 R);let z5 := (bp_ok_L5_I A0 n cap N T d a b a1 R);let z4 := (bp_ok_L5_inv A0 n cap N T d a b a1);let z3 : Option Addr := (some ⟨A0, 0 + Int.toNat ix * 1, none⟩);let z2 := (sHl .u64 1 ((Sort.bitsLen (IntKind.u64.wrap (b - a)).toNat : Nat) : Int));let z1 := (wq4 a b);(NW .i64 (z1 * 2))∧(NW .i64 (a + (z1 * 2)))∧(NW .i64 ((a + (z1 * 2)) + 1))∧((decide (ix ≤ ((a + (z1 * 2)) + 1))) = true → (GivesX Tryd.prog 85 [ptA a1] R [some (a1, .row [.int .u64 r] 128 1)] (Int) (fun w54 => (.int .u64 w54, [some (a1, .row [.int .u64 w54] 128 1)])))∧∀ w54 : Int, let z0 := (bAnd .u64 w54 (IntKind.u64.wrap (z2 - 1)));(IntKind.i64.wrap z0 = z0)∧((decide (z0 ≥ (b - a))) = true → (NW .i64 (z0 - (b - a)))∧(NW .i64 (a + (z0 - (b - a))))∧(NW .i64 (a + (z0 - (b - a))))∧(IB (a + (z0 - (b - a))) (n : Nat))∧(RDu A0 E T (a + (z0 - (b - a))))∧(IB ix (n : Nat))∧(RDu A0 E T ix)∧(IB ix (n : Nat))∧(WRu A0 E T ix (E[Int.toNat (a + (z0 - (b - a)))]!))∧(IB (a + (z0 - (b - a))) (n : Nat))∧(WRs A0 E T ix (a + (z0 - (b - a))))∧(NW .i64 (ix + 1))∧LK z4 z5 z7 z6 (ix, r, E, u2) .normal ⟨[slA A0 n cap, vi a, vi b, undef, undef, undef, vi (b - a), ptA a1, .int .u64 z2, vi (ix + 1), vi (z0 - (b - a)), vi b, vi a, vi (b - a), vi (b - a), .bool true, vi (b - a), .int .u64 (IntKind.u64.wrap (b - a)), vi (b - a), .int .u64 z2, vi a, vi (b - a), vi z1, vi (z1 * 2), vi (a + (z1 * 2)), vi ((a + (z1 * 2)) - 1), vi ix, vi a, vi (b - a), vi z1, vi (z1 * 2), vi (a + (z1 * 2)), vi ((a + (z1 * 2)) + 1), .bool true, vi ix, vi (ix + 1), .int .u64 w54, .int .u64 z2, .int .u64 (IntKind.u64.wrap (z2 - 1)), .int .u64 z0, vi z0, vi z0, vi (b - a), .bool true, vi z0, vi (b - a), vi (z0 - (b - a)), slA A0 n cap, vi ix, slA A0 n cap, vi a, vi (z0 - (b - a)), vi (a + (z0 - (b - a))), slA A0 n cap, vi a, vi (z0 - (b - a)), vi (a + (z0 - (b - a))), (ptO A0 (0 + Int.toNat (a + (z0 - (b - a))) * 1)), vu (E[Int.toNat (a + (z0 - (b - a)))]!), slA A0 n cap, vi ix, .pointer z3, vu (E[Int.toNat ix]!), .pointer z3, (ptO A0 (0 + Int.toNat (a + (z0 - (b - a))) * 1))], [], [some (A0, .row (u32l (Sort.swp E ix.toNat (a + (z0 - (b - a))).toNat) ++ T) 23 N), some (a1, .row [.int .u64 w54] 128 1)]⟩ R)∧((decide (z0 ≥ (b - a))) = false → (NW .i64 (a + z0))∧(NW .i64 (a + z0))∧(IB (a + z0) (n : Nat))∧(RDu A0 E T (a + z0))∧(IB ix (n : Nat))∧(RDu A0 E T ix)∧(IB ix (n : Nat))∧(WRu A0 E T ix (E[Int.toNat (a + z0)]!))∧(IB (a + z0) (n : Nat))∧(WRs A0 E T ix (a + z0))∧(NW .i64 (ix + 1))∧LK z4 z5 z7 z6 (ix, r, E, u2) .normal ⟨(slA A0 n cap::vi a::vi b::undef::undef::undef::vi (b - a)::ptA a1::.int .u64 z2::vi (ix + 1)::vi z0::vi b::vi a::vi (b - a)::vi (b - a)::.bool true::vi (b - a)::.int .u64 (IntKind.u64.wrap (b - a))::vi (b - a)::.int .u64 z2::vi a::vi (b - a)::vi z1::vi (z1 * 2)::vi (a + (z1 * 2))::vi ((a + (z1 * 2)) - 1)::vi ix::vi a::vi (b - a)::vi z1::vi (z1 * 2)::vi (a + (z1 * 2))::vi ((a + (z1 * 2)) + 1)::.bool true::vi ix::vi (ix + 1)::.int .u64 w54::.int .u64 z2::.int .u64 (IntKind.u64.wrap (z2 - 1))::.int .u64 z0::vi z0::vi z0::vi (b - a)::.bool false::urun u2 44 3 (slA A0 n cap::vi ix::slA A0 n cap::vi a::vi z0::vi (a + z0)::slA A0 n cap::vi a::vi z0::vi (a + z0)::(ptO A0 (0 + Int.toNat (a + z0) * 1))::vu (E[Int.toNat (a + z0)]!)::slA A0 n cap::vi ix::.pointer z3::vu (E[Int.toNat ix]!)::.pointer z3::(ptO A0 (0 + Int.toNat (a + z0) * 1))::[])), [], [some (A0, .row (u32l (Sort.swp E ix.toNat (a + z0).toNat) ++ T) 23 N), some (a1, .row [.int .u64 w54] 128 1)]⟩ R))∧((decide (ix ≤ ((a + (z1 * 2)) + 1))) = false → LK z4 z5 z7 z6 (ix, r, E, u2) (.exit 0) ((bp_ok_L5_inv A0 n cap N T d a b a1 (ix, r, E, u2)).up [(26, vi ix), (27, vi a), (28, vi (b - a)), (29, vi z1), (30, vi (z1 * 2)), (31, vi (a + (z1 * 2))), (32, vi ((a + (z1 * 2)) + 1)), (33, .bool false)] [some (A0, .row (u32l E ++ T) 23 N), some (a1, .row [.int .u64 r] 128 1)]) R))) (ops [.d, .d, .d, .d, .nw, .nw, .nw, .d] (.sp 33 (.opx [1] [] (Int) (fun w54 => (.int .u64 w54, [some (a1, .row [.int .u64 w54] 128 1)])) (fun w54 => let y_0 := (bAnd .u64 w54 (IntKind.u64.wrap ((sHl .u64 1 ((Sort.bitsLen (IntKind.u64.wrap (b - a)).toNat : Nat) : Int)) - 1)));(ops [.d, .d, .d, .nw, .d, .d, .d, .d] (.sp 43 (ops [.d, .d, .nw, .d] (.dr [some (.d), some (.d), some (.d), some (.d), some (.d), some (.nw), some (.d), some (.d), some (.d), some (.nw), some (.ia), some (.q 0 (fun e v => .int .u32 (E[Int.toNat (a + (y_0 - (b - a)))]!))), some (.d), some (.d), some (.ia), some (.q 0 (fun e v => .int .u32 (E[Int.toNat ix]!))), some (.ia), some (.sq 0 (fun e v => u32l (E.setIfInBounds ix.toNat (E[Int.toNat (a + (y_0 - (b - a)))]!)) ++ T)), some (.ia), some (.sq 0 (fun e v => u32l (Sort.swp E ix.toNat (a + (y_0 - (b - a))).toNat) ++ T))] (ops [.d, .nw, .d] (.fin [] [])))) (.dr [some (.d), some (.d), some (.d), some (.d), some (.d), some (.nw), some (.d), some (.d), some (.d), some (.nw), some (.ia), some (.q 0 (fun e v => .int .u32 (E[Int.toNat (a + y_0)]!))), some (.d), some (.d), some (.ia), some (.q 0 (fun e v => .int .u32 (E[Int.toNat ix]!))), some (.ia), some (.sq 0 (fun e v => u32l (E.setIfInBounds ix.toNat (E[Int.toNat (a + y_0)]!)) ++ T)), some (.ia), some (.sq 0 (fun e v => u32l (Sort.swp E ix.toNat (a + y_0).toNat) ++ T))] (ops [.d, .nw, .d] (.fin [] []))))))) (.fin [] []))) (by kernel_rfl)
    (⟨(nwI (by have := q4k (a := a) (b := b) (by omega) (by omega);have := modl (x := b - a) (by omega) (by omega);omega) (by have := q4k (a := a) (b := b) (by omega) (by omega);have := modl (x := b - a) (by omega) (by omega);omega)), ⟨(nwI (by have := q4k (a := a) (b := b) (by omega) (by omega);have := modl (x := b - a) (by omega) (by omega);omega) (by have := q4k (a := a) (b := b) (by omega) (by omega);have := modl (x := b - a) (by omega) (by omega);omega)), ⟨(nwI (by have := q4k (a := a) (b := b) (by omega) (by omega);have := modl (x := b - a) (by omega) (by omega);omega) (by have := q4k (a := a) (b := b) (by omega) (by omega);have := modl (x := b - a) (by omega) (by omega);omega)), ⟨fun h53 => (have := of_decide_eq_true h53;⟨(xn_ok a1 r R), fun w54 => (have := q4k (a := a) (b := b) (by omega) (by omega);have := modl (x := b - a) (by omega) (by omega);have := band_le (x := w54) (y := (IntKind.u64.wrap ((sHl .u64 1 ((Sort.bitsLen (IntKind.u64.wrap (b - a)).toNat : Nat) : Int)) - 1))) (by omega) (by omega);⟨(wrapI (by have := q4k (a := a) (b := b) (by omega) (by omega);have := modl (x := b - a) (by omega) (by omega);omega) (by have := q4k (a := a) (b := b) (by omega) (by omega);have := modl (x := b - a) (by omega) (by omega);omega)), ⟨fun h55 => (have := of_decide_eq_true h55;⟨(nwI (by have := q4k (a := a) (b := b) (by omega) (by omega);have := modl (x := b - a) (by omega) (by omega);omega) (by have := q4k (a := a) (b := b) (by omega) (by omega);have := modl (x := b - a) (by omega) (by omega);omega)), ⟨(nwI (by have := q4k (a := a) (b := b) (by omega) (by omega);have := modl (x := b - a) (by omega) (by omega);omega) (by have := q4k (a := a) (b := b) (by omega) (by omega);have := modl (x := b - a) (by omega) (by omega);omega)), ⟨(nwI (by have := q4k (a := a) (b := b) (by omega) (by omega);have := modl (x := b - a) (by omega) (by omega);omega) (by have := q4k (a := a) (b := b) (by omega) (by omega);have := modl (x := b - a) (by omega) (by omega);omega)), ⟨(by have := q4k (a := a) (b := b) (by omega) (by omega);have := modl (x := b - a) (by omega) (by omega);omega), ⟨(rdu (by omega)), ⟨(by have := q4k (a := a) (b := b) (by omega) (by omega);have := modl (x := b - a) (by omega) (by omega);omega), ⟨(rdu (by omega)), ⟨(by have := q4k (a := a) (b := b) (by omega) (by omega);have := modl (x := b - a) (by omega) (by omega);omega), ⟨(wru (by omega)), ⟨(by have := q4k (a := a) (b := b) (by omega) (by omega);have := modl (x := b - a) (by omega) (by omega);omega), ⟨(wrs (by omega)), (have := swp_size E ix.toNat (a + ((bAnd .u64 w54 (IntKind.u64.wrap ((sHl .u64 1 ((Sort.bitsLen (Int.toNat (IntKind.u64.wrap (b - a))) : Nat) : Int)) - 1))) - (b - a))).toNat;⟨(nwI (by have := q4k (a := a) (b := b) (by omega) (by omega);have := modl (x := b - a) (by omega) (by omega);omega) (by have := q4k (a := a) (b := b) (by omega) (by omega);have := modl (x := b - a) (by omega) (by omega);omega)), LKn (fun zw => (ix + 1, w54, Sort.swp E ix.toNat (a + ((bAnd .u64 w54 (IntKind.u64.wrap ((sHl .u64 1 ((Sort.bitsLen (Int.toNat (IntKind.u64.wrap (b - a))) : Nat) : Int)) - 1))) - (b - a))).toNat, zw)) ⟨⟨rfl, (show (Sort.swp E ix.toNat (a + ((bAnd .u64 w54 (IntKind.u64.wrap ((sHl .u64 1 ((Sort.bitsLen (Int.toNat (IntKind.u64.wrap (b - a))) : Nat) : Int)) - 1))) - (b - a))).toNat).size = n∧a + wq4 a b * 2 - 1 ≤ (ix + 1)∧(ix + 1) ≤ a + wq4 a b * 2 + 2∧Sort.PermIn a.toNat b.toNat d (Sort.swp E ix.toNat (a + ((bAnd .u64 w54 (IntKind.u64.wrap ((sHl .u64 1 ((Sort.bitsLen (Int.toNat (IntKind.u64.wrap (b - a))) : Nat) : Int)) - 1))) - (b - a))).toNat) from ⟨(by have := q4k (a := a) (b := b) (by omega) (by omega);have := modl (x := b - a) (by omega) (by omega);omega), (by have := q4k (a := a) (b := b) (by omega) (by omega);have := modl (x := b - a) (by omega) (by omega);omega), (by have := q4k (a := a) (b := b) (by omega) (by omega);have := modl (x := b - a) (by omega) (by omega);omega), Sort.permIn_trans _ _ _ _ _ hI.2.2.2 (Sort.swp_permIn _ _ _ _ _ (by have := q4k (a := a) (b := b) (by omega) (by omega);have := modl (x := b - a) (by omega) (by omega);omega) (by have := q4k (a := a) (b := b) (by omega) (by omega);have := modl (x := b - a) (by omega) (by omega);omega) (by have := q4k (a := a) (b := b) (by omega) (by omega);have := modl (x := b - a) (by omega) (by omega);omega) (by have := q4k (a := a) (b := b) (by omega) (by omega);have := modl (x := b - a) (by omega) (by omega);omega) (by have := q4k (a := a) (b := b) (by omega) (by omega);have := modl (x := b - a) (by omega) (by omega);omega))⟩)⟩, (show Int.toNat (a + wq4 a b * 2 + 2 - (ix + 1)) < Int.toNat (a + wq4 a b * 2 + 2 - ix) from (by have := q4k (a := a) (b := b) (by omega) (by omega);have := modl (x := b - a) (by omega) (by omega);omega)), ⟨rfl, rfl, rfl⟩⟩⟩)⟩⟩⟩⟩⟩⟩⟩⟩⟩⟩⟩), fun h55 => (have := of_decide_eq_false h55;⟨(nwI (by have := q4k (a := a) (b := b) (by omega) (by omega);have := modl (x := b - a) (by omega) (by omega);omega) (by have := q4k (a := a) (b := b) (by omega) (by omega);have := modl (x := b - a) (by omega) (by omega);omega)), ⟨(nwI (by have := q4k (a := a) (b := b) (by omega) (by omega);have := modl (x := b - a) (by omega) (by omega);omega) (by have := q4k (a := a) (b := b) (by omega) (by omega);have := modl (x := b - a) (by omega) (by omega);omega)), ⟨(by have := q4k (a := a) (b := b) (by omega) (by omega);have := modl (x := b - a) (by omega) (by omega);omega), ⟨(rdu (by omega)), ⟨(by have := q4k (a := a) (b := b) (by omega) (by omega);have := modl (x := b - a) (by omega) (by omega);omega), ⟨(rdu (by omega)), ⟨(by have := q4k (a := a) (b := b) (by omega) (by omega);have := modl (x := b - a) (by omega) (by omega);omega), ⟨(wru (by omega)), ⟨(by have := q4k (a := a) (b := b) (by omega) (by omega);have := modl (x := b - a) (by omega) (by omega);omega), ⟨(wrs (by omega)), (have := swp_size E ix.toNat (a + (bAnd .u64 w54 (IntKind.u64.wrap ((sHl .u64 1 ((Sort.bitsLen (Int.toNat (IntKind.u64.wrap (b - a))) : Nat) : Int)) - 1)))).toNat;⟨(nwI (by have := q4k (a := a) (b := b) (by omega) (by omega);have := modl (x := b - a) (by omega) (by omega);omega) (by have := q4k (a := a) (b := b) (by omega) (by omega);have := modl (x := b - a) (by omega) (by omega);omega)), LKn (fun zw => (ix + 1, w54, Sort.swp E ix.toNat (a + (bAnd .u64 w54 (IntKind.u64.wrap ((sHl .u64 1 ((Sort.bitsLen (Int.toNat (IntKind.u64.wrap (b - a))) : Nat) : Int)) - 1)))).toNat, zw)) ⟨⟨rfl, (show (Sort.swp E ix.toNat (a + (bAnd .u64 w54 (IntKind.u64.wrap ((sHl .u64 1 ((Sort.bitsLen (Int.toNat (IntKind.u64.wrap (b - a))) : Nat) : Int)) - 1)))).toNat).size = n∧a + wq4 a b * 2 - 1 ≤ (ix + 1)∧(ix + 1) ≤ a + wq4 a b * 2 + 2∧Sort.PermIn a.toNat b.toNat d (Sort.swp E ix.toNat (a + (bAnd .u64 w54 (IntKind.u64.wrap ((sHl .u64 1 ((Sort.bitsLen (Int.toNat (IntKind.u64.wrap (b - a))) : Nat) : Int)) - 1)))).toNat) from ⟨(by have := q4k (a := a) (b := b) (by omega) (by omega);have := modl (x := b - a) (by omega) (by omega);omega), (by have := q4k (a := a) (b := b) (by omega) (by omega);have := modl (x := b - a) (by omega) (by omega);omega), (by have := q4k (a := a) (b := b) (by omega) (by omega);have := modl (x := b - a) (by omega) (by omega);omega), Sort.permIn_trans _ _ _ _ _ hI.2.2.2 (Sort.swp_permIn _ _ _ _ _ (by have := q4k (a := a) (b := b) (by omega) (by omega);have := modl (x := b - a) (by omega) (by omega);omega) (by have := q4k (a := a) (b := b) (by omega) (by omega);have := modl (x := b - a) (by omega) (by omega);omega) (by have := q4k (a := a) (b := b) (by omega) (by omega);have := modl (x := b - a) (by omega) (by omega);omega) (by have := q4k (a := a) (b := b) (by omega) (by omega);have := modl (x := b - a) (by omega) (by omega);omega) (by have := q4k (a := a) (b := b) (by omega) (by omega);have := modl (x := b - a) (by omega) (by omega);omega))⟩)⟩, (show Int.toNat (a + wq4 a b * 2 + 2 - (ix + 1)) < Int.toNat (a + wq4 a b * 2 + 2 - ix) from (by have := q4k (a := a) (b := b) (by omega) (by omega);have := modl (x := b - a) (by omega) (by omega);omega)), ⟨rfl, rfl, rfl⟩⟩⟩)⟩⟩⟩⟩⟩⟩⟩⟩⟩⟩)⟩⟩)⟩), fun h53 => (have := of_decide_eq_false h53;altA (fun zw => (ix, r, E, zw)) ⟨(show E.size = n∧Sort.PermIn a.toNat b.toNat d E from ⟨hI.1, hI.2.2.2⟩), (by show _ = _;kernel_rfl), ⟨(by show _ = _;kernel_rfl), (by show _ = _;kernel_rfl), (by show _ = _;kernel_rfl)⟩⟩)⟩⟩⟩⟩)
theorem bp_ok_L5_ct (A0 n cap N : Nat) (T : List Value) (d : Array Int) (a b : Int) (a1 : Nat)  (R : RO) (hd : d.size = n) (hn : n ≤ 1152921504606846976) (ha : 0 ≤ a) (hab : a < b) (hb : b ≤ (n : Int)) (h8 : b - a ≥ 8)  : CT Tryd.prog (sub (bodyOf Tryd.f75) [1, 1, 0, 1, 1, 1, 0]) ⟨(slA A0 n cap::vi a::vi b::undef::undef::undef::vi (b - a)::ptA a1::.int .u64 (sHl .u64 1 ((Sort.bitsLen (IntKind.u64.wrap (b - a)).toNat : Nat) : Int))::vi ((a + ((wq4 a b) * 2)) - 1)::undef::vi b::vi a::vi (b - a)::vi (b - a)::.bool true::vi (b - a)::.int .u64 (IntKind.u64.wrap (b - a))::vi (b - a)::.int .u64 (sHl .u64 1 ((Sort.bitsLen (IntKind.u64.wrap (b - a)).toNat : Nat) : Int))::vi a::vi (b - a)::vi (wq4 a b)::vi ((wq4 a b) * 2)::vi (a + ((wq4 a b) * 2))::vi ((a + ((wq4 a b) * 2)) - 1)::uns 39 []), [], [some (A0, .row (u32l d ++ T) 23 N), some (a1, .row [.int .u64 (IntKind.u64.wrap (b - a))] 128 1)]⟩ R (bp_ok_L5_K A0 n cap N T d a b a1 R) :=
  CT.loop_eqs (bp_ok_L5_inv A0 n cap N T d a b a1) (bp_ok_L5_I A0 n cap N T d a b a1 R) (bp_ok_L5_mu A0 n cap N T d a b a1) (fun zw => ((a + ((wq4 a b) * 2)) - 1, IntKind.u64.wrap (b - a), d, zw)) (by kernel_rfl) (by kernel_rfl) ⟨rfl, (show d.size = n∧a + wq4 a b * 2 - 1 ≤ ((a + ((wq4 a b) * 2)) - 1)∧((a + ((wq4 a b) * 2)) - 1) ≤ a + wq4 a b * 2 + 2∧Sort.PermIn a.toNat b.toNat d d from ⟨hd, by omega, (by have := q4k (a := a) (b := b) (by omega) (by omega);omega), Sort.permIn_refl _ _ _⟩)⟩
    (by
      rintro ⟨ix, r, E, u2⟩ G hG ⟨rfl, hI⟩
      exact bp_ok_L5_body A0 n cap N T d a b a1 _ hd hn ha hab hb h8 ix r E u2 hI)
theorem bp_ok (A0 n cap N : Nat) (T : List Value) (d : Array Int) (a b : Int) (R : RO) (hd : d.size = n) (hn : n ≤ 1152921504606846976) (ha : 0 ≤ a) (hab : a < b) (hb : b ≤ (n : Int)) : GivesX Tryd.prog 75 [slA A0 n cap, vi a, vi b] R [some (A0, .row (u32l d ++ T) 23 N)] ({y : Array Int // Sort.PermIn a.toNat b.toNat d y}) (fun y => (.tuple #[], [some (A0, .row (u32l y.1 ++ T) 23 N)])) :=
  Does.of_wp_eq (VC := (let z1 := (sHl .u64 1 ((Sort.bitsLen (IntKind.u64.wrap (b - a)).toNat : Nat) : Int));let z0 := ((wq4 a b) * 2);(NW .i64 (b - a))∧((decide ((b - a) ≥ 8)) = true → ∀ a1 : Nat, (a1 = a1)∧(Gives Tryd.prog 84 [vi (b - a)] R [] (.ret (.int .u64 z1)) [])∧(NW .i64 z0)∧(NW .i64 (a + z0))∧(NW .i64 ((a + z0) - 1))∧(CT Tryd.prog (sub (bodyOf Tryd.f75) [1, 1, 0, 1, 1, 1, 0]) ⟨(slA A0 n cap::vi a::vi b::undef::undef::undef::vi (b - a)::ptA a1::.int .u64 z1::vi ((a + z0) - 1)::undef::vi b::vi a::vi (b - a)::vi (b - a)::.bool true::vi (b - a)::.int .u64 (IntKind.u64.wrap (b - a))::vi (b - a)::.int .u64 z1::vi a::vi (b - a)::vi (wq4 a b)::vi z0::vi (a + z0)::vi ((a + z0) - 1)::uns 39 []), [], [some (A0, .row (u32l d ++ T) 23 N), some (a1, .row [.int .u64 (IntKind.u64.wrap (b - a))] 128 1)]⟩ R (bp_ok_L5_K A0 n cap N T d a b a1 R))∧(∀ x3 : Int×Int×(Array Int)×NV, (x3.2.2.1.size = n∧Sort.PermIn a.toNat b.toNat d x3.2.2.1) → GX R ({y : Array Int // Sort.PermIn a.toNat b.toNat d y}) (fun y => (.tuple #[], [some (A0, .row (u32l y.1 ++ T) 23 N)])) (.ret (.tuple #[])) R [some (A0, .row (u32l x3.2.2.1 ++ T) 23 N)])∧True)∧((decide ((b - a) ≥ 8)) = false → GX R ({y : Array Int // Sort.PermIn a.toNat b.toNat d y}) (fun y => (.tuple #[], [some (A0, .row (u32l y.1 ++ T) 23 N)])) (.ret (.tuple #[])) R [some (A0, .row (u32l d ++ T) 23 N)]))) (ops [.d, .d, .nw, .d, .d, .d] (.sp 15 (ops [.d, .d] (.opn 1 (fun a1 => (ops [.p 1, .d, .call0 [] [] (fun e v => .ret (.int .u64 (sHl .u64 1 ((Sort.bitsLen (IntKind.u64.wrap (b - a)).toNat : Nat) : Int)))) (fun e v => []), .d, .d, .d, .d, .nw, .nw, .nw, .d] (.alt (Int×Int×(Array Int)×NV) (fun zx => zx.2.2.1.size = n∧Sort.PermIn a.toNat b.toNat d zx.2.2.1) (fun zx => (.exit 0, ((bp_ok_L5_inv A0 n cap N T d a b a1 zx).up [] [some (A0, .row (u32l zx.2.2.1 ++ T) 23 N), some (a1, .row [.int .u64 zx.2.1] 128 1)]))) (fun x3 => (.fin [0] [])) .altn))))) (.fin [0] []))) Tryd.func75 (by kernel_rfl) (by kernel_rfl)
    (⟨(nwI (by have := q4k (a := a) (b := b) (by omega) (by omega);have := modl (x := b - a) (by omega) (by omega);omega) (by have := q4k (a := a) (b := b) (by omega) (by omega);have := modl (x := b - a) (by omega) (by omega);omega)), ⟨fun h0 => (have := of_decide_eq_true h0;fun a1 => ⟨rfl, ⟨(np_ok (b - a) R), ⟨(nwI (by have := q4k (a := a) (b := b) (by omega) (by omega);have := modl (x := b - a) (by omega) (by omega);omega) (by have := q4k (a := a) (b := b) (by omega) (by omega);have := modl (x := b - a) (by omega) (by omega);omega)), ⟨(nwI (by have := q4k (a := a) (b := b) (by omega) (by omega);have := modl (x := b - a) (by omega) (by omega);omega) (by have := q4k (a := a) (b := b) (by omega) (by omega);have := modl (x := b - a) (by omega) (by omega);omega)), ⟨(nwI (by have := q4k (a := a) (b := b) (by omega) (by omega);have := modl (x := b - a) (by omega) (by omega);omega) (by have := q4k (a := a) (b := b) (by omega) (by omega);have := modl (x := b - a) (by omega) (by omega);omega)), ⟨bp_ok_L5_ct A0 n cap N T d a b a1 R hd hn ha hab hb (by have := q4k (a := a) (b := b) (by omega) (by omega);have := modl (x := b - a) (by omega) (by omega);omega), ⟨fun x3 qx3 => ⟨rfl, ⟨x3.2.2.1, qx3.2⟩, (by rfl), (by rfl)⟩, trivial⟩⟩⟩⟩⟩⟩⟩), fun h0 => (have := of_decide_eq_false h0;⟨rfl, ⟨d, Sort.permIn_refl _ _ _⟩, (by rfl), (by rfl)⟩)⟩⟩)
noncomputable def pq_ok_L2_inv (A0 n cap N : Nat) (T : List Value) (d : Array Int) (a b l : Int)  : Int×Int×Int×Bool×Bool×(Array Int)×NV → St := fun zx => ⟨(slA A0 n cap::vi zx.1::vi zx.2.1::vi zx.2.2.1::uns 4 (.bool zx.2.2.2.1::.bool zx.2.2.2.2.1::urun zx.2.2.2.2.2.2 10 124 [])), [], [some (A0, .row (u32l zx.2.2.2.2.2.1 ++ T) 23 N)]⟩
def pq_ok_L2_I (A0 n cap N : Nat) (T : List Value) (d : Array Int) (a b l : Int)  (R : RO) : Int×Int×Int×Bool×Bool×(Array Int)×NV → RO → Prop := fun zx G => G = R∧(zx.2.2.2.2.2.1.size = n∧a ≤ zx.1∧zx.1 ≤ zx.2.1∧zx.2.1 ≤ b∧0 ≤ zx.2.2.1∧zx.2.2.1 ≤ 4611686018427387904∧Sort.Below Sort.ltInt zx.1.toNat zx.2.1.toNat zx.2.2.2.2.2.1∧∀ F, Sort.PermIn zx.1.toNat zx.2.1.toNat zx.2.2.2.2.2.1 F → Sort.SortedIn Sort.ltInt zx.1.toNat zx.2.1.toNat F → Sort.PermIn a.toNat b.toNat d F∧Sort.SortedIn Sort.ltInt a.toNat b.toNat F)
def pq_ok_L2_mu (A0 n cap N : Nat) (T : List Value) (d : Array Int) (a b l : Int)  : Int×Int×Int×Bool×Bool×(Array Int)×NV → Nat := fun zx => Int.toNat (zx.2.1 - zx.1)
noncomputable def pq_ok_L2_K (A0 n cap N : Nat) (T : List Value) (d : Array Int) (a b l : Int)  (R : RO) : Exit' → St → RO → Prop := altPost R (.alt (Int×Int×Int×Bool×Bool×(Array Int)×NV) (fun zx => Sort.PermIn a.toNat b.toNat d zx.2.2.2.2.2.1∧Sort.SortedIn Sort.ltInt a.toNat b.toNat zx.2.2.2.2.2.1) (fun zx => (.ret, ((pq_ok_L2_inv A0 n cap N T d a b l zx).up [] [some (A0, .row (u32l zx.2.2.2.2.2.1 ++ T) 23 N)]))) (fun _ => .altn) .altn)
theorem pq_ok_L2_body (A0 n cap N : Nat) (T : List Value) (d : Array Int) (a b l : Int)  (R : RO) (hd : d.size = n) (hn : n ≤ 1152921504606846976) (ha : 0 ≤ a) (hab : a ≤ b) (hb : b ≤ (n : Int)) (hl : 0 ≤ l) (hl2 : l ≤ 4611686018427387904) (hB : Sort.Below Sort.ltInt a.toNat b.toNat d) (ih : ∀ (a2 b2 l2 : Int) (e2 : Array Int) (R : RO), Int.toNat (b2 - a2) < Int.toNat (b - a) → e2.size = n → 0 ≤ a2 → a2 ≤ b2 → b2 ≤ (n : Int) → 0 ≤ l2 → l2 ≤ 4611686018427387904 → Sort.Below Sort.ltInt a2.toNat b2.toNat e2 → GivesX Tryd.prog 69 [slA A0 n cap, vi a2, vi b2, vi l2] R [some (A0, .row (u32l e2 ++ T) 23 N)] ({y : Array Int // Sort.PermIn a2.toNat b2.toNat e2 y∧Sort.SortedIn Sort.ltInt a2.toNat b2.toNat y}) (fun y => (.tuple #[], [some (A0, .row (u32l y.1 ++ T) 23 N)]))) (za : Int) (zb : Int) (zl : Int) (wb : Bool) (wp : Bool) (E : Array Int) (u0 : Nat → Value) (hI : E.size = n∧a ≤ za∧za ≤ zb∧zb ≤ b∧0 ≤ zl∧zl ≤ 4611686018427387904∧Sort.Below Sort.ltInt za.toNat zb.toNat E∧∀ F, Sort.PermIn za.toNat zb.toNat E F → Sort.SortedIn Sort.ltInt za.toNat zb.toNat F → Sort.PermIn a.toNat b.toNat d F∧Sort.SortedIn Sort.ltInt a.toNat b.toNat F) : CT Tryd.prog (sub (bodyOf Tryd.f69) [1, 1, 0, 0]) (pq_ok_L2_inv A0 n cap N T d a b l (za, zb, zl, wb, wp, E, u0)) R (LK (pq_ok_L2_inv A0 n cap N T d a b l) (pq_ok_L2_I A0 n cap N T d a b l R) (pq_ok_L2_mu A0 n cap N T d a b l) (pq_ok_L2_K A0 n cap N T d a b l R) (za, zb, zl, wb, wp, E, u0)) :=
  CT.of_wp_eq (VC := (let z32 : Hp := [some (A0, .row (u32l E ++ T) 23 N)];let z24 : Hp := [some (A0, .row (u32l (Sort.heapSort Sort.ltInt E za.toNat zb.toNat) ++ T) 23 N)];let z23 : Hp := [some (A0, .row (u32l (Sort.insertionSort Sort.ltInt E za.toNat zb.toNat) ++ T) 23 N)];let z17 := (pq_ok_L2_inv A0 n cap N T d a b l (za, zb, zl, wb, wp, E, u0));let z16 : List Value := [slA A0 n cap, vi za, vi zb];let z14 : Option Addr := (some ⟨A0, 0 + Int.toNat (za - 1) * 1, none⟩);let z12 := (pq_ok_L2_mu A0 n cap N T d a b l);let z10 := (pq_ok_L2_K A0 n cap N T d a b l R);let z9 := (pq_ok_L2_I A0 n cap N T d a b l R);let z8 := (pq_ok_L2_inv A0 n cap N T d a b l);let z0 := (IntKind.i64.wrap (Int.tdiv (zb - za) 8));(NW .i64 (zb - za))∧((decide ((zb - za) ≤ 12)) = true → (Gives Tryd.prog 73 z16 R z32 (.ret (.tuple #[])) z23)∧LK z8 z9 z12 z10 (za, zb, zl, wb, wp, E, u0) (.ret) (z17.up [(10, vi (zb - za)), (19, vi zb), (20, vi za), (21, vi (zb - za)), (22, vi (zb - za)), (23, .bool true), (24, slA A0 n cap), (25, vi za), (26, vi zb), (27, .tuple #[])] z23) R)∧((decide ((zb - za) ≤ 12)) = false → ((zl == 0) = true → (Gives Tryd.prog 74 z16 R z32 (.ret (.tuple #[])) z24)∧LK z8 z9 z12 z10 (za, zb, zl, wb, wp, E, u0) (.ret) (z17.up [(10, vi (zb - za)), (19, vi zb), (20, vi za), (21, vi (zb - za)), (22, vi (zb - za)), (23, .bool false), (28, vi zl), (29, .bool true), (30, slA A0 n cap), (31, vi za), (32, vi zb), (33, .tuple #[])] z24) R)∧((zl == 0) = false → (CT Tryd.prog (sub (bodyOf Tryd.f69) [1, 1, 0, 0, 0, 1, 1, 1, 0, 1]) ⟨(slA A0 n cap::vi za::vi zb::vi zl::uns 4 (.bool wb::.bool wp::vi (zb - za)::urun u0 11 8 (vi zb::vi za::vi (zb - za)::vi (zb - za)::.bool false::urun u0 24 4 (vi zl::.bool false::urun u0 30 4 (.bool wb::.bool (!wb)::urun u0 36 98 []))))), [], z32⟩ R (altPost R (.alt (Int×(Array Int)×NV) (fun zx => 0 ≤ zx.1∧zx.1 ≤ 4611686018427387904∧Sort.PermIn za.toNat zb.toNat E zx.2.1∧zx.2.1.size = n) (fun zx => (.normal, ⟨(slA A0 n cap::vi za::vi zb::vi zx.1::uns 4 (.bool wb::.bool wp::vi (zb - za)::urun u0 11 8 (vi zb::vi za::vi (zb - za)::vi (zb - za)::.bool false::urun u0 24 4 (vi zl::.bool false::urun u0 30 4 (.bool wb::urun zx.2.2 35 7 (urun u0 42 92 [])))))), [], [some (A0, .row (u32l zx.2.1 ++ T) 23 N)]⟩)) (fun _ => .altn) .altn)))∧(∀ x53 : Int×(Array Int)×NV, let z29 : Hp := [some (A0, .row (u32l x53.2.1 ++ T) 23 N)];(0 ≤ x53.1∧x53.1 ≤ 4611686018427387904∧Sort.PermIn za.toNat zb.toNat E x53.2.1∧x53.2.1.size = n) → (GivesX Tryd.prog 76 z16 R z29 ({y : Int×Int // za ≤ y.1∧y.1 < zb}) (fun w84 => (.tuple #[vi w84.1.1, vi w84.1.2], z29)))∧∀ w84 : {y : Int×Int // za ≤ y.1∧y.1 < zb}, let z1 : Array Value := #[vi w84.1.1, vi w84.1.2];(CT Tryd.prog (sub (bodyOf Tryd.f69) [1, 1, 0, 0, 0, 1, 1, 1, 1, 1, 0, 1]) ⟨(slA A0 n cap::vi za::vi zb::vi x53.1::uns 4 (.bool wb::.bool wp::vi (zb - za)::vi w84.1.1::vi w84.1.2::urun u0 13 6 (vi zb::vi za::vi (zb - za)::vi (zb - za)::.bool false::urun u0 24 4 (vi zl::.bool false::urun u0 30 4 (.bool wb::urun x53.2.2 35 7 (.tuple z1::slA A0 n cap::vi za::vi zb::.tuple z1::vi w84.1.1::vi w84.1.2::vi w84.1.2::.bool (w84.1.2 == 2)::urun u0 51 83 [])))))), [], z29⟩ R (altPost R (.alt (Int×Int×(Array Int)×NV) (fun zx => za ≤ zx.1∧zx.1 < zb∧Sort.PermIn za.toNat zb.toNat E zx.2.2.1∧zx.2.2.1.size = n) (fun zx => (.normal, ⟨(slA A0 n cap::vi za::vi zb::vi x53.1::uns 4 (.bool wb::.bool wp::vi (zb - za)::vi zx.1::vi zx.2.1::urun u0 13 6 (vi zb::vi za::vi (zb - za)::vi (zb - za)::.bool false::urun u0 24 4 (vi zl::.bool false::urun u0 30 4 (.bool wb::urun x53.2.2 35 7 (.tuple z1::slA A0 n cap::vi za::vi zb::.tuple z1::vi w84.1.1::vi w84.1.2::vi w84.1.2::urun zx.2.2.2 50 11 (urun u0 61 73 []))))))), [], [some (A0, .row (u32l zx.2.2.1 ++ T) 23 N)]⟩)) (fun _ => .altn) .altn)))∧(∀ x85 : Int×Int×(Array Int)×NV, let z21 := (x85.2.2.1[Int.toNat x85.1]!);let z18 := (x85.2.2.1[Int.toNat (za - 1)]!);let z15 : Option Addr := (some ⟨A0, 0 + Int.toNat x85.1 * 1, none⟩);let z13 : Hp := [some (A0, .row (u32l x85.2.2.1 ++ T) 23 N)];let z11 : List Value := [slA A0 n cap, vi za, vi zb, vi x85.1];let z6 := (decide (z18 < z21));(za ≤ x85.1∧x85.1 < zb∧Sort.PermIn za.toNat zb.toNat E x85.2.2.1∧x85.2.2.1.size = n) → (CT Tryd.prog (sub (bodyOf Tryd.f69) [1, 1, 0, 0, 0, 1, 1, 1, 1, 1, 1, 0, 0]) ⟨(slA A0 n cap::vi za::vi zb::vi x53.1::uns 4 (.bool wb::.bool wp::vi (zb - za)::vi x85.1::vi x85.2.1::urun u0 13 6 (vi zb::vi za::vi (zb - za)::vi (zb - za)::.bool false::urun u0 24 4 (vi zl::.bool false::urun u0 30 4 (.bool wb::urun x53.2.2 35 7 (.tuple z1::slA A0 n cap::vi za::vi zb::.tuple z1::vi w84.1.1::vi w84.1.2::vi w84.1.2::urun x85.2.2.2 50 11 (urun u0 61 73 []))))))), [], z13⟩ R (altPost R (.alt (Bool×NV) (fun zx => True) (fun zx => (.normal, ⟨(slA A0 n cap::vi za::vi zb::vi x53.1::uns 4 (.bool wb::.bool wp::vi (zb - za)::vi x85.1::vi x85.2.1::urun u0 13 6 (vi zb::vi za::vi (zb - za)::vi (zb - za)::.bool false::urun u0 24 4 (vi zl::.bool false::urun u0 30 4 (.bool wb::urun x53.2.2 35 7 (.tuple z1::slA A0 n cap::vi za::vi zb::.tuple z1::vi w84.1.1::vi w84.1.2::vi w84.1.2::urun x85.2.2.2 50 11 (urun zx.2 61 7 (.bool zx.1::urun u0 69 65 [])))))))), [], z13⟩)) (fun _ => .altn) .altn)))∧(∀ x116 : Bool×NV, (True) → ((x116.1) = true → (GivesX Tryd.prog 78 z16 R z13 ({y : Array Int×Bool // y = (Sort.partialInsertionSort Sort.ltInt x85.2.2.1 za.toNat zb.toNat)}) (fun w148 => (.bool w148.1.2, [some (A0, .row (u32l w148.1.1 ++ T) 23 N)])))∧∀ w148 : {y : Array Int×Bool // y = (Sort.partialInsertionSort Sort.ltInt x85.2.2.1 za.toNat zb.toNat)}, let z22 := (w148.1.1[Int.toNat x85.1]!);let z20 := (w148.1.1[Int.toNat (za - 1)]!);let z19 : Hp := [some (A0, .row (u32l w148.1.1 ++ T) 23 N)];let z7 := (decide (z20 < z22));((w148.1.2) = true → LK z8 z9 z12 z10 (za, zb, zl, wb, wp, E, u0) (.ret) (z17.up [(3, vi x53.1), (10, vi (zb - za)), (11, vi x85.1), (12, vi x85.2.1), (19, vi zb), (20, vi za), (21, vi (zb - za)), (22, vi (zb - za)), (23, .bool false), (28, vi zl), (29, .bool false), (34, .bool wb), (35, (x53.2.2 35)), (36, (x53.2.2 36)), (37, (x53.2.2 37)), (38, (x53.2.2 38)), (39, (x53.2.2 39)), (40, (x53.2.2 40)), (41, (x53.2.2 41)), (42, .tuple z1), (43, slA A0 n cap), (44, vi za), (45, vi zb), (46, .tuple z1), (47, vi w84.1.1), (48, vi w84.1.2), (49, vi w84.1.2), (50, (x85.2.2.2 50)), (51, (x85.2.2.2 51)), (52, (x85.2.2.2 52)), (53, (x85.2.2.2 53)), (54, (x85.2.2.2 54)), (55, (x85.2.2.2 55)), (56, (x85.2.2.2 56)), (57, (x85.2.2.2 57)), (58, (x85.2.2.2 58)), (59, (x85.2.2.2 59)), (60, (x85.2.2.2 60)), (61, (x116.2 61)), (62, (x116.2 62)), (63, (x116.2 63)), (64, (x116.2 64)), (65, (x116.2 65)), (66, (x116.2 66)), (67, (x116.2 67)), (68, .bool true), (69, slA A0 n cap), (70, vi za), (71, vi zb), (72, .bool true)] z19) R)∧((w148.1.2) = false → ((decide (za > 0)) = true → ((decide (za > 0)) = true)∧(NW .i64 (za - 1))∧(IB (za - 1) (n : Nat))∧(RDu A0 w148.1.1 T (za - 1))∧(IB x85.1 (n : Nat))∧(RDu A0 w148.1.1 T x85.1)∧(Gives Tryd.prog 79 [vu z20, vu z22] R [] (.ret (.bool z7)) [])∧((!z7) = true → (GivesX Tryd.prog 80 z11 R z19 ({y : Nat×Array Int // y = (Sort.partitionEqual Sort.ltInt w148.1.1 za.toNat zb.toNat x85.1.toNat)}) (fun w152 => (vi ((w152.1.1 : Nat) : Int), [some (A0, .row (u32l w152.1.2 ++ T) 23 N)])))∧∀ w152 : {y : Nat×Array Int // y = (Sort.partitionEqual Sort.ltInt w148.1.1 za.toNat zb.toNat x85.1.toNat)}, let z30 := ((w152.1.1 : Nat) : Int);LK z8 z9 z12 z10 (za, zb, zl, wb, wp, E, u0) .normal ⟨(slA A0 n cap::vi z30::vi zb::vi x53.1::uns 4 (.bool wb::.bool wp::vi (zb - za)::vi x85.1::vi x85.2.1::vi z30::urun u0 14 5 (vi zb::vi za::vi (zb - za)::vi (zb - za)::.bool false::urun u0 24 4 (vi zl::.bool false::urun u0 30 4 (.bool wb::urun x53.2.2 35 7 (.tuple z1::slA A0 n cap::vi za::vi zb::.tuple z1::vi w84.1.1::vi w84.1.2::vi w84.1.2::urun x85.2.2.2 50 11 (urun x116.2 61 7 (.bool true::slA A0 n cap::vi za::vi zb::.bool false::vi za::.bool (decide (za > 0))::.bool true::slA A0 n cap::vi za::vi (za - 1)::.pointer z14::vu z20::slA A0 n cap::vi x85.1::.pointer z15::vu z22::.bool z7::.bool (!z7)::.bool true::slA A0 n cap::vi za::vi zb::vi x85.1::vi z30::vi z30::urun u0 94 40 [])))))))), [], [some (A0, .row (u32l w152.1.2 ++ T) 23 N)]⟩ R)∧((!z7) = false → (GivesX Tryd.prog 81 z11 R z19 ({y : Nat×Bool×Array Int // y = (Sort.partition Sort.ltInt w148.1.1 za.toNat zb.toNat x85.1.toNat)}) (fun w152 => (.tuple #[vi ((w152.1.1 : Nat) : Int), .bool w152.1.2.1], [some (A0, .row (u32l w152.1.2.2 ++ T) 23 N)])))∧∀ w152 : {y : Nat×Bool×Array Int // y = (Sort.partition Sort.ltInt w148.1.1 za.toNat zb.toNat x85.1.toNat)}, let z2 := ((w152.1.1 : Nat) : Int);let z25 : Array Value := #[vi z2, .bool w152.1.2.1];(NW .i64 (z2 - za))∧(NW .i64 (zb - z2))∧((decide ((z2 - za) < (zb - z2))) = true → (GivesX Tryd.prog 69 [slA A0 n cap, vi za, vi z2, vi x53.1] R [some (A0, .row (u32l w152.1.2.2 ++ T) 23 N)] ({y : Array Int // Sort.PermIn za.toNat ((w152.1.1 : Nat) : Int).toNat w152.1.2.2 y∧Sort.SortedIn Sort.ltInt za.toNat ((w152.1.1 : Nat) : Int).toNat y}) (fun w154 => (.tuple #[], [some (A0, .row (u32l w154.1 ++ T) 23 N)])))∧∀ w154 : {y : Array Int // Sort.PermIn za.toNat ((w152.1.1 : Nat) : Int).toNat w152.1.2.2 y∧Sort.SortedIn Sort.ltInt za.toNat ((w152.1.1 : Nat) : Int).toNat y}, (NW .i64 (z2 + 1))∧LK z8 z9 z12 z10 (za, zb, zl, wb, wp, E, u0) .normal ⟨(slA A0 n cap::vi (z2 + 1)::vi zb::vi x53.1::uns 4 (.bool (decide ((z2 - za) ≥ z0))::.bool w152.1.2.1::vi (zb - za)::vi x85.1::vi x85.2.1::(u0 13)::vi z2::.bool w152.1.2.1::vi (z2 - za)::vi (zb - z2)::vi z0::vi zb::vi za::vi (zb - za)::vi (zb - za)::.bool false::urun u0 24 4 (vi zl::.bool false::urun u0 30 4 (.bool wb::urun x53.2.2 35 7 (.tuple z1::slA A0 n cap::vi za::vi zb::.tuple z1::vi w84.1.1::vi w84.1.2::vi w84.1.2::urun x85.2.2.2 50 11 (urun x116.2 61 7 (.bool true::slA A0 n cap::vi za::vi zb::.bool false::vi za::.bool (decide (za > 0))::.bool true::slA A0 n cap::vi za::vi (za - 1)::.pointer z14::vu z20::slA A0 n cap::vi x85.1::.pointer z15::vu z22::.bool z7::.bool (!z7)::.bool false::urun u0 88 6 (.tuple z25::slA A0 n cap::vi za::vi zb::vi x85.1::.tuple z25::vi z2::.bool w152.1.2.1::.bool w152.1.2.1::vi z2::vi za::vi (z2 - za)::vi zb::vi z2::vi (zb - z2)::vi (zb - za)::vi z0::vi (z2 - za)::vi (zb - z2)::.bool true::vi (z2 - za)::vi z0::.bool (decide ((z2 - za) ≥ z0))::slA A0 n cap::vi za::vi z2::vi x53.1::.tuple #[]::vi z2::vi (z2 + 1)::urun u0 124 10 [])))))))), [], [some (A0, .row (u32l w154.1 ++ T) 23 N)]⟩ R)∧((decide ((z2 - za) < (zb - z2))) = false → (NW .i64 (z2 + 1))∧(GivesX Tryd.prog 69 [slA A0 n cap, vi (z2 + 1), vi zb, vi x53.1] R [some (A0, .row (u32l w152.1.2.2 ++ T) 23 N)] ({y : Array Int // Sort.PermIn (((w152.1.1 : Nat) : Int) + 1).toNat zb.toNat w152.1.2.2 y∧Sort.SortedIn Sort.ltInt (((w152.1.1 : Nat) : Int) + 1).toNat zb.toNat y}) (fun w154 => (.tuple #[], [some (A0, .row (u32l w154.1 ++ T) 23 N)])))∧∀ w154 : {y : Array Int // Sort.PermIn (((w152.1.1 : Nat) : Int) + 1).toNat zb.toNat w152.1.2.2 y∧Sort.SortedIn Sort.ltInt (((w152.1.1 : Nat) : Int) + 1).toNat zb.toNat y}, LK z8 z9 z12 z10 (za, zb, zl, wb, wp, E, u0) .normal ⟨(slA A0 n cap::vi za::vi z2::vi x53.1::uns 4 (.bool (decide ((zb - z2) ≥ z0))::.bool w152.1.2.1::vi (zb - za)::vi x85.1::vi x85.2.1::(u0 13)::vi z2::.bool w152.1.2.1::vi (z2 - za)::vi (zb - z2)::vi z0::vi zb::vi za::vi (zb - za)::vi (zb - za)::.bool false::urun u0 24 4 (vi zl::.bool false::urun u0 30 4 (.bool wb::urun x53.2.2 35 7 (.tuple z1::slA A0 n cap::vi za::vi zb::.tuple z1::vi w84.1.1::vi w84.1.2::vi w84.1.2::urun x85.2.2.2 50 11 (urun x116.2 61 7 (.bool true::slA A0 n cap::vi za::vi zb::.bool false::vi za::.bool (decide (za > 0))::.bool true::slA A0 n cap::vi za::vi (za - 1)::.pointer z14::vu z20::slA A0 n cap::vi x85.1::.pointer z15::vu z22::.bool z7::.bool (!z7)::.bool false::urun u0 88 6 (.tuple z25::slA A0 n cap::vi za::vi zb::vi x85.1::.tuple z25::vi z2::.bool w152.1.2.1::.bool w152.1.2.1::vi z2::vi za::vi (z2 - za)::vi zb::vi z2::vi (zb - z2)::vi (zb - za)::vi z0::vi (z2 - za)::vi (zb - z2)::.bool false::urun u0 114 10 (vi (zb - z2)::vi z0::.bool (decide ((zb - z2) ≥ z0))::slA A0 n cap::vi z2::vi (z2 + 1)::vi zb::vi x53.1::.tuple #[]::vi z2::[]))))))))), [], [some (A0, .row (u32l w154.1 ++ T) 23 N)]⟩ R)))∧((decide (za > 0)) = false → ((decide (za > 0)) = false)∧(GivesX Tryd.prog 81 z11 R z19 ({y : Nat×Bool×Array Int // y = (Sort.partition Sort.ltInt w148.1.1 za.toNat zb.toNat x85.1.toNat)}) (fun w151 => (.tuple #[vi ((w151.1.1 : Nat) : Int), .bool w151.1.2.1], [some (A0, .row (u32l w151.1.2.2 ++ T) 23 N)])))∧∀ w151 : {y : Nat×Bool×Array Int // y = (Sort.partition Sort.ltInt w148.1.1 za.toNat zb.toNat x85.1.toNat)}, let z3 := ((w151.1.1 : Nat) : Int);let z26 : Array Value := #[vi z3, .bool w151.1.2.1];(NW .i64 (z3 - za))∧(NW .i64 (zb - z3))∧((decide ((z3 - za) < (zb - z3))) = true → (GivesX Tryd.prog 69 [slA A0 n cap, vi za, vi z3, vi x53.1] R [some (A0, .row (u32l w151.1.2.2 ++ T) 23 N)] ({y : Array Int // Sort.PermIn za.toNat ((w151.1.1 : Nat) : Int).toNat w151.1.2.2 y∧Sort.SortedIn Sort.ltInt za.toNat ((w151.1.1 : Nat) : Int).toNat y}) (fun w153 => (.tuple #[], [some (A0, .row (u32l w153.1 ++ T) 23 N)])))∧∀ w153 : {y : Array Int // Sort.PermIn za.toNat ((w151.1.1 : Nat) : Int).toNat w151.1.2.2 y∧Sort.SortedIn Sort.ltInt za.toNat ((w151.1.1 : Nat) : Int).toNat y}, (NW .i64 (z3 + 1))∧LK z8 z9 z12 z10 (za, zb, zl, wb, wp, E, u0) .normal ⟨(slA A0 n cap::vi (z3 + 1)::vi zb::vi x53.1::uns 4 (.bool (decide ((z3 - za) ≥ z0))::.bool w151.1.2.1::vi (zb - za)::vi x85.1::vi x85.2.1::(u0 13)::vi z3::.bool w151.1.2.1::vi (z3 - za)::vi (zb - z3)::vi z0::vi zb::vi za::vi (zb - za)::vi (zb - za)::.bool false::urun u0 24 4 (vi zl::.bool false::urun u0 30 4 (.bool wb::urun x53.2.2 35 7 (.tuple z1::slA A0 n cap::vi za::vi zb::.tuple z1::vi w84.1.1::vi w84.1.2::vi w84.1.2::urun x85.2.2.2 50 11 (urun x116.2 61 7 (.bool true::slA A0 n cap::vi za::vi zb::.bool false::vi za::.bool (decide (za > 0))::.bool false::uns 11 (.bool false::urun u0 88 6 (.tuple z26::slA A0 n cap::vi za::vi zb::vi x85.1::.tuple z26::vi z3::.bool w151.1.2.1::.bool w151.1.2.1::vi z3::vi za::vi (z3 - za)::vi zb::vi z3::vi (zb - z3)::vi (zb - za)::vi z0::vi (z3 - za)::vi (zb - z3)::.bool true::vi (z3 - za)::vi z0::.bool (decide ((z3 - za) ≥ z0))::slA A0 n cap::vi za::vi z3::vi x53.1::.tuple #[]::vi z3::vi (z3 + 1)::urun u0 124 10 []))))))))), [], [some (A0, .row (u32l w153.1 ++ T) 23 N)]⟩ R)∧((decide ((z3 - za) < (zb - z3))) = false → (NW .i64 (z3 + 1))∧(GivesX Tryd.prog 69 [slA A0 n cap, vi (z3 + 1), vi zb, vi x53.1] R [some (A0, .row (u32l w151.1.2.2 ++ T) 23 N)] ({y : Array Int // Sort.PermIn (((w151.1.1 : Nat) : Int) + 1).toNat zb.toNat w151.1.2.2 y∧Sort.SortedIn Sort.ltInt (((w151.1.1 : Nat) : Int) + 1).toNat zb.toNat y}) (fun w153 => (.tuple #[], [some (A0, .row (u32l w153.1 ++ T) 23 N)])))∧∀ w153 : {y : Array Int // Sort.PermIn (((w151.1.1 : Nat) : Int) + 1).toNat zb.toNat w151.1.2.2 y∧Sort.SortedIn Sort.ltInt (((w151.1.1 : Nat) : Int) + 1).toNat zb.toNat y}, LK z8 z9 z12 z10 (za, zb, zl, wb, wp, E, u0) .normal ⟨(slA A0 n cap::vi za::vi z3::vi x53.1::uns 4 (.bool (decide ((zb - z3) ≥ z0))::.bool w151.1.2.1::vi (zb - za)::vi x85.1::vi x85.2.1::(u0 13)::vi z3::.bool w151.1.2.1::vi (z3 - za)::vi (zb - z3)::vi z0::vi zb::vi za::vi (zb - za)::vi (zb - za)::.bool false::urun u0 24 4 (vi zl::.bool false::urun u0 30 4 (.bool wb::urun x53.2.2 35 7 (.tuple z1::slA A0 n cap::vi za::vi zb::.tuple z1::vi w84.1.1::vi w84.1.2::vi w84.1.2::urun x85.2.2.2 50 11 (urun x116.2 61 7 (.bool true::slA A0 n cap::vi za::vi zb::.bool false::vi za::.bool (decide (za > 0))::.bool false::uns 11 (.bool false::urun u0 88 6 (.tuple z26::slA A0 n cap::vi za::vi zb::vi x85.1::.tuple z26::vi z3::.bool w151.1.2.1::.bool w151.1.2.1::vi z3::vi za::vi (z3 - za)::vi zb::vi z3::vi (zb - z3)::vi (zb - za)::vi z0::vi (z3 - za)::vi (zb - z3)::.bool false::urun u0 114 10 (vi (zb - z3)::vi z0::.bool (decide ((zb - z3) ≥ z0))::slA A0 n cap::vi z3::vi (z3 + 1)::vi zb::vi x53.1::.tuple #[]::vi z3::[])))))))))), [], [some (A0, .row (u32l w153.1 ++ T) 23 N)]⟩ R))))∧((x116.1) = false → ((decide (za > 0)) = true → ((decide (za > 0)) = true)∧(NW .i64 (za - 1))∧(IB (za - 1) (n : Nat))∧(RDu A0 x85.2.2.1 T (za - 1))∧(IB x85.1 (n : Nat))∧(RDu A0 x85.2.2.1 T x85.1)∧(Gives Tryd.prog 79 [vu z18, vu z21] R [] (.ret (.bool z6)) [])∧((!z6) = true → (GivesX Tryd.prog 80 z11 R z13 ({y : Nat×Array Int // y = (Sort.partitionEqual Sort.ltInt x85.2.2.1 za.toNat zb.toNat x85.1.toNat)}) (fun w150 => (vi ((w150.1.1 : Nat) : Int), [some (A0, .row (u32l w150.1.2 ++ T) 23 N)])))∧∀ w150 : {y : Nat×Array Int // y = (Sort.partitionEqual Sort.ltInt x85.2.2.1 za.toNat zb.toNat x85.1.toNat)}, let z31 := ((w150.1.1 : Nat) : Int);LK z8 z9 z12 z10 (za, zb, zl, wb, wp, E, u0) .normal ⟨(slA A0 n cap::vi z31::vi zb::vi x53.1::uns 4 (.bool wb::.bool wp::vi (zb - za)::vi x85.1::vi x85.2.1::vi z31::urun u0 14 5 (vi zb::vi za::vi (zb - za)::vi (zb - za)::.bool false::urun u0 24 4 (vi zl::.bool false::urun u0 30 4 (.bool wb::urun x53.2.2 35 7 (.tuple z1::slA A0 n cap::vi za::vi zb::.tuple z1::vi w84.1.1::vi w84.1.2::vi w84.1.2::urun x85.2.2.2 50 11 (urun x116.2 61 7 (.bool false::urun u0 69 4 (vi za::.bool (decide (za > 0))::.bool true::slA A0 n cap::vi za::vi (za - 1)::.pointer z14::vu z18::slA A0 n cap::vi x85.1::.pointer z15::vu z21::.bool z6::.bool (!z6)::.bool true::slA A0 n cap::vi za::vi zb::vi x85.1::vi z31::vi z31::urun u0 94 40 []))))))))), [], [some (A0, .row (u32l w150.1.2 ++ T) 23 N)]⟩ R)∧((!z6) = false → (GivesX Tryd.prog 81 z11 R z13 ({y : Nat×Bool×Array Int // y = (Sort.partition Sort.ltInt x85.2.2.1 za.toNat zb.toNat x85.1.toNat)}) (fun w150 => (.tuple #[vi ((w150.1.1 : Nat) : Int), .bool w150.1.2.1], [some (A0, .row (u32l w150.1.2.2 ++ T) 23 N)])))∧∀ w150 : {y : Nat×Bool×Array Int // y = (Sort.partition Sort.ltInt x85.2.2.1 za.toNat zb.toNat x85.1.toNat)}, let z4 := ((w150.1.1 : Nat) : Int);let z27 : Array Value := #[vi z4, .bool w150.1.2.1];(NW .i64 (z4 - za))∧(NW .i64 (zb - z4))∧((decide ((z4 - za) < (zb - z4))) = true → (GivesX Tryd.prog 69 [slA A0 n cap, vi za, vi z4, vi x53.1] R [some (A0, .row (u32l w150.1.2.2 ++ T) 23 N)] ({y : Array Int // Sort.PermIn za.toNat ((w150.1.1 : Nat) : Int).toNat w150.1.2.2 y∧Sort.SortedIn Sort.ltInt za.toNat ((w150.1.1 : Nat) : Int).toNat y}) (fun w152 => (.tuple #[], [some (A0, .row (u32l w152.1 ++ T) 23 N)])))∧∀ w152 : {y : Array Int // Sort.PermIn za.toNat ((w150.1.1 : Nat) : Int).toNat w150.1.2.2 y∧Sort.SortedIn Sort.ltInt za.toNat ((w150.1.1 : Nat) : Int).toNat y}, (NW .i64 (z4 + 1))∧LK z8 z9 z12 z10 (za, zb, zl, wb, wp, E, u0) .normal ⟨(slA A0 n cap::vi (z4 + 1)::vi zb::vi x53.1::uns 4 (.bool (decide ((z4 - za) ≥ z0))::.bool w150.1.2.1::vi (zb - za)::vi x85.1::vi x85.2.1::(u0 13)::vi z4::.bool w150.1.2.1::vi (z4 - za)::vi (zb - z4)::vi z0::vi zb::vi za::vi (zb - za)::vi (zb - za)::.bool false::urun u0 24 4 (vi zl::.bool false::urun u0 30 4 (.bool wb::urun x53.2.2 35 7 (.tuple z1::slA A0 n cap::vi za::vi zb::.tuple z1::vi w84.1.1::vi w84.1.2::vi w84.1.2::urun x85.2.2.2 50 11 (urun x116.2 61 7 (.bool false::urun u0 69 4 (vi za::.bool (decide (za > 0))::.bool true::slA A0 n cap::vi za::vi (za - 1)::.pointer z14::vu z18::slA A0 n cap::vi x85.1::.pointer z15::vu z21::.bool z6::.bool (!z6)::.bool false::urun u0 88 6 (.tuple z27::slA A0 n cap::vi za::vi zb::vi x85.1::.tuple z27::vi z4::.bool w150.1.2.1::.bool w150.1.2.1::vi z4::vi za::vi (z4 - za)::vi zb::vi z4::vi (zb - z4)::vi (zb - za)::vi z0::vi (z4 - za)::vi (zb - z4)::.bool true::vi (z4 - za)::vi z0::.bool (decide ((z4 - za) ≥ z0))::slA A0 n cap::vi za::vi z4::vi x53.1::.tuple #[]::vi z4::vi (z4 + 1)::urun u0 124 10 []))))))))), [], [some (A0, .row (u32l w152.1 ++ T) 23 N)]⟩ R)∧((decide ((z4 - za) < (zb - z4))) = false → (NW .i64 (z4 + 1))∧(GivesX Tryd.prog 69 [slA A0 n cap, vi (z4 + 1), vi zb, vi x53.1] R [some (A0, .row (u32l w150.1.2.2 ++ T) 23 N)] ({y : Array Int // Sort.PermIn (((w150.1.1 : Nat) : Int) + 1).toNat zb.toNat w150.1.2.2 y∧Sort.SortedIn Sort.ltInt (((w150.1.1 : Nat) : Int) + 1).toNat zb.toNat y}) (fun w152 => (.tuple #[], [some (A0, .row (u32l w152.1 ++ T) 23 N)])))∧∀ w152 : {y : Array Int // Sort.PermIn (((w150.1.1 : Nat) : Int) + 1).toNat zb.toNat w150.1.2.2 y∧Sort.SortedIn Sort.ltInt (((w150.1.1 : Nat) : Int) + 1).toNat zb.toNat y}, LK z8 z9 z12 z10 (za, zb, zl, wb, wp, E, u0) .normal ⟨(slA A0 n cap::vi za::vi z4::vi x53.1::uns 4 (.bool (decide ((zb - z4) ≥ z0))::.bool w150.1.2.1::vi (zb - za)::vi x85.1::vi x85.2.1::(u0 13)::vi z4::.bool w150.1.2.1::vi (z4 - za)::vi (zb - z4)::vi z0::vi zb::vi za::vi (zb - za)::vi (zb - za)::.bool false::urun u0 24 4 (vi zl::.bool false::urun u0 30 4 (.bool wb::urun x53.2.2 35 7 (.tuple z1::slA A0 n cap::vi za::vi zb::.tuple z1::vi w84.1.1::vi w84.1.2::vi w84.1.2::urun x85.2.2.2 50 11 (urun x116.2 61 7 (.bool false::urun u0 69 4 (vi za::.bool (decide (za > 0))::.bool true::slA A0 n cap::vi za::vi (za - 1)::.pointer z14::vu z18::slA A0 n cap::vi x85.1::.pointer z15::vu z21::.bool z6::.bool (!z6)::.bool false::urun u0 88 6 (.tuple z27::slA A0 n cap::vi za::vi zb::vi x85.1::.tuple z27::vi z4::.bool w150.1.2.1::.bool w150.1.2.1::vi z4::vi za::vi (z4 - za)::vi zb::vi z4::vi (zb - z4)::vi (zb - za)::vi z0::vi (z4 - za)::vi (zb - z4)::.bool false::urun u0 114 10 (vi (zb - z4)::vi z0::.bool (decide ((zb - z4) ≥ z0))::slA A0 n cap::vi z4::vi (z4 + 1)::vi zb::vi x53.1::.tuple #[]::vi z4::[])))))))))), [], [some (A0, .row (u32l w152.1 ++ T) 23 N)]⟩ R)))∧((decide (za > 0)) = false → ((decide (za > 0)) = false)∧(GivesX Tryd.prog 81 z11 R z13 ({y : Nat×Bool×Array Int // y = (Sort.partition Sort.ltInt x85.2.2.1 za.toNat zb.toNat x85.1.toNat)}) (fun w149 => (.tuple #[vi ((w149.1.1 : Nat) : Int), .bool w149.1.2.1], [some (A0, .row (u32l w149.1.2.2 ++ T) 23 N)])))∧∀ w149 : {y : Nat×Bool×Array Int // y = (Sort.partition Sort.ltInt x85.2.2.1 za.toNat zb.toNat x85.1.toNat)}, let z5 := ((w149.1.1 : Nat) : Int);let z28 : Array Value := #[vi z5, .bool w149.1.2.1];(NW .i64 (z5 - za))∧(NW .i64 (zb - z5))∧((decide ((z5 - za) < (zb - z5))) = true → (GivesX Tryd.prog 69 [slA A0 n cap, vi za, vi z5, vi x53.1] R [some (A0, .row (u32l w149.1.2.2 ++ T) 23 N)] ({y : Array Int // Sort.PermIn za.toNat ((w149.1.1 : Nat) : Int).toNat w149.1.2.2 y∧Sort.SortedIn Sort.ltInt za.toNat ((w149.1.1 : Nat) : Int).toNat y}) (fun w151 => (.tuple #[], [some (A0, .row (u32l w151.1 ++ T) 23 N)])))∧∀ w151 : {y : Array Int // Sort.PermIn za.toNat ((w149.1.1 : Nat) : Int).toNat w149.1.2.2 y∧Sort.SortedIn Sort.ltInt za.toNat ((w149.1.1 : Nat) : Int).toNat y}, (NW .i64 (z5 + 1))∧LK z8 z9 z12 z10 (za, zb, zl, wb, wp, E, u0) .normal ⟨(slA A0 n cap::vi (z5 + 1)::vi zb::vi x53.1::uns 4 (.bool (decide ((z5 - za) ≥ z0))::.bool w149.1.2.1::vi (zb - za)::vi x85.1::vi x85.2.1::(u0 13)::vi z5::.bool w149.1.2.1::vi (z5 - za)::vi (zb - z5)::vi z0::vi zb::vi za::vi (zb - za)::vi (zb - za)::.bool false::urun u0 24 4 (vi zl::.bool false::urun u0 30 4 (.bool wb::urun x53.2.2 35 7 (.tuple z1::slA A0 n cap::vi za::vi zb::.tuple z1::vi w84.1.1::vi w84.1.2::vi w84.1.2::urun x85.2.2.2 50 11 (urun x116.2 61 7 (.bool false::urun u0 69 4 (vi za::.bool (decide (za > 0))::.bool false::uns 11 (.bool false::urun u0 88 6 (.tuple z28::slA A0 n cap::vi za::vi zb::vi x85.1::.tuple z28::vi z5::.bool w149.1.2.1::.bool w149.1.2.1::vi z5::vi za::vi (z5 - za)::vi zb::vi z5::vi (zb - z5)::vi (zb - za)::vi z0::vi (z5 - za)::vi (zb - z5)::.bool true::vi (z5 - za)::vi z0::.bool (decide ((z5 - za) ≥ z0))::slA A0 n cap::vi za::vi z5::vi x53.1::.tuple #[]::vi z5::vi (z5 + 1)::urun u0 124 10 [])))))))))), [], [some (A0, .row (u32l w151.1 ++ T) 23 N)]⟩ R)∧((decide ((z5 - za) < (zb - z5))) = false → (NW .i64 (z5 + 1))∧(GivesX Tryd.prog 69 [slA A0 n cap, vi (z5 + 1), vi zb, vi x53.1] R [some (A0, .row (u32l w149.1.2.2 ++ T) 23 N)] ({y : Array Int // Sort.PermIn (((w149.1.1 : Nat) : Int) + 1).toNat zb.toNat w149.1.2.2 y∧Sort.SortedIn Sort.ltInt (((w149.1.1 : Nat) : Int) + 1).toNat zb.toNat y}) (fun w151 => (.tuple #[], [some (A0, .row (u32l w151.1 ++ T) 23 N)])))∧∀ w151 : {y : Array Int // Sort.PermIn (((w149.1.1 : Nat) : Int) + 1).toNat zb.toNat w149.1.2.2 y∧Sort.SortedIn Sort.ltInt (((w149.1.1 : Nat) : Int) + 1).toNat zb.toNat y}, LK z8 z9 z12 z10 (za, zb, zl, wb, wp, E, u0) .normal ⟨(slA A0 n cap::vi za::vi z5::vi x53.1::uns 4 (.bool (decide ((zb - z5) ≥ z0))::.bool w149.1.2.1::vi (zb - za)::vi x85.1::vi x85.2.1::(u0 13)::vi z5::.bool w149.1.2.1::vi (z5 - za)::vi (zb - z5)::vi z0::vi zb::vi za::vi (zb - za)::vi (zb - za)::.bool false::urun u0 24 4 (vi zl::.bool false::urun u0 30 4 (.bool wb::urun x53.2.2 35 7 (.tuple z1::slA A0 n cap::vi za::vi zb::.tuple z1::vi w84.1.1::vi w84.1.2::vi w84.1.2::urun x85.2.2.2 50 11 (urun x116.2 61 7 (.bool false::urun u0 69 4 (vi za::.bool (decide (za > 0))::.bool false::uns 11 (.bool false::urun u0 88 6 (.tuple z28::slA A0 n cap::vi za::vi zb::vi x85.1::.tuple z28::vi z5::.bool w149.1.2.1::.bool w149.1.2.1::vi z5::vi za::vi (z5 - za)::vi zb::vi z5::vi (zb - z5)::vi (zb - za)::vi z0::vi (z5 - za)::vi (zb - z5)::.bool false::urun u0 114 10 (vi (zb - z5)::vi z0::.bool (decide ((zb - z5) ≥ z0))::slA A0 n cap::vi z5::vi (z5 + 1)::vi zb::vi x53.1::.tuple #[]::vi z5::[]))))))))))), [], [some (A0, .row (u32l w151.1 ++ T) 23 N)]⟩ R))))∧True)∧True)∧True)))) (let y_2 := (ops [.d, .d] (.fin [] []));let y_1 := (ops [.d, .nw, .d] (.fin [] []));ops [.d, .d, .nw, .d, .d, .d] (.sp 23 (ops [.d, .d, .d, .call0 [0] [] (fun e v => .ret (.tuple #[])) (fun e v => [some (A0, .row (u32l (Sort.insertionSort Sort.ltInt E za.toNat zb.toNat) ++ T) 23 N)])] (.fin [] [])) (ops [.d, .d] (.sp 29 (ops [.d, .d, .d, .call0 [0] [] (fun e v => .ret (.tuple #[])) (fun e v => [some (A0, .row (u32l (Sort.heapSort Sort.ltInt E za.toNat zb.toNat) ++ T) 23 N)])] (.fin [] [])) (ops [.d, .d] (.alt (Int×(Array Int)×NV) (fun zx => 0 ≤ zx.1∧zx.1 ≤ 4611686018427387904∧Sort.PermIn za.toNat zb.toNat E zx.2.1∧zx.2.1.size = n) (fun zx => (.normal, ⟨(slA A0 n cap::vi za::vi zb::vi zx.1::uns 4 (.bool wb::.bool wp::vi (zb - za)::urun u0 11 8 (vi zb::vi za::vi (zb - za)::vi (zb - za)::.bool false::urun u0 24 4 (vi zl::.bool false::urun u0 30 4 (.bool wb::urun zx.2.2 35 7 (urun u0 42 92 [])))))), [], [some (A0, .row (u32l zx.2.1 ++ T) 23 N)]⟩)) (fun x53 => (ops [.d, .d, .d] (.opx [0] [] ({y : Int×Int // za ≤ y.1∧y.1 < zb}) (fun w84 => (.tuple #[vi w84.1.1, vi w84.1.2], [some (A0, .row (u32l x53.2.1 ++ T) 23 N)])) (fun w84 => let y_0 : Array Value := #[vi w84.1.1, vi w84.1.2];(ops [.d, .d, .d, .d, .d, .d, .d] (.alt (Int×Int×(Array Int)×NV) (fun zx => za ≤ zx.1∧zx.1 < zb∧Sort.PermIn za.toNat zb.toNat E zx.2.2.1∧zx.2.2.1.size = n) (fun zx => (.normal, ⟨(slA A0 n cap::vi za::vi zb::vi x53.1::uns 4 (.bool wb::.bool wp::vi (zb - za)::vi zx.1::vi zx.2.1::urun u0 13 6 (vi zb::vi za::vi (zb - za)::vi (zb - za)::.bool false::urun u0 24 4 (vi zl::.bool false::urun u0 30 4 (.bool wb::urun x53.2.2 35 7 (.tuple y_0::slA A0 n cap::vi za::vi zb::.tuple y_0::vi w84.1.1::vi w84.1.2::vi w84.1.2::urun zx.2.2.2 50 11 (urun u0 61 73 []))))))), [], [some (A0, .row (u32l zx.2.2.1 ++ T) 23 N)]⟩)) (fun x85 => (.alt (Bool×NV) (fun zx => True) (fun zx => (.normal, ⟨(slA A0 n cap::vi za::vi zb::vi x53.1::uns 4 (.bool wb::.bool wp::vi (zb - za)::vi x85.1::vi x85.2.1::urun u0 13 6 (vi zb::vi za::vi (zb - za)::vi (zb - za)::.bool false::urun u0 24 4 (vi zl::.bool false::urun u0 30 4 (.bool wb::urun x53.2.2 35 7 (.tuple y_0::slA A0 n cap::vi za::vi zb::.tuple y_0::vi w84.1.1::vi w84.1.2::vi w84.1.2::urun x85.2.2.2 50 11 (urun zx.2 61 7 (.bool zx.1::urun u0 69 65 [])))))))), [], [some (A0, .row (u32l x85.2.2.1 ++ T) 23 N)]⟩)) (fun x116 => (.sp 68 (ops [.d, .d, .d] (.opx [0] [] ({y : Array Int×Bool // y = (Sort.partialInsertionSort Sort.ltInt x85.2.2.1 za.toNat zb.toNat)}) (fun w148 => (.bool w148.1.2, [some (A0, .row (u32l w148.1.1 ++ T) 23 N)])) (fun w148 => (.sp 72 (.fin [] []) (.cs (decide (za > 0)) (.dr [some (.d), some (.d), some (.db true), some (.d), some (.d), some (.nw), some (.ia), some (.q 0 (fun e v => .int .u32 (w148.1.1[Int.toNat (za - 1)]!))), some (.d), some (.d), some (.ia), some (.q 0 (fun e v => .int .u32 (w148.1.1[Int.toNat x85.1]!))), some (.call0 [] [] (fun e v => .ret (.bool (decide ((w148.1.1[Int.toNat (za - 1)]!) < (w148.1.1[Int.toNat x85.1]!))))) (fun e v => [])), some (.d), some (.d)] (.sp 87 (ops [.d, .d, .d, .d] (.opx [0] [] ({y : Nat×Array Int // y = (Sort.partitionEqual Sort.ltInt w148.1.1 za.toNat zb.toNat x85.1.toNat)}) (fun w152 => (vi ((w152.1.1 : Nat) : Int), [some (A0, .row (u32l w152.1.2 ++ T) 23 N)])) (fun w152 => (ops [.d, .d, .d] (.fin [] []))))) (ops [.d, .d, .d, .d] (.opx [0] [] ({y : Nat×Bool×Array Int // y = (Sort.partition Sort.ltInt w148.1.1 za.toNat zb.toNat x85.1.toNat)}) (fun w152 => (.tuple #[vi ((w152.1.1 : Nat) : Int), .bool w152.1.2.1], [some (A0, .row (u32l w152.1.2.2 ++ T) 23 N)])) (fun w152 => (ops [.d, .d, .d, .d, .d, .d, .d, .d, .d, .nw, .d, .d, .nw, .d, .d, .d, .d, .d, .d, .d, .d] (.sp 113 (ops [.d, .d, .d, .d, .d, .d, .d, .d] (.opx [0] [] ({y : Array Int // Sort.PermIn za.toNat ((w152.1.1 : Nat) : Int).toNat w152.1.2.2 y∧Sort.SortedIn Sort.ltInt za.toNat ((w152.1.1 : Nat) : Int).toNat y}) (fun w154 => (.tuple #[], [some (A0, .row (u32l w154.1 ++ T) 23 N)])) (fun w154 => y_1))) (ops [.d, .d, .d, .d, .d, .d, .nw, .d, .d] (.opx [0] [] ({y : Array Int // Sort.PermIn (((w152.1.1 : Nat) : Int) + 1).toNat zb.toNat w152.1.2.2 y∧Sort.SortedIn Sort.ltInt (((w152.1.1 : Nat) : Int) + 1).toNat zb.toNat y}) (fun w154 => (.tuple #[], [some (A0, .row (u32l w154.1 ++ T) 23 N)])) (fun w154 => y_2)))))))))) (.dr [some (.d), some (.d), some (.db false), none, none, none, none, none, none, none, none, none, none, none, some (.d)] (ops [.d, .d, .d, .d] (.opx [0] [] ({y : Nat×Bool×Array Int // y = (Sort.partition Sort.ltInt w148.1.1 za.toNat zb.toNat x85.1.toNat)}) (fun w151 => (.tuple #[vi ((w151.1.1 : Nat) : Int), .bool w151.1.2.1], [some (A0, .row (u32l w151.1.2.2 ++ T) 23 N)])) (fun w151 => (ops [.d, .d, .d, .d, .d, .d, .d, .d, .d, .nw, .d, .d, .nw, .d, .d, .d, .d, .d, .d, .d, .d] (.sp 113 (ops [.d, .d, .d, .d, .d, .d, .d, .d] (.opx [0] [] ({y : Array Int // Sort.PermIn za.toNat ((w151.1.1 : Nat) : Int).toNat w151.1.2.2 y∧Sort.SortedIn Sort.ltInt za.toNat ((w151.1.1 : Nat) : Int).toNat y}) (fun w153 => (.tuple #[], [some (A0, .row (u32l w153.1 ++ T) 23 N)])) (fun w153 => y_1))) (ops [.d, .d, .d, .d, .d, .d, .nw, .d, .d] (.opx [0] [] ({y : Array Int // Sort.PermIn (((w151.1.1 : Nat) : Int) + 1).toNat zb.toNat w151.1.2.2 y∧Sort.SortedIn Sort.ltInt (((w151.1.1 : Nat) : Int) + 1).toNat zb.toNat y}) (fun w153 => (.tuple #[], [some (A0, .row (u32l w153.1 ++ T) 23 N)])) (fun w153 => y_2)))))))))))))) (.cs (decide (za > 0)) (.dr [some (.d), some (.d), some (.db true), some (.d), some (.d), some (.nw), some (.ia), some (.q 0 (fun e v => .int .u32 (x85.2.2.1[Int.toNat (za - 1)]!))), some (.d), some (.d), some (.ia), some (.q 0 (fun e v => .int .u32 (x85.2.2.1[Int.toNat x85.1]!))), some (.call0 [] [] (fun e v => .ret (.bool (decide ((x85.2.2.1[Int.toNat (za - 1)]!) < (x85.2.2.1[Int.toNat x85.1]!))))) (fun e v => [])), some (.d), some (.d)] (.sp 87 (ops [.d, .d, .d, .d] (.opx [0] [] ({y : Nat×Array Int // y = (Sort.partitionEqual Sort.ltInt x85.2.2.1 za.toNat zb.toNat x85.1.toNat)}) (fun w150 => (vi ((w150.1.1 : Nat) : Int), [some (A0, .row (u32l w150.1.2 ++ T) 23 N)])) (fun w150 => (ops [.d, .d, .d] (.fin [] []))))) (ops [.d, .d, .d, .d] (.opx [0] [] ({y : Nat×Bool×Array Int // y = (Sort.partition Sort.ltInt x85.2.2.1 za.toNat zb.toNat x85.1.toNat)}) (fun w150 => (.tuple #[vi ((w150.1.1 : Nat) : Int), .bool w150.1.2.1], [some (A0, .row (u32l w150.1.2.2 ++ T) 23 N)])) (fun w150 => (ops [.d, .d, .d, .d, .d, .d, .d, .d, .d, .nw, .d, .d, .nw, .d, .d, .d, .d, .d, .d, .d, .d] (.sp 113 (ops [.d, .d, .d, .d, .d, .d, .d, .d] (.opx [0] [] ({y : Array Int // Sort.PermIn za.toNat ((w150.1.1 : Nat) : Int).toNat w150.1.2.2 y∧Sort.SortedIn Sort.ltInt za.toNat ((w150.1.1 : Nat) : Int).toNat y}) (fun w152 => (.tuple #[], [some (A0, .row (u32l w152.1 ++ T) 23 N)])) (fun w152 => y_1))) (ops [.d, .d, .d, .d, .d, .d, .nw, .d, .d] (.opx [0] [] ({y : Array Int // Sort.PermIn (((w150.1.1 : Nat) : Int) + 1).toNat zb.toNat w150.1.2.2 y∧Sort.SortedIn Sort.ltInt (((w150.1.1 : Nat) : Int) + 1).toNat zb.toNat y}) (fun w152 => (.tuple #[], [some (A0, .row (u32l w152.1 ++ T) 23 N)])) (fun w152 => y_2)))))))))) (.dr [some (.d), some (.d), some (.db false), none, none, none, none, none, none, none, none, none, none, none, some (.d)] (ops [.d, .d, .d, .d] (.opx [0] [] ({y : Nat×Bool×Array Int // y = (Sort.partition Sort.ltInt x85.2.2.1 za.toNat zb.toNat x85.1.toNat)}) (fun w149 => (.tuple #[vi ((w149.1.1 : Nat) : Int), .bool w149.1.2.1], [some (A0, .row (u32l w149.1.2.2 ++ T) 23 N)])) (fun w149 => (ops [.d, .d, .d, .d, .d, .d, .d, .d, .d, .nw, .d, .d, .nw, .d, .d, .d, .d, .d, .d, .d, .d] (.sp 113 (ops [.d, .d, .d, .d, .d, .d, .d, .d] (.opx [0] [] ({y : Array Int // Sort.PermIn za.toNat ((w149.1.1 : Nat) : Int).toNat w149.1.2.2 y∧Sort.SortedIn Sort.ltInt za.toNat ((w149.1.1 : Nat) : Int).toNat y}) (fun w151 => (.tuple #[], [some (A0, .row (u32l w151.1 ++ T) 23 N)])) (fun w151 => y_1))) (ops [.d, .d, .d, .d, .d, .d, .nw, .d, .d] (.opx [0] [] ({y : Array Int // Sort.PermIn (((w149.1.1 : Nat) : Int) + 1).toNat zb.toNat w149.1.2.2 y∧Sort.SortedIn Sort.ltInt (((w149.1.1 : Nat) : Int) + 1).toNat zb.toNat y}) (fun w151 => (.tuple #[], [some (A0, .row (u32l w151.1 ++ T) 23 N)])) (fun w151 => y_2)))))))))))) .altn)) .altn)))))) .altn)))))) (by kernel_rfl)
    (⟨(nwI (by omega) (by omega)), ⟨fun h51 => (have := of_decide_eq_true h51;⟨(ins_ok A0 n cap N T E za zb R (by omega) hn (by omega) (by omega) (by omega)), altA (fun zw => (za, zb, zl, wb, wp, Sort.insertionSort Sort.ltInt E za.toNat zb.toNat, zw)) ⟨(show Sort.PermIn a.toNat b.toNat d (Sort.insertionSort Sort.ltInt E za.toNat zb.toNat)∧Sort.SortedIn Sort.ltInt a.toNat b.toNat (Sort.insertionSort Sort.ltInt E za.toNat zb.toNat) from (pdq_ins (G := fun F => Sort.PermIn a.toNat b.toNat d F∧Sort.SortedIn Sort.ltInt a.toNat b.toNat F) (by omega) (by omega) hI.2.2.2.2.2.2.2)), (by show _ = _;kernel_rfl), ⟨(by show _ = _;kernel_rfl), (by show _ = _;kernel_rfl), (by show _ = _;kernel_rfl)⟩⟩⟩), fun h51 => (have := of_decide_eq_false h51;⟨fun h52 => (have := eq_of_beq h52;⟨(hs_ok A0 n cap N T E za zb R (by omega) hn (by omega) (by omega) (by omega)), altA (fun zw => (za, zb, zl, wb, wp, Sort.heapSort Sort.ltInt E za.toNat zb.toNat, zw)) ⟨(show Sort.PermIn a.toNat b.toNat d (Sort.heapSort Sort.ltInt E za.toNat zb.toNat)∧Sort.SortedIn Sort.ltInt a.toNat b.toNat (Sort.heapSort Sort.ltInt E za.toNat zb.toNat) from (pdq_heap (G := fun F => Sort.PermIn a.toNat b.toNat d F∧Sort.SortedIn Sort.ltInt a.toNat b.toNat F) (by omega) (by omega) hI.2.2.2.2.2.2.2)), (by show _ = _;kernel_rfl), ⟨(by show _ = _;kernel_rfl), (by show _ = _;kernel_rfl), (by show _ = _;kernel_rfl)⟩⟩⟩), fun h52 => (have := ne_of_beq_false h52;⟨CT.of_wp_eq (VC := (let z0 : Sc := (.alt (Int×(Array Int)×NV) (fun zx => 0 ≤ zx.1∧zx.1 ≤ 4611686018427387904∧Sort.PermIn za.toNat zb.toNat E zx.2.1∧zx.2.1.size = n) (fun zx => (.normal, ⟨(slA A0 n cap::vi za::vi zb::vi zx.1::uns 4 (.bool wb::.bool wp::vi (zb - za)::urun u0 11 8 (vi zb::vi za::vi (zb - za)::vi (zb - za)::.bool false::urun u0 24 4 (vi zl::.bool false::urun u0 30 4 (.bool wb::urun zx.2.2 35 7 (urun u0 42 92 [])))))), [], [some (A0, .row (u32l zx.2.1 ++ T) 23 N)]⟩)) (fun _ => .altn) .altn);((!wb) = true → (GivesX Tryd.prog 75 [slA A0 n cap, vi za, vi zb] R [some (A0, .row (u32l E ++ T) 23 N)] ({y : Array Int // Sort.PermIn za.toNat zb.toNat E y}) (fun w54 => (.tuple #[], [some (A0, .row (u32l w54.1 ++ T) 23 N)])))∧∀ w54 : {y : Array Int // Sort.PermIn za.toNat zb.toNat E y}, (NW .i64 (zl - 1))∧altPost R z0 .normal ⟨(slA A0 n cap::vi za::vi zb::vi (zl - 1)::uns 4 (.bool wb::.bool wp::vi (zb - za)::urun u0 11 8 (vi zb::vi za::vi (zb - za)::vi (zb - za)::.bool false::urun u0 24 4 (vi zl::.bool false::urun u0 30 4 (.bool wb::.bool true::slA A0 n cap::vi za::vi zb::.tuple #[]::vi zl::vi (zl - 1)::urun u0 42 92 []))))), [], [some (A0, .row (u32l w54.1 ++ T) 23 N)]⟩ R)∧((!wb) = false → altPost R z0 .normal ⟨(slA A0 n cap::vi za::vi zb::vi zl::uns 4 (.bool wb::.bool wp::vi (zb - za)::urun u0 11 8 (vi zb::vi za::vi (zb - za)::vi (zb - za)::.bool false::urun u0 24 4 (vi zl::.bool false::urun u0 30 4 (.bool wb::.bool false::urun u0 36 98 []))))), [], [some (A0, .row (u32l E ++ T) 23 N)]⟩ R))) (.sp 35 (ops [.d, .d, .d] (.opx [0] [] ({y : Array Int // Sort.PermIn za.toNat zb.toNat E y}) (fun w54 => (.tuple #[], [some (A0, .row (u32l w54.1 ++ T) 23 N)])) (fun w54 => (ops [.d, .nw, .d] (.fin [] []))))) (.fin [] [])) (by kernel_rfl) (⟨fun h53 => ⟨(bp_ok A0 n cap N T E za zb R (by omega) hn (by omega) (by omega) (by omega)), fun w54 => ⟨(nwI (by omega) (by omega)), altA (fun zw => (zl - 1, w54.1, zw)) ⟨(show 0 ≤ (zl - 1)∧(zl - 1) ≤ 4611686018427387904∧Sort.PermIn za.toNat zb.toNat E w54.1∧w54.1.size = n from ⟨(by omega), (by omega), w54.2, (by rw [w54.2.1];exact hI.1)⟩), rfl, ⟨rfl, rfl, rfl⟩⟩⟩⟩, fun h53 => altA (fun zw => (zl, E, zw)) ⟨(show 0 ≤ zl∧zl ≤ 4611686018427387904∧Sort.PermIn za.toNat zb.toNat E E∧E.size = n from ⟨(by omega), (by omega), Sort.permIn_refl _ _ _, hI.1⟩), rfl, ⟨rfl, rfl, rfl⟩⟩⟩), ⟨fun x53 qx53 => ⟨(cp_ok A0 n cap N T x53.2.1 za zb R (by omega) hn (by omega) (by omega) (by omega)), fun w84 => (have h5 := w84.2;⟨CT.of_wp_eq (VC := (let z2 : Hp := [some (A0, .row (u32l (Sort.reverseRange x53.2.1 za.toNat zb.toNat) ++ T) 23 N)];let z1 : Array Value := #[vi w84.1.1, vi w84.1.2];let z0 : Sc := (.alt (Int×Int×(Array Int)×NV) (fun zx => za ≤ zx.1∧zx.1 < zb∧Sort.PermIn za.toNat zb.toNat E zx.2.2.1∧zx.2.2.1.size = n) (fun zx => (.normal, ⟨(slA A0 n cap::vi za::vi zb::vi x53.1::uns 4 (.bool wb::.bool wp::vi (zb - za)::vi zx.1::vi zx.2.1::urun u0 13 6 (vi zb::vi za::vi (zb - za)::vi (zb - za)::.bool false::urun u0 24 4 (vi zl::.bool false::urun u0 30 4 (.bool wb::urun x53.2.2 35 7 (.tuple z1::slA A0 n cap::vi za::vi zb::.tuple z1::vi w84.1.1::vi w84.1.2::vi w84.1.2::urun zx.2.2.2 50 11 (urun u0 61 73 []))))))), [], [some (A0, .row (u32l zx.2.2.1 ++ T) 23 N)]⟩)) (fun _ => .altn) .altn);((w84.1.2 == 2) = true → (Gives Tryd.prog 77 [slA A0 n cap, vi za, vi zb] R [some (A0, .row (u32l x53.2.1 ++ T) 23 N)] (.ret (.tuple #[])) z2)∧(NW .i64 (zb - 1))∧(NW .i64 (w84.1.1 - za))∧(NW .i64 ((zb - 1) - (w84.1.1 - za)))∧altPost R z0 .normal ⟨(slA A0 n cap::vi za::vi zb::vi x53.1::uns 4 (.bool wb::.bool wp::vi (zb - za)::vi ((zb - 1) - (w84.1.1 - za))::vi 1::urun u0 13 6 (vi zb::vi za::vi (zb - za)::vi (zb - za)::.bool false::urun u0 24 4 (vi zl::.bool false::urun u0 30 4 (.bool wb::urun x53.2.2 35 7 (.tuple z1::slA A0 n cap::vi za::vi zb::.tuple z1::vi w84.1.1::vi w84.1.2::vi w84.1.2::.bool true::slA A0 n cap::vi za::vi zb::.tuple #[]::vi zb::vi (zb - 1)::vi w84.1.1::vi za::vi (w84.1.1 - za)::vi ((zb - 1) - (w84.1.1 - za))::urun u0 61 73 [])))))), [], z2⟩ R)∧((w84.1.2 == 2) = false → altPost R z0 .normal ⟨(slA A0 n cap::vi za::vi zb::vi x53.1::uns 4 (.bool wb::.bool wp::vi (zb - za)::vi w84.1.1::vi w84.1.2::urun u0 13 6 (vi zb::vi za::vi (zb - za)::vi (zb - za)::.bool false::urun u0 24 4 (vi zl::.bool false::urun u0 30 4 (.bool wb::urun x53.2.2 35 7 (.tuple z1::slA A0 n cap::vi za::vi zb::.tuple z1::vi w84.1.1::vi w84.1.2::vi w84.1.2::.bool false::urun u0 51 83 [])))))), [], [some (A0, .row (u32l x53.2.1 ++ T) 23 N)]⟩ R))) (.sp 50 (ops [.d, .d, .d, .call0 [0] [] (fun e v => .ret (.tuple #[])) (fun e v => [some (A0, .row (u32l (Sort.reverseRange x53.2.1 za.toNat zb.toNat) ++ T) 23 N)]), .d, .nw, .d, .d, .nw, .nw, .d, .d] (.fin [] [])) (.fin [] [])) (by kernel_rfl) (⟨fun h85 => (have := eq_of_beq h85;⟨(rv_ok A0 n cap N T x53.2.1 za zb R (by omega) hn (by omega) (by omega) (by omega) (by omega)), ⟨(nwI (by omega) (by omega)), ⟨(nwI (by omega) (by omega)), ⟨(nwI (by omega) (by omega)), altA (fun zw => ((zb - 1) - (w84.1.1 - za), 1, Sort.reverseRange x53.2.1 za.toNat zb.toNat, zw)) ⟨(show za ≤ ((zb - 1) - (w84.1.1 - za))∧((zb - 1) - (w84.1.1 - za)) < zb∧Sort.PermIn za.toNat zb.toNat E (Sort.reverseRange x53.2.1 za.toNat zb.toNat)∧(Sort.reverseRange x53.2.1 za.toNat zb.toNat).size = n from ⟨(by omega), (by omega), (pdq_rev qx53.2.2.1 (by omega) (by omega)), (by rw [(pdq_rev qx53.2.2.1 (by omega) (by omega)).1];exact hI.1)⟩), rfl, ⟨rfl, rfl, rfl⟩⟩⟩⟩⟩⟩), fun h85 => (have := ne_of_beq_false h85;altA (fun zw => (w84.1.1, w84.1.2, x53.2.1, zw)) ⟨(show za ≤ w84.1.1∧w84.1.1 < zb∧Sort.PermIn za.toNat zb.toNat E x53.2.1∧x53.2.1.size = n from ⟨(by omega), (by omega), qx53.2.2.1, qx53.2.2.2⟩), rfl, ⟨rfl, rfl, rfl⟩⟩)⟩), ⟨fun x85 qx85 => ⟨CT.of_wp_eq (VC := (let z2 : Hp := [some (A0, .row (u32l x85.2.2.1 ++ T) 23 N)];let z1 : Array Value := #[vi w84.1.1, vi w84.1.2];let z0 : Sc := (.alt (Bool×NV) (fun zx => True) (fun zx => (.normal, ⟨(slA A0 n cap::vi za::vi zb::vi x53.1::uns 4 (.bool wb::.bool wp::vi (zb - za)::vi x85.1::vi x85.2.1::urun u0 13 6 (vi zb::vi za::vi (zb - za)::vi (zb - za)::.bool false::urun u0 24 4 (vi zl::.bool false::urun u0 30 4 (.bool wb::urun x53.2.2 35 7 (.tuple z1::slA A0 n cap::vi za::vi zb::.tuple z1::vi w84.1.1::vi w84.1.2::vi w84.1.2::urun x85.2.2.2 50 11 (urun zx.2 61 7 (.bool zx.1::urun u0 69 65 [])))))))), [], z2⟩)) (fun _ => .altn) .altn);((wb) = true → ((wp) = true → altPost R z0 .normal ⟨(slA A0 n cap::vi za::vi zb::vi x53.1::uns 4 (.bool wb::.bool wp::vi (zb - za)::vi x85.1::vi x85.2.1::urun u0 13 6 (vi zb::vi za::vi (zb - za)::vi (zb - za)::.bool false::urun u0 24 4 (vi zl::.bool false::urun u0 30 4 (.bool wb::urun x53.2.2 35 7 (.tuple z1::slA A0 n cap::vi za::vi zb::.tuple z1::vi w84.1.1::vi w84.1.2::vi w84.1.2::urun x85.2.2.2 50 11 (.bool wb::.bool true::.bool wp::.bool wp::.bool true::vi x85.2.1::.bool (x85.2.1 == 1)::.bool (x85.2.1 == 1)::urun u0 69 65 []))))))), [], z2⟩ R)∧((wp) = false → altPost R z0 .normal ⟨(slA A0 n cap::vi za::vi zb::vi x53.1::uns 4 (.bool wb::.bool wp::vi (zb - za)::vi x85.1::vi x85.2.1::urun u0 13 6 (vi zb::vi za::vi (zb - za)::vi (zb - za)::.bool false::urun u0 24 4 (vi zl::.bool false::urun u0 30 4 (.bool wb::urun x53.2.2 35 7 (.tuple z1::slA A0 n cap::vi za::vi zb::.tuple z1::vi w84.1.1::vi w84.1.2::vi w84.1.2::urun x85.2.2.2 50 11 (.bool wb::.bool true::.bool wp::.bool wp::.bool false::undef::undef::.bool false::urun u0 69 65 []))))))), [], z2⟩ R))∧((wb) = false → altPost R z0 .normal ⟨(slA A0 n cap::vi za::vi zb::vi x53.1::uns 4 (.bool wb::.bool wp::vi (zb - za)::vi x85.1::vi x85.2.1::urun u0 13 6 (vi zb::vi za::vi (zb - za)::vi (zb - za)::.bool false::urun u0 24 4 (vi zl::.bool false::urun u0 30 4 (.bool wb::urun x53.2.2 35 7 (.tuple z1::slA A0 n cap::vi za::vi zb::.tuple z1::vi w84.1.1::vi w84.1.2::vi w84.1.2::urun x85.2.2.2 50 11 (.bool wb::.bool false::undef::.bool false::.bool false::undef::undef::.bool false::urun u0 69 65 []))))))), [], z2⟩ R))) (ops [.d, .d] (.sp 62 (ops [.d, .d, .d] (.sp 65 (ops [.d, .d, .d] (.fin [] [])) (ops [.d] (.fin [] [])))) (ops [.d, .d, .d] (.fin [] [])))) (by kernel_rfl) (⟨fun h116 => ⟨fun h117 => altA (fun zw => (x85.2.1 == 1, zw)) ⟨(show True from trivial), rfl, ⟨rfl, rfl, rfl⟩⟩, fun h117 => altA (fun zw => (false, zw)) ⟨(show True from trivial), rfl, ⟨rfl, rfl, rfl⟩⟩⟩, fun h116 => altA (fun zw => (false, zw)) ⟨(show True from trivial), rfl, ⟨rfl, rfl, rfl⟩⟩⟩), ⟨fun x116 qx116 => ⟨fun h147 => ⟨(gives_nm (v := fun y : Array Int×Bool => .bool y.2) (h := fun y => [some (A0, .row (u32l y.1 ++ T) 23 N)]) (pi_ok A0 n cap N T x85.2.2.1 za zb R (by omega) hn (by omega) (by omega) (by omega))), fun w148 => (have h7 := ((pdq_pif qx85.2.2.1 hI.2.2.2.2.2.2.1 (by omega) (by omega) w148.2)).1;⟨fun h149 => altA (fun zw => (za, zb, x53.1, wb, wp, w148.1.1, zw)) ⟨(show Sort.PermIn a.toNat b.toNat d w148.1.1∧Sort.SortedIn Sort.ltInt a.toNat b.toNat w148.1.1 from (pdq_pi (G := fun F => Sort.PermIn a.toNat b.toNat d F∧Sort.SortedIn Sort.ltInt a.toNat b.toNat F) qx85.2.2.1 hI.2.2.2.2.2.2.1 (by omega) (by omega) hI.2.2.2.2.2.2.2 w148.2 h149)), (by show _ = _;kernel_rfl), ⟨(by show _ = _;kernel_rfl), (by show _ = _;kernel_rfl), (by show _ = _;kernel_rfl)⟩⟩, fun h149 => ⟨fun h150 => (have := of_decide_eq_true h150;⟨h150, ⟨(nwI (by omega) (by omega)), ⟨(by omega), ⟨(rdu (by omega)), ⟨(by omega), ⟨(rdu (by omega)), ⟨(less_ok (w148.1.1[Int.toNat (za - 1)]!) (w148.1.1[Int.toNat x85.1]!) R), ⟨fun h151 => ⟨(gives_nm (v := fun y : Nat×Array Int => .int .i64 ((y.1 : Nat) : Int)) (h := fun y => [some (A0, .row (u32l y.2 ++ T) 23 N)]) (pe_ok A0 n cap N T w148.1.1 za zb x85.1 R (by omega) hn (by omega) (by omega) (by omega) (by omega))), fun w152 => (have h9 := (pdq_eq (pdq_pif qx85.2.2.1 hI.2.2.2.2.2.2.1 (by omega) (by omega) w148.2) hI.2.2.2.2.2.2.1 (by omega) (by omega) (by omega) (by omega) (by rw [show Int.toNat za - 1 = Int.toNat (za - 1) by omega];exact (not_t h151)) hI.2.2.2.2.2.2.2 w152.2);LKn (fun zw => (((w152.1.1 : Nat) : Int), zb, x53.1, wb, wp, w152.1.2, zw)) ⟨⟨rfl, (show w152.1.2.size = n∧a ≤ ((w152.1.1 : Nat) : Int)∧((w152.1.1 : Nat) : Int) ≤ zb∧zb ≤ b∧0 ≤ x53.1∧x53.1 ≤ 4611686018427387904∧Sort.Below Sort.ltInt ((w152.1.1 : Nat) : Int).toNat zb.toNat w152.1.2∧∀ F, Sort.PermIn ((w152.1.1 : Nat) : Int).toNat zb.toNat w152.1.2 F → Sort.SortedIn Sort.ltInt ((w152.1.1 : Nat) : Int).toNat zb.toNat F → Sort.PermIn a.toNat b.toNat d F∧Sort.SortedIn Sort.ltInt a.toNat b.toNat F from ⟨h9.2.2.1.trans hI.1, (by omega), (by omega), (by omega), (by omega), (by omega), h9.2.2.2.1, h9.2.2.2.2⟩)⟩, (show Int.toNat (zb - ((w152.1.1 : Nat) : Int)) < Int.toNat (zb - za) from (by omega)), ⟨rfl, rfl, rfl⟩⟩)⟩, fun h151 => ⟨(gives_nm (v := fun y : Nat×Bool×Array Int => .tuple #[vi ((y.1 : Nat) : Int), .bool y.2.1]) (h := fun y => [some (A0, .row (u32l y.2.2 ++ T) 23 N)]) (pt_ok A0 n cap N T w148.1.1 za zb x85.1 R (by omega) hn (by omega) (by omega) (by omega) (by omega))), fun w152 => (have h9 := (pdq_part (pdq_pif qx85.2.2.1 hI.2.2.2.2.2.2.1 (by omega) (by omega) w148.2) hI.2.2.2.2.2.2.1 (by omega) (by omega) (by omega) hI.2.2.2.2.2.2.2 w152.2);⟨(nwI (by omega) (by omega)), ⟨(nwI (by omega) (by omega)), ⟨fun h153 => (have := of_decide_eq_true h153;⟨(ih za ((w152.1.1 : Nat) : Int) x53.1 w152.1.2.2 R (by omega) (by omega) (by omega) (by omega) (by omega) (by omega) (by omega) h9.2.2.2.1), fun w154 => (have h6 := w154.2.1.1;⟨(nwI (by omega) (by omega)), LKn (fun zw => (((w152.1.1 : Nat) : Int) + 1, zb, x53.1, decide ((((w152.1.1 : Nat) : Int) - za) ≥ (IntKind.i64.wrap (Int.tdiv (zb - za) 8))), w152.1.2.1, w154.1, zw)) ⟨⟨rfl, (show w154.1.size = n∧a ≤ (((w152.1.1 : Nat) : Int) + 1)∧(((w152.1.1 : Nat) : Int) + 1) ≤ zb∧zb ≤ b∧0 ≤ x53.1∧x53.1 ≤ 4611686018427387904∧Sort.Below Sort.ltInt (((w152.1.1 : Nat) : Int) + 1).toNat zb.toNat w154.1∧∀ F, Sort.PermIn (((w152.1.1 : Nat) : Int) + 1).toNat zb.toNat w154.1 F → Sort.SortedIn Sort.ltInt (((w152.1.1 : Nat) : Int) + 1).toNat zb.toNat F → Sort.PermIn a.toNat b.toNat d F∧Sort.SortedIn Sort.ltInt a.toNat b.toNat F from (by have h8 := h9.2.2.2.2.2.1 w154.1 w154.2.1 w154.2.2;exact ⟨(h6.trans h9.2.2.1).trans hI.1, (by omega), (by omega), (by omega), (by omega), (by omega), h8.1, h8.2⟩))⟩, (show Int.toNat (zb - (((w152.1.1 : Nat) : Int) + 1)) < Int.toNat (zb - za) from (by omega)), ⟨rfl, rfl, rfl⟩⟩⟩)⟩), fun h153 => (have := of_decide_eq_false h153;⟨(nwI (by omega) (by omega)), ⟨(ih (((w152.1.1 : Nat) : Int) + 1) zb x53.1 w152.1.2.2 R (by omega) (by omega) (by omega) (by omega) (by omega) (by omega) (by omega) h9.2.2.2.2.1), fun w154 => (have h6 := w154.2.1.1;LKn (fun zw => (za, ((w152.1.1 : Nat) : Int), x53.1, decide ((zb - ((w152.1.1 : Nat) : Int)) ≥ (IntKind.i64.wrap (Int.tdiv (zb - za) 8))), w152.1.2.1, w154.1, zw)) ⟨⟨rfl, (show w154.1.size = n∧a ≤ za∧za ≤ ((w152.1.1 : Nat) : Int)∧((w152.1.1 : Nat) : Int) ≤ b∧0 ≤ x53.1∧x53.1 ≤ 4611686018427387904∧Sort.Below Sort.ltInt za.toNat ((w152.1.1 : Nat) : Int).toNat w154.1∧∀ F, Sort.PermIn za.toNat ((w152.1.1 : Nat) : Int).toNat w154.1 F → Sort.SortedIn Sort.ltInt za.toNat ((w152.1.1 : Nat) : Int).toNat F → Sort.PermIn a.toNat b.toNat d F∧Sort.SortedIn Sort.ltInt a.toNat b.toNat F from (by have h8 := h9.2.2.2.2.2.2 w154.1 w154.2.1 w154.2.2;exact ⟨(h6.trans h9.2.2.1).trans hI.1, (by omega), (by omega), (by omega), (by omega), (by omega), h8.1, h8.2⟩))⟩, (show Int.toNat (((w152.1.1 : Nat) : Int) - za) < Int.toNat (zb - za) from (by omega)), ⟨rfl, rfl, rfl⟩⟩)⟩⟩)⟩⟩⟩)⟩⟩⟩⟩⟩⟩⟩⟩⟩), fun h150 => (have := of_decide_eq_false h150;⟨h150, ⟨(gives_nm (v := fun y : Nat×Bool×Array Int => .tuple #[vi ((y.1 : Nat) : Int), .bool y.2.1]) (h := fun y => [some (A0, .row (u32l y.2.2 ++ T) 23 N)]) (pt_ok A0 n cap N T w148.1.1 za zb x85.1 R (by omega) hn (by omega) (by omega) (by omega) (by omega))), fun w151 => (have h9 := (pdq_part (pdq_pif qx85.2.2.1 hI.2.2.2.2.2.2.1 (by omega) (by omega) w148.2) hI.2.2.2.2.2.2.1 (by omega) (by omega) (by omega) hI.2.2.2.2.2.2.2 w151.2);⟨(nwI (by omega) (by omega)), ⟨(nwI (by omega) (by omega)), ⟨fun h152 => (have := of_decide_eq_true h152;⟨(ih za ((w151.1.1 : Nat) : Int) x53.1 w151.1.2.2 R (by omega) (by omega) (by omega) (by omega) (by omega) (by omega) (by omega) h9.2.2.2.1), fun w153 => (have h6 := w153.2.1.1;⟨(nwI (by omega) (by omega)), LKn (fun zw => (((w151.1.1 : Nat) : Int) + 1, zb, x53.1, decide ((((w151.1.1 : Nat) : Int) - za) ≥ (IntKind.i64.wrap (Int.tdiv (zb - za) 8))), w151.1.2.1, w153.1, zw)) ⟨⟨rfl, (show w153.1.size = n∧a ≤ (((w151.1.1 : Nat) : Int) + 1)∧(((w151.1.1 : Nat) : Int) + 1) ≤ zb∧zb ≤ b∧0 ≤ x53.1∧x53.1 ≤ 4611686018427387904∧Sort.Below Sort.ltInt (((w151.1.1 : Nat) : Int) + 1).toNat zb.toNat w153.1∧∀ F, Sort.PermIn (((w151.1.1 : Nat) : Int) + 1).toNat zb.toNat w153.1 F → Sort.SortedIn Sort.ltInt (((w151.1.1 : Nat) : Int) + 1).toNat zb.toNat F → Sort.PermIn a.toNat b.toNat d F∧Sort.SortedIn Sort.ltInt a.toNat b.toNat F from (by have h8 := h9.2.2.2.2.2.1 w153.1 w153.2.1 w153.2.2;exact ⟨(h6.trans h9.2.2.1).trans hI.1, (by omega), (by omega), (by omega), (by omega), (by omega), h8.1, h8.2⟩))⟩, (show Int.toNat (zb - (((w151.1.1 : Nat) : Int) + 1)) < Int.toNat (zb - za) from (by omega)), ⟨rfl, rfl, rfl⟩⟩⟩)⟩), fun h152 => (have := of_decide_eq_false h152;⟨(nwI (by omega) (by omega)), ⟨(ih (((w151.1.1 : Nat) : Int) + 1) zb x53.1 w151.1.2.2 R (by omega) (by omega) (by omega) (by omega) (by omega) (by omega) (by omega) h9.2.2.2.2.1), fun w153 => (have h6 := w153.2.1.1;LKn (fun zw => (za, ((w151.1.1 : Nat) : Int), x53.1, decide ((zb - ((w151.1.1 : Nat) : Int)) ≥ (IntKind.i64.wrap (Int.tdiv (zb - za) 8))), w151.1.2.1, w153.1, zw)) ⟨⟨rfl, (show w153.1.size = n∧a ≤ za∧za ≤ ((w151.1.1 : Nat) : Int)∧((w151.1.1 : Nat) : Int) ≤ b∧0 ≤ x53.1∧x53.1 ≤ 4611686018427387904∧Sort.Below Sort.ltInt za.toNat ((w151.1.1 : Nat) : Int).toNat w153.1∧∀ F, Sort.PermIn za.toNat ((w151.1.1 : Nat) : Int).toNat w153.1 F → Sort.SortedIn Sort.ltInt za.toNat ((w151.1.1 : Nat) : Int).toNat F → Sort.PermIn a.toNat b.toNat d F∧Sort.SortedIn Sort.ltInt a.toNat b.toNat F from (by have h8 := h9.2.2.2.2.2.2 w153.1 w153.2.1 w153.2.2;exact ⟨(h6.trans h9.2.2.1).trans hI.1, (by omega), (by omega), (by omega), (by omega), (by omega), h8.1, h8.2⟩))⟩, (show Int.toNat (((w151.1.1 : Nat) : Int) - za) < Int.toNat (zb - za) from (by omega)), ⟨rfl, rfl, rfl⟩⟩)⟩⟩)⟩⟩⟩)⟩⟩)⟩⟩)⟩, fun h147 => ⟨fun h148 => (have := of_decide_eq_true h148;⟨h148, ⟨(nwI (by omega) (by omega)), ⟨(by omega), ⟨(rdu (by omega)), ⟨(by omega), ⟨(rdu (by omega)), ⟨(less_ok (x85.2.2.1[Int.toNat (za - 1)]!) (x85.2.2.1[Int.toNat x85.1]!) R), ⟨fun h149 => ⟨(gives_nm (v := fun y : Nat×Array Int => .int .i64 ((y.1 : Nat) : Int)) (h := fun y => [some (A0, .row (u32l y.2 ++ T) 23 N)]) (pe_ok A0 n cap N T x85.2.2.1 za zb x85.1 R (by omega) hn (by omega) (by omega) (by omega) (by omega))), fun w150 => (have h9 := (pdq_eq qx85.2.2.1 hI.2.2.2.2.2.2.1 (by omega) (by omega) (by omega) (by omega) (by rw [show Int.toNat za - 1 = Int.toNat (za - 1) by omega];exact (not_t h149)) hI.2.2.2.2.2.2.2 w150.2);LKn (fun zw => (((w150.1.1 : Nat) : Int), zb, x53.1, wb, wp, w150.1.2, zw)) ⟨⟨rfl, (show w150.1.2.size = n∧a ≤ ((w150.1.1 : Nat) : Int)∧((w150.1.1 : Nat) : Int) ≤ zb∧zb ≤ b∧0 ≤ x53.1∧x53.1 ≤ 4611686018427387904∧Sort.Below Sort.ltInt ((w150.1.1 : Nat) : Int).toNat zb.toNat w150.1.2∧∀ F, Sort.PermIn ((w150.1.1 : Nat) : Int).toNat zb.toNat w150.1.2 F → Sort.SortedIn Sort.ltInt ((w150.1.1 : Nat) : Int).toNat zb.toNat F → Sort.PermIn a.toNat b.toNat d F∧Sort.SortedIn Sort.ltInt a.toNat b.toNat F from ⟨h9.2.2.1.trans hI.1, (by omega), (by omega), (by omega), (by omega), (by omega), h9.2.2.2.1, h9.2.2.2.2⟩)⟩, (show Int.toNat (zb - ((w150.1.1 : Nat) : Int)) < Int.toNat (zb - za) from (by omega)), ⟨rfl, rfl, rfl⟩⟩)⟩, fun h149 => ⟨(gives_nm (v := fun y : Nat×Bool×Array Int => .tuple #[vi ((y.1 : Nat) : Int), .bool y.2.1]) (h := fun y => [some (A0, .row (u32l y.2.2 ++ T) 23 N)]) (pt_ok A0 n cap N T x85.2.2.1 za zb x85.1 R (by omega) hn (by omega) (by omega) (by omega) (by omega))), fun w150 => (have h9 := (pdq_part qx85.2.2.1 hI.2.2.2.2.2.2.1 (by omega) (by omega) (by omega) hI.2.2.2.2.2.2.2 w150.2);⟨(nwI (by omega) (by omega)), ⟨(nwI (by omega) (by omega)), ⟨fun h151 => (have := of_decide_eq_true h151;⟨(ih za ((w150.1.1 : Nat) : Int) x53.1 w150.1.2.2 R (by omega) (by omega) (by omega) (by omega) (by omega) (by omega) (by omega) h9.2.2.2.1), fun w152 => (have h6 := w152.2.1.1;⟨(nwI (by omega) (by omega)), LKn (fun zw => (((w150.1.1 : Nat) : Int) + 1, zb, x53.1, decide ((((w150.1.1 : Nat) : Int) - za) ≥ (IntKind.i64.wrap (Int.tdiv (zb - za) 8))), w150.1.2.1, w152.1, zw)) ⟨⟨rfl, (show w152.1.size = n∧a ≤ (((w150.1.1 : Nat) : Int) + 1)∧(((w150.1.1 : Nat) : Int) + 1) ≤ zb∧zb ≤ b∧0 ≤ x53.1∧x53.1 ≤ 4611686018427387904∧Sort.Below Sort.ltInt (((w150.1.1 : Nat) : Int) + 1).toNat zb.toNat w152.1∧∀ F, Sort.PermIn (((w150.1.1 : Nat) : Int) + 1).toNat zb.toNat w152.1 F → Sort.SortedIn Sort.ltInt (((w150.1.1 : Nat) : Int) + 1).toNat zb.toNat F → Sort.PermIn a.toNat b.toNat d F∧Sort.SortedIn Sort.ltInt a.toNat b.toNat F from (by have h8 := h9.2.2.2.2.2.1 w152.1 w152.2.1 w152.2.2;exact ⟨(h6.trans h9.2.2.1).trans hI.1, (by omega), (by omega), (by omega), (by omega), (by omega), h8.1, h8.2⟩))⟩, (show Int.toNat (zb - (((w150.1.1 : Nat) : Int) + 1)) < Int.toNat (zb - za) from (by omega)), ⟨rfl, rfl, rfl⟩⟩⟩)⟩), fun h151 => (have := of_decide_eq_false h151;⟨(nwI (by omega) (by omega)), ⟨(ih (((w150.1.1 : Nat) : Int) + 1) zb x53.1 w150.1.2.2 R (by omega) (by omega) (by omega) (by omega) (by omega) (by omega) (by omega) h9.2.2.2.2.1), fun w152 => (have h6 := w152.2.1.1;LKn (fun zw => (za, ((w150.1.1 : Nat) : Int), x53.1, decide ((zb - ((w150.1.1 : Nat) : Int)) ≥ (IntKind.i64.wrap (Int.tdiv (zb - za) 8))), w150.1.2.1, w152.1, zw)) ⟨⟨rfl, (show w152.1.size = n∧a ≤ za∧za ≤ ((w150.1.1 : Nat) : Int)∧((w150.1.1 : Nat) : Int) ≤ b∧0 ≤ x53.1∧x53.1 ≤ 4611686018427387904∧Sort.Below Sort.ltInt za.toNat ((w150.1.1 : Nat) : Int).toNat w152.1∧∀ F, Sort.PermIn za.toNat ((w150.1.1 : Nat) : Int).toNat w152.1 F → Sort.SortedIn Sort.ltInt za.toNat ((w150.1.1 : Nat) : Int).toNat F → Sort.PermIn a.toNat b.toNat d F∧Sort.SortedIn Sort.ltInt a.toNat b.toNat F from (by have h8 := h9.2.2.2.2.2.2 w152.1 w152.2.1 w152.2.2;exact ⟨(h6.trans h9.2.2.1).trans hI.1, (by omega), (by omega), (by omega), (by omega), (by omega), h8.1, h8.2⟩))⟩, (show Int.toNat (((w150.1.1 : Nat) : Int) - za) < Int.toNat (zb - za) from (by omega)), ⟨rfl, rfl, rfl⟩⟩)⟩⟩)⟩⟩⟩)⟩⟩⟩⟩⟩⟩⟩⟩⟩), fun h148 => (have := of_decide_eq_false h148;⟨h148, ⟨(gives_nm (v := fun y : Nat×Bool×Array Int => .tuple #[vi ((y.1 : Nat) : Int), .bool y.2.1]) (h := fun y => [some (A0, .row (u32l y.2.2 ++ T) 23 N)]) (pt_ok A0 n cap N T x85.2.2.1 za zb x85.1 R (by omega) hn (by omega) (by omega) (by omega) (by omega))), fun w149 => (have h9 := (pdq_part qx85.2.2.1 hI.2.2.2.2.2.2.1 (by omega) (by omega) (by omega) hI.2.2.2.2.2.2.2 w149.2);⟨(nwI (by omega) (by omega)), ⟨(nwI (by omega) (by omega)), ⟨fun h150 => (have := of_decide_eq_true h150;⟨(ih za ((w149.1.1 : Nat) : Int) x53.1 w149.1.2.2 R (by omega) (by omega) (by omega) (by omega) (by omega) (by omega) (by omega) h9.2.2.2.1), fun w151 => (have h6 := w151.2.1.1;⟨(nwI (by omega) (by omega)), LKn (fun zw => (((w149.1.1 : Nat) : Int) + 1, zb, x53.1, decide ((((w149.1.1 : Nat) : Int) - za) ≥ (IntKind.i64.wrap (Int.tdiv (zb - za) 8))), w149.1.2.1, w151.1, zw)) ⟨⟨rfl, (show w151.1.size = n∧a ≤ (((w149.1.1 : Nat) : Int) + 1)∧(((w149.1.1 : Nat) : Int) + 1) ≤ zb∧zb ≤ b∧0 ≤ x53.1∧x53.1 ≤ 4611686018427387904∧Sort.Below Sort.ltInt (((w149.1.1 : Nat) : Int) + 1).toNat zb.toNat w151.1∧∀ F, Sort.PermIn (((w149.1.1 : Nat) : Int) + 1).toNat zb.toNat w151.1 F → Sort.SortedIn Sort.ltInt (((w149.1.1 : Nat) : Int) + 1).toNat zb.toNat F → Sort.PermIn a.toNat b.toNat d F∧Sort.SortedIn Sort.ltInt a.toNat b.toNat F from (by have h8 := h9.2.2.2.2.2.1 w151.1 w151.2.1 w151.2.2;exact ⟨(h6.trans h9.2.2.1).trans hI.1, (by omega), (by omega), (by omega), (by omega), (by omega), h8.1, h8.2⟩))⟩, (show Int.toNat (zb - (((w149.1.1 : Nat) : Int) + 1)) < Int.toNat (zb - za) from (by omega)), ⟨rfl, rfl, rfl⟩⟩⟩)⟩), fun h150 => (have := of_decide_eq_false h150;⟨(nwI (by omega) (by omega)), ⟨(ih (((w149.1.1 : Nat) : Int) + 1) zb x53.1 w149.1.2.2 R (by omega) (by omega) (by omega) (by omega) (by omega) (by omega) (by omega) h9.2.2.2.2.1), fun w151 => (have h6 := w151.2.1.1;LKn (fun zw => (za, ((w149.1.1 : Nat) : Int), x53.1, decide ((zb - ((w149.1.1 : Nat) : Int)) ≥ (IntKind.i64.wrap (Int.tdiv (zb - za) 8))), w149.1.2.1, w151.1, zw)) ⟨⟨rfl, (show w151.1.size = n∧a ≤ za∧za ≤ ((w149.1.1 : Nat) : Int)∧((w149.1.1 : Nat) : Int) ≤ b∧0 ≤ x53.1∧x53.1 ≤ 4611686018427387904∧Sort.Below Sort.ltInt za.toNat ((w149.1.1 : Nat) : Int).toNat w151.1∧∀ F, Sort.PermIn za.toNat ((w149.1.1 : Nat) : Int).toNat w151.1 F → Sort.SortedIn Sort.ltInt za.toNat ((w149.1.1 : Nat) : Int).toNat F → Sort.PermIn a.toNat b.toNat d F∧Sort.SortedIn Sort.ltInt a.toNat b.toNat F from (by have h8 := h9.2.2.2.2.2.2 w151.1 w151.2.1 w151.2.2;exact ⟨(h6.trans h9.2.2.1).trans hI.1, (by omega), (by omega), (by omega), (by omega), (by omega), h8.1, h8.2⟩))⟩, (show Int.toNat (((w149.1.1 : Nat) : Int) - za) < Int.toNat (zb - za) from (by omega)), ⟨rfl, rfl, rfl⟩⟩)⟩⟩)⟩⟩⟩)⟩⟩)⟩⟩, trivial⟩⟩, trivial⟩⟩)⟩, trivial⟩⟩)⟩)⟩⟩)
theorem pq_ok_L2_ct (A0 n cap N : Nat) (T : List Value) (d : Array Int) (a b l : Int)  (R : RO) (hd : d.size = n) (hn : n ≤ 1152921504606846976) (ha : 0 ≤ a) (hab : a ≤ b) (hb : b ≤ (n : Int)) (hl : 0 ≤ l) (hl2 : l ≤ 4611686018427387904) (hB : Sort.Below Sort.ltInt a.toNat b.toNat d) (ih : ∀ (a2 b2 l2 : Int) (e2 : Array Int) (R : RO), Int.toNat (b2 - a2) < Int.toNat (b - a) → e2.size = n → 0 ≤ a2 → a2 ≤ b2 → b2 ≤ (n : Int) → 0 ≤ l2 → l2 ≤ 4611686018427387904 → Sort.Below Sort.ltInt a2.toNat b2.toNat e2 → GivesX Tryd.prog 69 [slA A0 n cap, vi a2, vi b2, vi l2] R [some (A0, .row (u32l e2 ++ T) 23 N)] ({y : Array Int // Sort.PermIn a2.toNat b2.toNat e2 y∧Sort.SortedIn Sort.ltInt a2.toNat b2.toNat y}) (fun y => (.tuple #[], [some (A0, .row (u32l y.1 ++ T) 23 N)])))  : CT Tryd.prog (sub (bodyOf Tryd.f69) [1, 1, 0]) ⟨(slA A0 n cap::vi a::vi b::vi l::uns 4 (.bool true::.bool true::uns 124 [])), [], [some (A0, .row (u32l d ++ T) 23 N)]⟩ R (pq_ok_L2_K A0 n cap N T d a b l R) :=
  CT.loop_eqs (pq_ok_L2_inv A0 n cap N T d a b l) (pq_ok_L2_I A0 n cap N T d a b l R) (pq_ok_L2_mu A0 n cap N T d a b l) (fun zw => (a, b, l, true, true, d, zw)) (by kernel_rfl) (by kernel_rfl) ⟨rfl, (show d.size = n∧a ≤ a∧a ≤ b∧b ≤ b∧0 ≤ l∧l ≤ 4611686018427387904∧Sort.Below Sort.ltInt a.toNat b.toNat d∧∀ F, Sort.PermIn a.toNat b.toNat d F → Sort.SortedIn Sort.ltInt a.toNat b.toNat F → Sort.PermIn a.toNat b.toNat d F∧Sort.SortedIn Sort.ltInt a.toNat b.toNat F from ⟨hd, by omega, hab, by omega, hl, hl2, hB, fun F hF hS => ⟨hF, hS⟩⟩)⟩
    (by
      rintro ⟨za, zb, zl, wb, wp, E, u0⟩ G hG ⟨rfl, hI⟩
      exact pq_ok_L2_body A0 n cap N T d a b l _ hd hn ha hab hb hl hl2 hB ih za zb zl wb wp E u0 hI)
theorem pq_ok (A0 n cap N : Nat) (T : List Value) (d : Array Int) (a b l : Int) (R : RO) (hd : d.size = n) (hn : n ≤ 1152921504606846976) (ha : 0 ≤ a) (hab : a ≤ b) (hb : b ≤ (n : Int)) (hl : 0 ≤ l) (hl2 : l ≤ 4611686018427387904) (hB : Sort.Below Sort.ltInt a.toNat b.toNat d) (ih : ∀ (a2 b2 l2 : Int) (e2 : Array Int) (R : RO), Int.toNat (b2 - a2) < Int.toNat (b - a) → e2.size = n → 0 ≤ a2 → a2 ≤ b2 → b2 ≤ (n : Int) → 0 ≤ l2 → l2 ≤ 4611686018427387904 → Sort.Below Sort.ltInt a2.toNat b2.toNat e2 → GivesX Tryd.prog 69 [slA A0 n cap, vi a2, vi b2, vi l2] R [some (A0, .row (u32l e2 ++ T) 23 N)] ({y : Array Int // Sort.PermIn a2.toNat b2.toNat e2 y∧Sort.SortedIn Sort.ltInt a2.toNat b2.toNat y}) (fun y => (.tuple #[], [some (A0, .row (u32l y.1 ++ T) 23 N)]))) : GivesX Tryd.prog 69 [slA A0 n cap, vi a, vi b, vi l] R [some (A0, .row (u32l d ++ T) 23 N)] ({y : Array Int // Sort.PermIn a.toNat b.toNat d y∧Sort.SortedIn Sort.ltInt a.toNat b.toNat y}) (fun y => (.tuple #[], [some (A0, .row (u32l y.1 ++ T) 23 N)])) :=
  Does.of_wp_eq (VC := ((CT Tryd.prog (sub (bodyOf Tryd.f69) [1, 1, 0]) ⟨(slA A0 n cap::vi a::vi b::vi l::uns 4 (.bool true::.bool true::uns 124 [])), [], [some (A0, .row (u32l d ++ T) 23 N)]⟩ R (pq_ok_L2_K A0 n cap N T d a b l R))∧(∀ x1 : Int×Int×Int×Bool×Bool×(Array Int)×NV, (Sort.PermIn a.toNat b.toNat d x1.2.2.2.2.2.1∧Sort.SortedIn Sort.ltInt a.toNat b.toNat x1.2.2.2.2.2.1) → GX R ({y : Array Int // Sort.PermIn a.toNat b.toNat d y∧Sort.SortedIn Sort.ltInt a.toNat b.toNat y}) (fun y => (.tuple #[], [some (A0, .row (u32l y.1 ++ T) 23 N)])) (.ret (.tuple #[])) R [some (A0, .row (u32l x1.2.2.2.2.2.1 ++ T) 23 N)])∧True)) (ops [.d, .d] (.alt (Int×Int×Int×Bool×Bool×(Array Int)×NV) (fun zx => Sort.PermIn a.toNat b.toNat d zx.2.2.2.2.2.1∧Sort.SortedIn Sort.ltInt a.toNat b.toNat zx.2.2.2.2.2.1) (fun zx => (.ret, ((pq_ok_L2_inv A0 n cap N T d a b l zx).up [] [some (A0, .row (u32l zx.2.2.2.2.2.1 ++ T) 23 N)]))) (fun x1 => (.fin [0] [])) .altn)) Tryd.func69 (by kernel_rfl) (by kernel_rfl)
    (⟨pq_ok_L2_ct A0 n cap N T d a b l R hd hn ha hab hb hl hl2 hB ih, ⟨fun x1 qx1 => ⟨rfl, ⟨x1.2.2.2.2.2.1, qx1⟩, (by rfl), (by rfl)⟩, trivial⟩⟩)
theorem pq_all (A0 n cap N : Nat) (T : List Value) (hn : n ≤ 1152921504606846976) : ∀ (k : Nat) (a2 b2 l2 : Int) (e2 : Array Int) (R : RO), Int.toNat (b2 - a2) = k → e2.size = n → 0 ≤ a2 → a2 ≤ b2 → b2 ≤ (n : Int) → 0 ≤ l2 → l2 ≤ 4611686018427387904 → Sort.Below Sort.ltInt a2.toNat b2.toNat e2 → GivesX Tryd.prog 69 [slA A0 n cap, vi a2, vi b2, vi l2] R [some (A0, .row (u32l e2 ++ T) 23 N)] ({y : Array Int // Sort.PermIn a2.toNat b2.toNat e2 y∧Sort.SortedIn Sort.ltInt a2.toNat b2.toNat y}) (fun y => (.tuple #[], [some (A0, .row (u32l y.1 ++ T) 23 N)])) := by
  intro k
  induction k using Nat.strongRecOn with
  | _ k ih =>
    intro a2 b2 l2 e2 R hk hd ha hab hb hl hl2 hB
    exact pq_ok A0 n cap N T e2 a2 b2 l2 R hd hn ha hab hb hl hl2 hB (fun a3 b3 l3 e3 R3 hlt => ih _ (hk ▸ hlt) a3 b3 l3 e3 R3 rfl)
def sortA (d : Array Int) : Array Int := (d.toList.mergeSort (fun x y => decide (x ≤ y))).toArray
theorem sort_eq {d y : Array Int} {n : Nat} (hn : d.size = n) (h : Sort.PermIn (Int.toNat 0) (n : Int).toNat d y∧Sort.SortedIn Sort.ltInt (Int.toNat 0) (n : Int).toNat y) : y = sortA d := by
  subst hn
  have h1 := Sort.sorted_unique_holds (lt := Sort.ltInt) Sort.swo_ltInt (fun x y h1 h2 => by simp only [lt_dec, decide_eq_false_iff_not] at h1 h2;omega) d y h.1 h.2
  have h2 : (fun x y : Int => !Sort.ltInt y x) = fun x y => decide (x ≤ y) := by
    funext x y
    rw [lt_dec]
    by_cases h : x ≤ y
    · rw [decide_eq_true h, decide_eq_false (by omega)];rfl
    · rw [decide_eq_false h, decide_eq_true (by omega)];rfl
  rw [h2] at h1
  apply Array.ext'
  rw [h1];rfl
theorem sort_ok (A0 n cap N : Nat) (T : List Value) (d : Array Int) (R : RO) (hd : d.size = n) (hn : n ≤ 1152921504606846976) : Gives Tryd.prog 59 [slA A0 n cap] R [some (A0, .row (u32l d ++ T) 23 N)] (.ret (.tuple #[])) [some (A0, .row (u32l (sortA d) ++ T) 23 N)] :=
  Does.of_wp_eq (VC := ((Gives Tryd.prog 70 [.int .u64 (IntKind.u64.wrap (n : Int))] R [] (.ret (vi ((Sort.bitsLen (IntKind.u64.wrap (n : Int)).toNat : Nat) : Int))) [])∧(GivesX Tryd.prog 69 [slA A0 n cap, vi 0, vi (n : Int), vi ((Sort.bitsLen (IntKind.u64.wrap (n : Int)).toNat : Nat) : Int)] R [some (A0, .row (u32l d ++ T) 23 N)] ({y : Array Int // Sort.PermIn (Int.toNat 0) (n : Int).toNat d y∧Sort.SortedIn Sort.ltInt (Int.toNat 0) (n : Int).toNat y}) (fun w0 => (.tuple #[], [some (A0, .row (u32l w0.1 ++ T) 23 N)])))∧∀ w0 : {y : Array Int // Sort.PermIn (Int.toNat 0) (n : Int).toNat d y∧Sort.SortedIn Sort.ltInt (Int.toNat 0) (n : Int).toNat y}, GQ R (.ret (.tuple #[])) [some (A0, .row (u32l (sortA d) ++ T) 23 N)] (.ret (.tuple #[])) R [some (A0, .row (u32l w0.1 ++ T) 23 N)])) (ops [.d, .d, .d, .d, .d, .d, .d, .call0 [] [] (fun e v => .ret (vi ((Sort.bitsLen (IntKind.u64.wrap (n : Int)).toNat : Nat) : Int))) (fun e v => [])] (.opx [0] [] ({y : Array Int // Sort.PermIn (Int.toNat 0) (n : Int).toNat d y∧Sort.SortedIn Sort.ltInt (Int.toNat 0) (n : Int).toNat y}) (fun w0 => (.tuple #[], [some (A0, .row (u32l w0.1 ++ T) 23 N)])) (fun w0 => (.fin [0] [])))) Tryd.func59 (by kernel_rfl) (by kernel_rfl)
    (⟨(len_ok (IntKind.u64.wrap (n : Int)) R (wrap64_le _)), ⟨(pq_all A0 n cap N T hn _ 0 (n : Int) ((Sort.bitsLen (IntKind.u64.wrap (n : Int)).toNat : Nat) : Int) d R rfl hd (by omega) (by omega) (by omega) (by omega) (by have := (Sort.bitsLen_le_iff (IntKind.u64.wrap (n : Int)).toNat 64).2 (by have := wrap64_le (n : Int);omega);omega) (Or.inl rfl)), fun w0 => ⟨rfl, (by rfl), (by rw [sort_eq hd w0.2])⟩⟩⟩)
theorem ins_nil (cap : Nat) (R : RO)  : Gives Tryd.prog 73 [.slice none 0 cap, vi 0, vi 0] R [] (.ret (.tuple #[])) [] :=
  Does.of_wp_eq (VC := (GQ R (.ret (.tuple #[])) [] (.ret (.tuple #[])) R [])) (ops [.d, .d, .d] (.un 1 (ops [.d, .d, .d] (.fin [] [])))) Tryd.func73 (by kernel_rfl) (by kernel_rfl)
    (⟨rfl, (by rfl), (by rfl)⟩)
theorem pq_nil (cap : Nat) (l : Int) (R : RO)  : Gives Tryd.prog 69 [.slice none 0 cap, vi 0, vi 0, vi l] R [] (.ret (.tuple #[])) [] :=
  Does.of_wp_eq (VC := ((Gives Tryd.prog 73 [.slice none 0 cap, vi 0, vi 0] R [] (.ret (.tuple #[])) [])∧GQ R (.ret (.tuple #[])) [] (.ret (.tuple #[])) R [])) (ops [.d, .d] (.un 1 (ops [.d, .d, .d, .d, .d, .d, .d, .d, .d, .call0 [] [] (fun e v => .ret (.tuple #[])) (fun e v => [])] (.fin [] [])))) Tryd.func69 (by kernel_rfl) (by kernel_rfl)
    (⟨(ins_nil cap R), ⟨rfl, (by rfl), (by rfl)⟩⟩)
theorem sort_nil (cap : Nat) (R : RO)  : Gives Tryd.prog 59 [.slice none 0 cap] R [] (.ret (.tuple #[])) [] :=
  Does.of_wp_eq (VC := ((Gives Tryd.prog 70 [.int .u64 0] R [] (.ret (vi ((Sort.bitsLen (Int.toNat 0) : Nat) : Int))) [])∧(Gives Tryd.prog 69 [.slice none 0 cap, vi 0, vi 0, vi ((Sort.bitsLen (Int.toNat 0) : Nat) : Int)] R [] (.ret (.tuple #[])) [])∧GQ R (.ret (.tuple #[])) [] (.ret (.tuple #[])) R [])) (ops [.d, .d, .d, .d, .d, .d, .d, .call0 [] [] (fun e v => .ret (vi ((Sort.bitsLen (Int.toNat 0) : Nat) : Int))) (fun e v => []), .call0 [] [] (fun e v => .ret (.tuple #[])) (fun e v => [])] (.fin [] [])) Tryd.func59 (by kernel_rfl) (by kernel_rfl)
    (⟨(len_ok 0 R (by omega)), ⟨(pq_nil cap ((Sort.bitsLen (Int.toNat 0) : Nat) : Int) R), ⟨rfl, (by rfl), (by rfl)⟩⟩⟩)
end Go.Proofs.YtehbmooelcjfoaaDoor
set_option linter.unusedVariables false
set_option linter.unusedSimpArgs false
namespace Vc
open Go
theorem Sat.congr_at {w : World} {R : RO} {H H' : Hp} (h : Sat w R H) (he : ∀ i, H'.at i = H.at i) : Sat w R H' :=
  ⟨h.ro, fun i a B hi => h.own i a B (by rw [← he];exact hi), fun i a B hi => h.off i a B (by rw [← he];exact hi), fun i j a B C hi hj => h.one i j a B C (by rw [← he];exact hi) (by rw [← he];exact hj), h.os, h.tape, h.out⟩
def RO.with (R : RO) (b : Nat) (o : Obj) : RO := ⟨fun k => if k = b then some o else R.mem k, R.os, R.tape, R.out⟩
def RO.less (R : RO) (b : Nat) : RO := ⟨fun k => if k = b then none else R.mem k, R.os, R.tape, R.out⟩
theorem RO.with_same (R : RO) (b : Nat) (o : Obj) : (R.with b o).mem b = some o := by simp [RO.with]
theorem RO.with_ne (R : RO) {b k : Nat} (o : Obj) (h : k ≠ b) : (R.with b o).mem k = R.mem k := by simp [RO.with, h]
theorem RO.less_ne (R : RO) {b k : Nat} (h : k ≠ b) : (R.less b).mem k = R.mem k := by simp [RO.less, h]
theorem Sat.alloc {w : World} {R : RO} {H : Hp} (h : Sat w R H) (o : Obj) : Sat (w.alloc o) (R.with w.heap.size o) H := by
  have keep : ∀ b, b < w.heap.size → (w.alloc o).heap[b]? = w.heap[b]? := fun b hb => by
    show (w.heap.push o)[b]? = _
    rw [Array.getElem?_push];simp [show b ≠ w.heap.size by omega]
  have lt : ∀ b x, R.mem b = some x → b < w.heap.size := fun b x hb => (Array.getElem?_eq_some_iff.1 (h.ro b x hb)).1
  refine ⟨fun b x hb => ?_, fun i a B hi => ?_, fun i a B hi => ?_, h.one, h.os, h.tape, h.out⟩
  · by_cases he : b = w.heap.size
    · subst he
      rw [RO.with_same] at hb
      cases hb
      exact World.alloc_heap_new w o
    · rw [RO.with_ne R o he] at hb
      rw [keep b (lt b x hb)];exact h.ro b x hb
  · have := h.own i a B hi
    exact Blk.at_heap this (keep a (Blk.at_lt this))
  · have := Blk.at_lt (h.own i a B hi)
    rw [RO.with_ne R o (by omega)];exact h.off i a B hi
theorem Sat.put {w : World} {R : RO} {H : Hp} {b : Nat} {x : Obj} (o : Obj) (h : Sat w R H) (hb : R.mem b = some x) : Sat (w.putObj b o) (R.less b) H := by
  refine ⟨fun k y hk => ?_, fun i a B hi => ?_, fun i a B hi => ?_, h.one, h.os, h.tape, h.out⟩
  · by_cases he : k = b
    · subst he;simp [RO.less] at hk
    · rw [RO.less_ne R he] at hk
      rw [World.putObj_heap_other he];exact h.ro k y hk
  · have hne : a ≠ b := fun he => by subst he;rw [h.off i a B hi] at hb;cases hb
    exact Blk.at_heap (h.own i a B hi) (World.putObj_heap_other hne)
  · have := h.off i a B hi
    by_cases he : a = b
    · subst he;simp [RO.less]
    · rw [RO.less_ne R he];exact this
theorem RO.none_of_le {R Rx : RO} (h : R.le Rx) {b : Nat} (hb : Rx.mem b = none) : R.mem b = none := by
  cases hr : R.mem b with
  | none => rfl
  | some o => rw [h.mem b o hr] at hb;cases hb
section
variable {P : Program}
def rgO : Code → Operand
  | .rangeFunc g _ _ _ => g
  | _ => .tmp 0
def rgP : Code → Array Tmp
  | .rangeFunc _ ps _ _ => ps
  | _ => #[]
def rgA : Code → Code
  | .rangeFunc _ _ a _ => a
  | c => c
def rgB : Code → Code
  | .rangeFunc _ _ _ b => b
  | c => c
variable (P)
def FinM (fn : Func) (Q : Out → RO → Hp → Prop) (R0 : RO) : Exit' → St → RO → Sc → Prop
  | .normal, s, G, .fin keep rp => match s.df, nodupN keep with
    | [⟨.collected r, _⟩], true => (G.mem r = some (.deferred (some []))∧R0.mem r = none∧R0.le G)∧resK P fn.results.toList rp s [] fun vs => Q (.ret (tupV vs)) R0 (keep.map s.hp.at)
    | _, _ => False
  | .ret, s, G, .fin keep rp => match s.df, nodupN keep with
    | [⟨.collected r, _⟩], true => (G.mem r = some (.deferred (some []))∧R0.mem r = none∧R0.le G)∧resK P fn.results.toList rp s [] fun vs => Q (.ret (tupV vs)) R0 (keep.map s.hp.at)
    | _, _ => False
  | _, _, _, _ => False
variable {P}
theorem Does.of_wpm {f : FuncId} {fn : Func} {args : List Value} {R : RO} {H : Hp} {Q : Out → RO → Hp → Prop} (sc : Sc)
    (hf : P.funcs[f]? = some fn) (hb : fn.body = some (fn.body.getD .skip)) (h : wp P (fn.body.getD .skip) (entry fn args H) R sc (FinM P fn Q R)) : Does P f args R H Q := by
  intro Rx w hR hs
  refine (callsIn_wide (n := 0)).1 (callsIn_of_wp_marks hf hb trivial ((wpIn_wide (n := 0)).2 ?_))
  have := wp_sound _ _ _ _ _ h Rx w hR hs
  have ha : (entry fn args H).act = { tmps := args.toArray ++ Array.replicate (fn.ntmps - args.toArray.size) undef, defers := [] } := by
    simp [entry, St.act]
  rw [ha] at this
  refine wp_mono this ?_
  rintro e a w' ⟨e', s, G, Rx', rfl, rfl, ⟨sc, hk⟩, hx, hs'⟩
  have key : (match s.df, sc with
      | [⟨.collected r, _⟩], .fin keep rp => nodupN keep = true∧(G.mem r = some (.deferred (some []))∧R.mem r = none∧R.le G)∧resK P fn.results.toList rp s [] fun vs => Q (.ret (tupV vs)) R (keep.map s.hp.at)
      | _, _ => False) → LeavesInM Fence.wide 0 P fn s.act.tmps (fun e w' => ∃ o G H' Rx', e = Out.fin o∧Q o G H'∧Ext R Rx G Rx'∧Sat w' Rx' H') s.act.defers .returning w' := by
    intro h
    split at h
    · rename_i r ar keep rp hk' hdf
      obtain ⟨h0, ⟨h1, h2, h3⟩, h4⟩ := h
      have hxr : Rx.mem r = none := (hx.own r (by rw [h1];simp)).resolve_left (fun hn => hn h2)
      have hr := hx.leg.mem _ _ h1
      show LeavesInM Fence.wide 0 P fn s.tm.toArray _ s.df .returning w'
      rw [hdf]
      refine ⟨by simp, .inl ⟨r, _, rfl, run_takeDeferred (hs'.ro _ _ hr), ?_⟩⟩
      have hs2 := hs'.put (.deferred none) hr
      obtain ⟨vs, g1, g2⟩ := resK_sound hs2 _ _ _ _ h4
      refine ⟨_, results_run g1, .ret (tupV vs), R, keep.map s.hp.at, _, rfl, by simpa using g2, ?_, hs2.keep (nodupN_spec h0)⟩
      refine ⟨R.le_refl, ⟨fun b o hb => ?_, hx.lex.os, hx.lex.tape, hx.lex.out⟩, ⟨fun b o hb => ?_, hx.lex.os.trans hR.os, hx.lex.tape.trans hR.tape, hx.lex.out.trans hR.out⟩, fun b hb => .inl hb⟩
      · rw [RO.less_ne _ (fun he => by subst he;rw [hxr] at hb;cases hb)];exact hx.lex.mem b o hb
      · rw [RO.less_ne _ (fun he => by subst he;rw [h2] at hb;cases hb)];exact hx.lex.mem b o (hR.mem b o hb)
    · exact h.elim
  cases e' with
  | normal =>
    refine key ?_
    unfold FinM at hk
    cases sc <;> simp only at hk <;> try exact hk.elim
    split at hk
    · rename_i r ar h1 h2;simp only [h1];exact ⟨h2, hk⟩
    · exact hk.elim
  | ret =>
    refine key ?_
    unfold FinM at hk
    cases sc <;> simp only at hk <;> try exact hk.elim
    split at hk
    · rename_i r ar h1 h2;simp only [h1];exact ⟨h2, hk⟩
    · exact hk.elim
  | panic v => unfold FinM at hk;cases sc <;> exact hk.elim
  | exit i => unfold FinM at hk;cases sc <;> exact hk.elim
  | goto i => unfold FinM at hk;cases sc <;> exact hk.elim
theorem Does.of_wpm_eq {f : FuncId} {fn : Func} {args : List Value} {R : RO} {H : Hp} {Q : Out → RO → Hp → Prop} {VC : Prop} (sc : Sc)
    (hf : P.funcs[f]? = some fn) (hb : fn.body = some (fn.body.getD .skip)) (he : wp P (fn.body.getD .skip) (entry fn args H) R sc (FinM P fn Q R) = VC) (h : VC) : Does P f args R H Q :=
  Does.of_wpm sc hf hb (he ▸ h)
end
end Vc
set_option linter.unusedVariables false
set_option linter.unusedSimpArgs false
namespace Vc
open Go
def rf (ro : Option Nat) : Fence := { Fence.wide with round := ro }
section
variable {P : Program}
theorem opIn {o : Oper} {a : Act} {w : World} {next : Act → World → Prop} {Q : Exit → Act → World → Prop} {ro : Option Nat} (hd : ro = none ∨ ∀ c, o.op ≠ .defer c)
    (h : o.wp P a w next Q) : o.wpIn (rf ro) 0 P a w next Q := by
  refine ⟨fun _ _ => trivial, ?_⟩
  have he : o.semAt (rf ro).round a.eval = execOp a.eval o := by
    rcases hd with rfl | hd
    · rfl
    · exact Oper.semAt_eq _ _ _ hd
  rw [he]
  unfold Oper.wp at h
  have hw : (rf ro).depth.isSome = true → 1 ≤ 0 := fun hx => by simp [rf, Fence.wide] at hx
  cases hr : (execOp a.eval o).run P w with
  | ok v w' =>
    rw [hr] at h
    cases v with
    | enter f args =>
      exact ⟨hw, (callsIn_wide (n := 0 - 1)).2 h⟩
    | row row args =>
      refine ⟨hw, fun c cs _ => ?_⟩
      obtain ⟨v, w2, h1, h2⟩ := h c cs
      exact ⟨v, w2, h1, stepsIn_wide.2 h2⟩
    | round l f tmps assign body => exact (show False from h).elim
    | _ => exact h
  | halt x w' =>
    rw [hr] at h
    cases x <;> exact h
theorem opIn_mono {F : Fence} {n : Nat} {o : Oper} {a : Act} {w : World} {K K' : Act → World → Prop} {Q Q' : Exit → Act → World → Prop} (h : ∀ a w, K a w → K' a w) (hq : ∀ e a w, Q e a w → Q' e a w)
    (hh : o.wpIn F n P a w K Q) : o.wpIn F n P a w K' Q' := by
  have hl : LetsOut Q → LetsOut Q' := fun ⟨a, w, h⟩ => ⟨a, w, hq _ _ _ h⟩
  unfold Oper.wpIn at *
  refine ⟨hh.1, ?_⟩
  have hh := hh.2
  generalize (o.semAt F.round a.eval).run P w = r at *
  cases r with
  | ok x w' =>
    cases x <;> simp only [Oper.uponIn] at hh ⊢ <;>
      first
        | exact h _ _ hh
        | exact ⟨hh.1, CallsIn.mono hh.2 (fun e w'' he => by cases e <;> first | exact h _ _ he | exact hq _ _ _ he | exact hl he)⟩
        | exact ⟨hh.1, RowsIn.mono hh.2 (fun _ _ he => h _ _ he)⟩
        | exact ⟨hh.1, RoundIn.mono hh.2 (fun e w'' he => by cases e <;> first | exact h _ _ he | exact hq _ _ _ he | exact hl he)⟩
  | halt x w' => cases x <;> simp only [Oper.uponIn] at hh ⊢ <;> first | exact hh | exact hq _ _ _ hh
theorem wpOpsIn_mono {F : Fence} {n : Nat} {ops : Array Oper} {Q Q' : Exit → Act → World → Prop} (hq : ∀ e a w, Q e a w → Q' e a w) : ∀ {l : List Nat} {a : Act} {w : World}, wpOpsIn F n P ops Q l a w → wpOpsIn F n P ops Q' l a w
  | [], a, w, h => hq _ _ _ h
  | i::l, a, w, h => by
    simp only [wpOpsIn] at h ⊢
    cases ho : ops[i]? with
    | none => rw [ho] at h;exact wpOpsIn_mono hq h
    | some o =>
      rw [ho] at h
      simp only at h ⊢
      split at h
      · rename_i hw
        rw [if_pos hw]
        exact opIn_mono (fun a w h => wpOpsIn_mono hq h) hq h
      · rename_i hw
        rw [if_neg hw]
        exact ⟨h.1, wpOpsIn_mono hq h.2⟩
def YDoes (P : Program) (l : Nat) (args : List Value) (R : RO) (H : Hp) (X : Type) (g : X → Value×Hp) : Prop :=
  ∀ Rx w, R.le Rx → Sat w Rx H → ∃ f tmps assign body, (Instr.yield l args.toArray).run P w = .ok (.round l f tmps assign body) w ∧
    RoundIn Fence.wide 0 P l f tmps assign body w fun e w' => ∃ x Rx', e = .returned (g x).1∧Ext R Rx R Rx'∧Sat w' Rx' (g x).2
abbrev YGives (P : Program) (l : Nat) (args : List Value) (R : RO) (H B : Hp) : Prop := YDoes P l args R H Unit fun _ => (.bool true, B)
def yieldOf (ρ : Operand → Value) (o : Oper) : Option (Nat×Array Value) := match o.op with
  | .call ⟨.value t, args, _⟩ => match ρ t with
    | .func (.yield l) ⟨[]⟩ _ => some (l, args.map ρ)
    | _ => none
  | _ => none
theorem yieldOf_run {ρ : Operand → Value} {o : Oper} {l : Nat} {args : Array Value} (h : yieldOf ρ o = some (l, args)) (w : World) :
    (execOp ρ o).run P w = (Instr.yield l args).run P w := by
  unfold yieldOf at h
  split at h
  · rename_i t aZ ts ho
    split at h
    · rename_i l' cap hv
      simp only [Option.some.injEq, Prod.mk.injEq] at h
      obtain ⟨rfl, rfl⟩ := h
      unfold execOp
      rw [ho]
      simp [resolve, Deferred.ofValue, hv, invoke, Sem.run_bind, Result.andThen]
    · cases h
  · cases h
theorem yield_frame {l : Nat} {args : List Value} {R : RO} {H : Hp} {fp : List Nat} {X : Type} {g : X → Value×Hp} (hd : fp.Nodup) (hp : YDoes P l args R (fp.map H.at) X g)
    {Rx : RO} {w : World} (hR : R.le Rx) (hs : Sat w Rx H) :
    ∃ f tmps assign body, (Instr.yield l args.toArray).run P w = .ok (.round l f tmps assign body) w ∧
      RoundIn Fence.wide 0 P l f tmps assign body w fun e w' => ∃ x Rx', e = .returned (g x).1∧Ext R Rx R Rx'∧Sat w' Rx' (H.upds (zipU fp (g x).2)) := by
  have := frame_gen (ε := Ending) (T := fun K => ∃ f tmps assign body, (Instr.yield l args.toArray).run P w = .ok (.round l f tmps assign body) w∧RoundIn Fence.wide 0 P l f tmps assign body w K)
    (fun K K' ⟨f, tmps, assign, body, h1, h2⟩ hk => ⟨f, tmps, assign, body, h1, h2.mono hk⟩)
    (fin := Out.fin) (R := R) (H := H) (fp := fp) (nn := []) (Q := fun o G B => G = R∧∃ x, o = .ret (g x).1∧B = (g x).2) (w := w) (by simpa using hd) (by simp)
    (fun Rx hR hs => by
      obtain ⟨f, tmps, assign, body, h1, h2⟩ := hp Rx w hR hs
      refine ⟨f, tmps, assign, body, h1, h2.mono ?_⟩
      rintro e w' ⟨x, Rx', rfl, h3, h4⟩
      exact ⟨.ret (g x).1, R, (g x).2, Rx', rfl, ⟨rfl, x, rfl, rfl⟩, h3, h4⟩) hR hs
  obtain ⟨f, tmps, assign, body, h1, h2⟩ := this
  refine ⟨f, tmps, assign, body, h1, h2.mono ?_⟩
  rintro e w' ⟨o, G, B, Rx', rfl, ⟨rfl, x, rfl, rfl⟩, h3, h4⟩
  exact ⟨x, Rx', rfl, h3, by simpa using h4⟩
variable (P)
def wopsY (all : Array Oper) : List Oper → St → RO → Sc → (St → RO → Sc → Prop) → (Value → St → RO → Sc → Prop) → Prop
  | [], s, R, sc, k, kp => k s R sc
  | o::l, s, R, sc, k, kp => pre sc s fun s sc => match gd all s.tm o with
    | some true => match sc with
      | .op h sc' => (eff P o s R h).run s R o.dst (fun s' R' => wopsY all l s' R' sc' k kp) (fun v s' R' => kp v s' R' sc')
      | .opn i kk => match effN P o s i with
        | .new f => ∀ a : Nat, wopsY all l (s.set o.dst (f a).1 (f a).2) R (kk a) k kp
        | _ => False
      | .opp fp nn X q g kk => match pcOf (ev s.tm) o, nodupN (fp ++ nn), freshN s.hp nn with
        | some c, true, true => PrimOK P c R (fp.map s.hp.at) X q g∧∀ x : X, q x → wopsY all l (s.set o.dst (g x).1 (zipU (fp ++ nn) (g x).2)) R (kk x) k kp
        | _, _, _ => False
      | .opx fp nn X g kk => match yieldOf (ev s.tm) o with
        | some (y, args) => match nodupN fp with
          | true => YDoes P y args.toList R (fp.map s.hp.at) X g∧∀ x : X, wopsY all l (s.set o.dst (g x).1 (zipU fp (g x).2)) R (kk x) k kp
          | false => False
        | none => match pureE P (execOp (ev s.tm) o), nodupN (fp ++ nn), freshN s.hp nn with
          | some (f, args), true, true => Does P f args.toList R (fp.map s.hp.at) (fun r G B => G = R∧∃ x, r = .ret (g x).1∧B = (g x).2) ∧
              ∀ x : X, wopsY all l (s.set o.dst (g x).1 (zipU (fp ++ nn) (g x).2)) R (kk x) k kp
          | _, _, _ => False
      | .opg fp nn X q g kk => match pureE P (execOp (ev s.tm) o), nodupN (fp ++ nn), freshN s.hp nn with
        | some (f, args), true, true => Does P f args.toList R (fp.map s.hp.at) (fun r G B => ∃ x, q x G∧r = .ret (g x).1∧B = (g x).2) ∧
            ∀ (x : X) (G : RO), R.le G → q x G → wopsY all l (s.set o.dst (g x).1 (zipU (fp ++ nn) (g x).2)) G (kk x) k kp
        | _, _, _ => False
      | _ => False
    | some false => wopsY all l ⟨put s.tm o.dst undef, s.df, s.hp⟩ R sc k kp
    | none => False
def noDefer : Oper → Bool := fun o => match o.op with
  | .defer _ => false
  | _ => true
def noDefers (ops : Array Oper) : Bool := ops.toList.all noDefer
def roOK (ro : Option Nat) (ops : Array Oper) : Bool := match ro with
  | none => true
  | some _ => noDefers ops
variable {P}
theorem roOK_op {ro : Option Nat} {ops : Array Oper} (h : roOK ro ops = true) {i : Nat} {o : Oper} (ho : ops[i]? = some o) : ro = none ∨ ∀ c, o.op ≠ .defer c := by
  cases ro with
  | none => exact .inl rfl
  | some l =>
    right
    intro c hc
    have : noDefer o = true := List.all_eq_true.1 h o (by
      have := Array.mem_of_getElem? ho
      simpa using this)
    simp [noDefer, hc] at this
theorem wopsY_sound {ro : Option Nat} {all : Array Oper} (hall : roOK ro all = true) : ∀ (l : List Nat) (ol : List Oper) (_ : l.map (all[·]?) = ol.map some) (s : St) (R : RO) (sc : Sc)
    (k : St → RO → Sc → Prop) (kp : Value → St → RO → Sc → Prop), wopsY P all ol s R sc k kp → ∀ Rx w, R.le Rx → Sat w Rx s.hp →
    wpOpsIn (rf ro) 0 P all (Lift R Rx fun e s' G => match e with
      | .normal => ∃ sc', k s' G sc'
      | .panic v => ∃ sc', kp v s' G sc'
      | _ => False) l s.act w
  | [], [], _, s, R, sc, k, kp, h, Rx, w, hR, hs => ⟨.normal, s, R, Rx, rfl, rfl, ⟨sc, h⟩, .refl hR, hs⟩
  | [], _::_, hm, s, R, sc, k, kp, h, Rx, w, hR, hs => by simp at hm
  | _::_, [], hm, s, R, sc, k, kp, h, Rx, w, hR, hs => by simp at hm
  | i::l, o::ol, hm, s, R, sc, k, kp, h, Rx, w, hR, hs => by
    simp only [List.map_cons, List.cons.injEq] at hm
    obtain ⟨hi, hm⟩ := hm
    have hdo := roOK_op hall hi
    have mono : ∀ {l : List Nat} {G : RO} {Rx' : RO} {a : Act} {w' : World} {K : Exit' → St → RO → Prop}, Ext R Rx G Rx' → wpOpsIn (rf ro) 0 P all (Lift G Rx' K) l a w' → wpOpsIn (rf ro) 0 P all (Lift R Rx K) l a w' := fun hx h => wpOpsIn_mono (fun e a w hl => Lift.later hx hl) h
    simp only [wopsY] at h
    obtain ⟨sc, h⟩ := pre_sound h
    simp only [wpOpsIn, hi]
    split at h
    · rename_i hg
      rw [gd_spec hg]
      simp only [if_true]
      split at h
      · rename_i hh sc'
        refine opIn hdo (eff_ok P o s R hh _ _ h Rx w hR hs _ _ ?_ ?_)
        · intro s' G Rx' w' hk hx hs'
          exact mono hx (wopsY_sound hall l ol hm s' G sc' k kp hk Rx' w' hx.leg hs')
        · intro v s' G Rx' w' hk hx hs'
          exact ⟨.panic v, s', G, Rx', rfl, rfl, ⟨_, hk⟩, hx, hs'⟩
      · rename_i i' kk
        split at h
        · rename_i f hf
          have hE := effN_ok P o s R i'
          rw [hf] at hE
          refine opIn hdo (hE (fun s' G => ∃ sc', wopsY P all ol s' G sc' k kp) (fun _ _ _ => False) (fun a => ⟨_, h a⟩) Rx w hR hs _ _ ?_ (fun v s' G Rx' w' hk => hk.elim))
          intro s' G Rx' w' ⟨sc', hk⟩ hx hs'
          exact mono hx (wopsY_sound hall l ol hm s' G sc' k kp hk Rx' w' hx.leg hs')
        · exact h.elim
      · rename_i fp nn X q g kk
        split at h
        · rename_i c h1 h2 h3
          refine opIn hdo (EffOK.prim (P := P) (o := o) (s := s) (R := R) (X := X) (q := q) (g := g) h1 h2 h3 (fun s' G => ∃ sc', wopsY P all ol s' G sc' k kp) (fun _ _ _ => False) ⟨h.1, fun x hx => ⟨_, h.2 x hx⟩⟩ Rx w hR hs _ _ ?_ (fun v s' G Rx' w' hk => hk.elim))
          intro s' G Rx' w' ⟨sc', hk⟩ hx hs'
          exact mono hx (wopsY_sound hall l ol hm s' G sc' k kp hk Rx' w' hx.leg hs')
        · exact h.elim
      · rename_i fp nn X g kk
        split at h
        · rename_i y args hy
          split at h
          · rename_i hfp
            obtain ⟨f, tmps, assign, body, h1, h2⟩ := yield_frame (nodupN_spec hfp) h.1 hR hs
            refine ⟨fun _ _ => trivial, ?_⟩
            have he : o.semAt (rf ro).round s.act.eval = execOp s.act.eval o := by
              rcases hdo with rfl | hd
              · rfl
              · exact Oper.semAt_eq _ _ _ hd
            rw [he, St.eval, yieldOf_run hy w, show args = args.toList.toArray by simp, h1]
            refine ⟨fun hx => by simp [rf, Fence.wide] at hx, ?_⟩
            refine RoundIn.mono (F := rf ro) (n := 0) (by exact h2) ?_
            rintro e w' ⟨x, Rx', rfl, hx, hs'⟩
            show wpOpsIn (rf ro) 0 P all _ l (s.act.put o.dst (g x).1) w'
            rw [St.put_set s _ _ (zipU fp (g x).2)]
            exact mono hx (wopsY_sound hall l ol hm _ R _ k kp (h.2 x) Rx' w' hx.leg hs')
          · exact h.elim
        · split at h
          · rename_i f args h1 h2 h3
            refine opIn hdo (EffOK.call (P := P) (o := o) (s := s) (R := R) (X := X) (g := g) h1 h2 h3 (fun s' G => ∃ sc', wopsY P all ol s' G sc' k kp) (fun _ _ _ => False) ⟨h.1, fun x _ => ⟨_, h.2 x⟩⟩ Rx w hR hs _ _ ?_ (fun v s' G Rx' w' hk => hk.elim))
            intro s' G Rx' w' ⟨sc', hk⟩ hx hs'
            exact mono hx (wopsY_sound hall l ol hm s' G sc' k kp hk Rx' w' hx.leg hs')
          · exact h.elim
      · rename_i fp nn X q g kk
        split at h
        · rename_i f args h1 h2 h3
          refine opIn hdo (EffOK.callG (P := P) (o := o) (s := s) (R := R) (X := X) (q := q) (g := g) h1 h2 h3 (fun s' G => ∃ sc', wopsY P all ol s' G sc' k kp) (fun _ _ _ => False) ⟨h.1, fun x G hG hq => ⟨_, h.2 x G hG hq⟩⟩ Rx w hR hs _ _ ?_ (fun v s' G Rx' w' hk => hk.elim))
          intro s' G Rx' w' ⟨sc', hk⟩ hx hs'
          exact mono hx (wopsY_sound hall l ol hm s' G sc' k kp hk Rx' w' hx.leg hs')
        · exact h.elim
      · exact h.elim
    · rename_i hg
      rw [gd_spec hg]
      simp only [Bool.false_eq_true, if_false]
      refine ⟨fun _ _ => trivial, ?_⟩
      have ih := wopsY_sound hall l ol hm _ R sc k kp h Rx w hR hs
      rw [St.put_act]
      exact ih
    · exact h.elim
def CTI (P : Program) (ro : Option Nat) (c : Code) (s : St) (R : RO) (K : Exit' → St → RO → Prop) : Prop :=
  ∀ Rx w, R.le Rx → Sat w Rx s.hp → c.wpIn (rf ro) 0 P (Lift R Rx K) s.act w
theorem CTI.ct {c : Code} {s : St} {R : RO} {K : Exit' → St → RO → Prop} (h : CTI P none c s R K) : CT P c s R K :=
  fun Rx w hR hs => (wpIn_wide (n := 0)).1 (h Rx w hR hs)
variable (P)
def wpY (ro : Option Nat) : Code → St → RO → Sc → (Exit' → St → RO → Sc → Prop) → Prop
  | .skip, s, R, sc, K => K .normal s R sc
  | .label _, s, R, sc, K => K .normal s R sc
  | .region i ops false, s, R, sc, K => match roOK ro ops with
    | true => wopsY P ops ops.toList s R sc (fun s' R' sc' => K .normal s' R' sc') (fun v s' R' sc' => K (.panic v) s' R' sc')
    | false => False
  | .seq a b, s, R, sc, K => wpY ro a s R sc fun e s' R' sc' => match e with
    | .normal => wpY ro b s' R' sc' K
    | e => K e s' R' sc'
  | .cond c x y, s, R, sc, K => pre sc s fun s sc => match ev s.tm c with
    | .bool true => wpY ro x s R sc K
    | .bool false => wpY ro y s R sc K
    | _ => False
  | .ret, s, R, sc, K => K .ret s R sc
  | .exit i, s, R, sc, K => K (.exit i) s R sc
  | .goto i, s, R, sc, K => K (.goto i) s R sc
  | .block i c, s, R, sc, K => wpY ro c s R sc fun e s' R' sc' => match e with
    | .exit j => match Nat.beq j i with
      | true => K .normal s' R' sc'
      | false => K (.exit j) s' R' sc'
    | e => K e s' R' sc'
  | _, _, _, _, _ => False
variable {P}
theorem wpY_sound {ro : Option Nat} : ∀ (c : Code) (s : St) (R : RO) (sc : Sc) (K : Exit' → St → RO → Sc → Prop), wpY P ro c s R sc K → CTI P ro c s R fun e s' G => ∃ sc', K e s' G sc'
  | .skip, s, R, sc, K, h => fun Rx w hR hs => Go.wpIn_skip ⟨.normal, s, R, Rx, rfl, rfl, ⟨sc, h⟩, .refl hR, hs⟩
  | .label _, s, R, sc, K, h => fun Rx w hR hs => Go.wpIn_label ⟨.normal, s, R, Rx, rfl, rfl, ⟨sc, h⟩, .refl hR, hs⟩
  | .ret, s, R, sc, K, h => fun Rx w hR hs => Go.wpIn_ret ⟨.ret, s, R, Rx, rfl, rfl, ⟨sc, h⟩, .refl hR, hs⟩
  | .exit i, s, R, sc, K, h => fun Rx w hR hs => Go.wpIn_exit ⟨.exit i, s, R, Rx, rfl, rfl, ⟨sc, h⟩, .refl hR, hs⟩
  | .goto i, s, R, sc, K, h => fun Rx w hR hs => Go.wpIn_goto ⟨.goto i, s, R, Rx, rfl, rfl, ⟨sc, h⟩, .refl hR, hs⟩
  | .region i ops false, s, R, sc, K, h => fun Rx w hR hs => by
    simp only [wpY] at h
    split at h
    · rename_i hall
      have := wopsY_sound hall _ _ (range_map_toList ops) s R sc _ _ h Rx w hR hs
      refine Go.wpIn_region (wpOpsIn_mono (fun e a w hl => Lift.mono (fun e s' G _ hk => ?_) hl) this)
      cases e <;> first | exact hk | exact hk.elim
    · exact h.elim
  | .seq a b, s, R, sc, K, h => fun Rx w hR hs => by
    simp only [wpY] at h
    have ha := wpY_sound a s R sc _ h Rx w hR hs
    refine Go.wpIn_seq (wpIn_mono ha ?_)
    rintro e a' w' ⟨e', s', G, Rx', rfl, rfl, ⟨sc', hk⟩, hx, hs'⟩
    cases e' with
    | normal =>
      have hb := wpY_sound b s' G sc' K hk Rx' w' hx.leg hs'
      exact wpIn_mono hb fun e a w hl => Lift.later hx hl
    | exit i => exact ⟨.exit i, s', G, Rx', rfl, rfl, ⟨sc', hk⟩, hx, hs'⟩
    | goto i => exact ⟨.goto i, s', G, Rx', rfl, rfl, ⟨sc', hk⟩, hx, hs'⟩
    | ret => exact ⟨.ret, s', G, Rx', rfl, rfl, ⟨sc', hk⟩, hx, hs'⟩
    | panic v => exact ⟨.panic v, s', G, Rx', rfl, rfl, ⟨sc', hk⟩, hx, hs'⟩
  | .cond c x y, s, R, sc, K, h => by
    simp only [wpY] at h
    obtain ⟨sc', h⟩ := pre_sound h
    intro Rx w hR hs
    split at h
    · rename_i hc
      exact Go.wpIn_cond_true (by rw [St.eval];exact hc) (wpY_sound x s R _ K h Rx w hR hs)
    · rename_i hc
      exact Go.wpIn_cond_false (by rw [St.eval];exact hc) (wpY_sound y s R _ K h Rx w hR hs)
    · exact h.elim
  | .block i c, s, R, sc, K, h => fun Rx w hR hs => by
    simp only [wpY] at h
    have ha := wpY_sound c s R sc _ h Rx w hR hs
    refine Go.wpIn_block (wpIn_mono ha ?_)
    rintro e a' w' ⟨e', s', G, Rx', rfl, rfl, ⟨sc', hk⟩, hx, hs'⟩
    cases e' with
    | exit j =>
      simp only at hk
      show (if j = i then _ else _)
      split at hk
      · rename_i hb
        rw [if_pos (Nat.eq_of_beq_eq_true hb)]
        exact ⟨.normal, s', G, Rx', rfl, rfl, ⟨sc', hk⟩, hx, hs'⟩
      · rename_i hb
        rw [if_neg (Nat.ne_of_beq_eq_false hb)]
        exact ⟨.exit j, s', G, Rx', rfl, rfl, ⟨sc', hk⟩, hx, hs'⟩
    | normal => exact ⟨.normal, s', G, Rx', rfl, rfl, ⟨sc', hk⟩, hx, hs'⟩
    | goto i => exact ⟨.goto i, s', G, Rx', rfl, rfl, ⟨sc', hk⟩, hx, hs'⟩
    | ret => exact ⟨.ret, s', G, Rx', rfl, rfl, ⟨sc', hk⟩, hx, hs'⟩
    | panic v => exact ⟨.panic v, s', G, Rx', rfl, rfl, ⟨sc', hk⟩, hx, hs'⟩
  | .loop _, _, _, _, _, h => h.elim
  | .rangeFunc _ _ _ _, _, _, _, _, h => h.elim
  | .region _ _ true, _, _, _, _, h => h.elim
  | .scope _, _, _, _, _, h => h.elim
  | .refuse _, _, _, _, _, h => h.elim
theorem CT.of_wpY_eq {c : Code} {s : St} {R : RO} {K : Exit' → St → RO → Prop} {VC : Prop} (sc : Sc)
    (he : wpY P none c s R sc (fun e s' G _ => K e s' G) = VC) (h : VC) : CT P c s R K :=
  CT.mono (wpY_sound c s R sc _ (he ▸ h)).ct fun e s' G _ ⟨_, hk⟩ => hk
def RB (B : Hp) : Exit' → St → RO → Prop := fun e s _ => e = .normal∧s.hp.take B.length = B
def RBs (ro : Option Nat) (P : Program) (aZ bd : Code) (s : St) (R : RO) (B : Hp) : Prop :=
  CTI P ro aZ s R fun e s' G => e = .normal∧CTI P ro bd s' G (RB B)
theorem RBs.of_eq {ro : Option Nat} {aZ bd : Code} {s : St} {R : RO} {B : Hp} {VC : Prop} (sc : Sc)
    (he : wpY P ro aZ s R sc (fun e s' G sc' => match e with
      | .normal => wpY P ro bd s' G sc' fun e s' G _ => RB B e s' G
      | _ => False) = VC) (h : VC) : RBs ro P aZ bd s R B := by
  have := wpY_sound _ _ _ _ _ (he ▸ h)
  refine fun Rx w hR hs => wpIn_mono (this Rx w hR hs) fun e a w hl => Lift.mono ?_ hl
  rintro e s' G _ ⟨sc', hk⟩
  cases e with
  | normal => exact ⟨rfl, fun Rx w hR hs => wpIn_mono (wpY_sound _ _ _ _ _ hk Rx w hR hs) fun e a w hl => Lift.mono (fun e s G _ ⟨_, h⟩ => h) hl⟩
  | _ => exact hk.elim
def putps : List Value → List Tmp → List Value → List Value
  | tm, p::ps, v::vs => putps (tput tm p v) ps vs
  | tm, _, _ => tm
theorem putps_list : ∀ (ps : List Tmp) (vs tm : List Value), (ps.zip vs).foldl (fun (t : Array Value) (x : Tmp×Value) => t.setIfInBounds x.1 x.2) tm.toArray = (putps tm ps vs).toArray
  | [], vs, tm => by simp [putps]
  | p::ps, [], tm => by simp [putps]
  | p::ps, v::vs, tm => by
    have := putps_list ps vs (tput tm p v)
    simp only [putps]
    rw [← this]
    simp [tput_eq]
theorem putps_eq (ps : Array Tmp) (vs tm : List Value) : ((ps.zip vs.toArray).foldl (fun (t : Array Value) (x : Tmp×Value) => t.setIfInBounds x.1 x.2) tm.toArray) = (putps tm ps.toList vs).toArray := by
  rw [← putps_list]
  rw [← Array.foldl_toList]
  simp
theorem Sat.set {w : World} {R : RO} {H : Hp} {b : Nat} {x : Obj} (o : Obj) (h : Sat w R H) (hb : R.mem b = some x) : Sat (w.putObj b o) (R.with b o) H := by
  have hlt := (Array.getElem?_eq_some_iff.1 (h.ro b x hb)).1
  have h2 := h.put o hb
  refine ⟨fun k y hk => ?_, h2.own, fun i a B hi => ?_, h2.one, h2.os, h2.tape, h2.out⟩
  · by_cases he : k = b
    · subst he;rw [RO.with_same] at hk;cases hk
      exact World.putObj_heap_same hlt
    · rw [RO.with_ne _ _ he] at hk
      rw [World.putObj_heap_other he];exact h.ro k y hk
  · have hne : a ≠ b := fun he => by subst he;rw [h.off i a B hi] at hb;cases hb
    rw [RO.with_ne _ _ hne];exact h.off i a B hi
theorem YGives.of {l : Nat} {args : List Value} {R R1 : RO} {H B : Hp} {tm : List Value} {ps : Array Tmp} {aZ bd : Code} {fn : FuncId} {db : Nat}
    (hn : args.length = ps.size) (hle : R.le R1) (hl : R.mem l = none)
    (hr : R1.mem l = some (.loop { state := .ready, pending := none, fn, tmps := tm.toArray, params := ps, assign := aZ, body := bd, defers := db }))
    (hb : RBs (some l) P aZ bd ⟨putps tm ps.toList args, [], H⟩ R B) : YGives P l args R1 H B := by
  intro Rx w hR hs
  have hrx := hR.mem _ _ hr
  obtain ⟨rec, hrec⟩ : ∃ rec : LoopState → Loop, rec = fun st => { state := st, pending := none, fn, tmps := tm.toArray, params := ps, assign := aZ, body := bd, defers := db } := ⟨_, rfl⟩
  have hrx' : Rx.mem l = some (.loop (rec .ready)) := by rw [hrec];exact hrx
  have h0 := run_yield (P := P) (args := args.toArray) (hs.ro _ _ hrx) (by simpa using hn)
  refine ⟨_, _, _, _, h0, ?_⟩
  refine roundIn_of_wpIn (F := Fence.wide) trivial ?_
  have ht : ((ps.zip args.toArray).foldl (fun (tmps : Array Value) (x : Tmp×Value) => tmps.setIfInBounds x.1 x.2) tm.toArray) = (putps tm ps.toList args).toArray := by
    exact putps_eq ps args tm
  have hst : ({ tmps := (ps.zip args.toArray).foldl (fun (tmps : Array Value) (x : Tmp×Value) => tmps.setIfInBounds x.1 x.2) tm.toArray, defers := [] } : Act) = St.act ⟨putps tm ps.toList args, [], H⟩ := by
    rw [ht];rfl
  show Code.wpIn (Fence.wide.inRound l) 0 P aZ _ ({ tmps := (ps.zip args.toArray).foldl (fun (tmps : Array Value) (x : Tmp×Value) => tmps.setIfInBounds x.1 x.2) tm.toArray, defers := [] } : Act) w
  rw [hst]
  refine wpIn_mono (hb Rx w (RO.le_trans hle hR) hs) ?_
  rintro e a w1 ⟨e', s1, G, X1, rfl, rfl, ⟨rfl, hbd⟩, hx1, hs1⟩
  have x1l := hx1.lex.mem _ _ hrx'
  have gl : G.mem l = none := by
    cases hg : G.mem l with
    | none => rfl
    | some o =>
      rcases hx1.own l (by rw [hg];simp) with h | h
      · exact (h hl).elim
      · rw [hrx'] at h;cases h
  have hs2 := hs1.set (.loop (rec .busy)) x1l
  have hle2 : G.le (X1.with l (.loop (rec .busy))) := by
    refine ⟨fun b o hk => ?_, hx1.leg.os, hx1.leg.tape, hx1.leg.out⟩
    rw [RO.with_ne _ _ (fun h => by rw [h, gl] at hk;cases hk)]
    exact hx1.leg.mem b o hk
  have hrb : ({ rec .ready with state := .busy } : Loop) = rec .busy := by rw [hrec]
  have hbr := run_beginRound (P := P) (r := rec .ready) (hs1.ro _ _ x1l) (by rw [hrec])
  rw [hrb] at hbr
  refine ⟨_, hbr, ?_⟩
  refine wpIn_mono (hbd _ _ hle2 hs2) ?_
  rintro e a w3 ⟨e', s2, G2, X3, rfl, rfl, ⟨rfl, hB⟩, hx3, hs3⟩
  have x3l := hx3.lex.mem l _ (RO.with_same _ _ _)
  have hs4 := hs3.set (.loop (rec .ready)) x3l
  have hre : ({ rec .busy with state := .ready, pending := none } : Loop) = rec .ready := by rw [hrec]
  have her := run_endRound (P := P) none (hs3.ro _ _ x3l)
  simp only [Option.isNone_none, if_true] at her
  rw [hre] at her
  refine ⟨_, _, her, (), X3.with l (.loop (rec .ready)), rfl, ⟨R1.le_refl, ?_, ?_, fun b hb => .inl hb⟩, ?_⟩
  · refine ⟨fun b o hk => ?_, (hx3.lex.os.trans hx1.lex.os), (hx3.lex.tape.trans hx1.lex.tape), (hx3.lex.out.trans hx1.lex.out)⟩
    by_cases he : b = l
    · rw [he, hrx'] at hk;cases hk
      rw [he];exact RO.with_same _ _ _
    · rw [RO.with_ne _ _ he]
      refine hx3.lex.mem b o ?_
      rw [RO.with_ne _ _ he]
      exact hx1.lex.mem b o hk
  · refine ⟨fun b o hk => ?_, (hx3.lex.os.trans hx1.lex.os).trans hR.os, (hx3.lex.tape.trans hx1.lex.tape).trans hR.tape, (hx3.lex.out.trans hx1.lex.out).trans hR.out⟩
    have hk' := hR.mem b o hk
    by_cases he : b = l
    · rw [he, hrx'] at hk';cases hk'
      rw [he];exact RO.with_same _ _ _
    · rw [RO.with_ne _ _ he]
      refine hx3.lex.mem b o ?_
      rw [RO.with_ne _ _ he]
      exact hx1.lex.mem b o hk'
  · have : Sat (w3.putObj l (.loop (rec .ready))) (X3.with l (.loop (rec .ready))) B := by
      rw [← hB]
      exact ⟨hs4.ro, fun i a B hi => hs4.own i a B (Hp.at_take hi), fun i a B hi => hs4.off i a B (Hp.at_take hi), fun i j a B C hi hj => hs4.one i j a B C (Hp.at_take hi) (Hp.at_take hj), hs4.os, hs4.tape, hs4.out⟩
    exact this
end
end Vc
set_option linter.unusedVariables false
set_option linter.unusedSimpArgs false
namespace Vc
open Go Go.RowKit Go.Maps Go.Sort Go.Shelf Go.Proofs
structure Stm {α β : Type} (m : List (α×β×Nat)) (c : Nat) : Prop where
  old : ∀ x ∈ m, x.2.2 < c
  born : (m.map (·.2.2)).Nodup
  keys : (m.map (·.1)).Nodup
theorem Stm.nil {α β : Type} (c : Nat) : Stm ([] : List (α×β×Nat)) c := ⟨by simp, by simp, by simp⟩
theorem mem_adel {α β : Type} [DecidableEq α] {a : α} : ∀ {m : List (α×β×Nat)} {x : α×β×Nat}, x ∈ adel m a → x ∈ m
  | [], x, h => by simp [adel] at h
  | y::m, x, h => by
    simp only [adel] at h
    split at h
    · exact List.mem_cons_of_mem _ h
    · rcases List.mem_cons.1 h with h | h
      · rw [h];exact List.mem_cons_self ..
      · exact List.mem_cons_of_mem _ (mem_adel h)
theorem sub_adel {α β : Type} [DecidableEq α] {a : α} : ∀ (m : List (α×β×Nat)), (adel m a).Sublist m
  | [] => by simp [adel]
  | y::m => by
    simp only [adel]
    split
    · exact List.sublist_cons_self ..
    · exact (sub_adel m).cons_cons y
theorem Stm.del {α β : Type} [DecidableEq α] {m : List (α×β×Nat)} {c : Nat} {a : α} (h : Stm m c) : Stm (adel m a) c :=
  ⟨fun x hx => h.old x (mem_adel hx), h.born.sublist ((sub_adel m).map _), h.keys.sublist ((sub_adel m).map _)⟩
theorem aput_not {α β : Type} [DecidableEq α] {a : α} {v : β} {c : Nat} : ∀ {m : List (α×β×Nat)}, (aget m a).isSome = false → aput m a v c = m ++ [(a, v, c)]
  | [], _ => rfl
  | y::m, h => by
    simp only [aget] at h
    split at h
    · simp at h
    · rename_i hn
      simp only [aput, if_neg hn, aput_not h, List.cons_append]
theorem aput_has {α β : Type} [DecidableEq α] {a : α} {v : β} {c : Nat} : ∀ {m : List (α×β×Nat)}, (aget m a).isSome = true → (aput m a v c).map (·.2.2) = m.map (·.2.2)∧(aput m a v c).map (·.1) = m.map (·.1)
  | [], h => by simp [aget] at h
  | y::m, h => by
    simp only [aget] at h
    split at h
    · rename_i hn;simp [aput, if_pos hn, hn]
    · rename_i hn
      have := aput_has (v := v) (c := c) h
      simp [aput, if_neg hn, this.1, this.2]
theorem aget_mem {α β : Type} [DecidableEq α] {a : α} : ∀ {m : List (α×β×Nat)}, a ∈ m.map (·.1) → (aget m a).isSome = true
  | [], h => by simp at h
  | y::m, h => by
    simp only [aget]
    split
    · rfl
    · rename_i hn
      simp only [List.map_cons, List.mem_cons] at h
      exact aget_mem (h.resolve_left hn)
theorem Stm.put {α β : Type} [DecidableEq α] {m : List (α×β×Nat)} {c : Nat} {a : α} {v : β} (h : Stm m c) : Stm (aput m a v c) (aclk m a c) := by
  by_cases hs : (aget m a).isSome = true
  · obtain ⟨h1, h2⟩ := aput_has (v := v) (c := c) hs
    refine ⟨fun x hx => ?_, by rw [h1];exact h.born, by rw [h2];exact h.keys⟩
    have : x.2.2 ∈ m.map (·.2.2) := by rw [← h1];exact List.mem_map_of_mem hx
    obtain ⟨y, hy, he⟩ := List.mem_map.1 this
    have := h.old y hy
    simp only [aclk, if_pos hs]
    omega
  · have hs' : (aget m a).isSome = false := by simpa using hs
    rw [aput_not hs']
    refine ⟨fun x hx => ?_, ?_, ?_⟩
    · simp only [aclk, if_neg hs]
      rcases List.mem_append.1 hx with hx | hx
      · have := h.old x hx;omega
      · simp only [List.mem_singleton] at hx;rw [hx];exact Nat.lt_succ_self c
    · rw [List.map_append, List.nodup_append]
      refine ⟨h.born, by simp, fun x hx y hy => ?_⟩
      obtain ⟨z, hz, rfl⟩ := List.mem_map.1 hx
      simp only [List.map_cons, List.map_nil, List.mem_singleton] at hy
      have := h.old z hz
      omega
    · rw [List.map_append, List.nodup_append]
      refine ⟨h.keys, by simp, fun x hx y hy => ?_⟩
      simp only [List.map_cons, List.map_nil, List.mem_singleton] at hy
      subst hy
      intro he
      subst he
      exact hs (aget_mem hx)
def sortZ (l : List Int) : List Int := l.mergeSort (fun x y => decide (x ≤ y))
theorem sortZ_perm (l : List Int) : (sortZ l).Perm l := List.mergeSort_perm _ _
theorem sortZ_le (l : List Int) : (sortZ l).Pairwise (fun x y => x ≤ y) := by
  have := List.pairwise_mergeSort (le := fun (x y : Int) => decide (x ≤ y)) (fun a b c h1 h2 => by simp at *;omega) (fun a b => by simp;omega) l
  exact this.imp (fun h => by simpa using h)
theorem sortZ_congr {l k : List Int} (h : l.Perm k) : sortZ l = sortZ k :=
  List.Perm.eq_of_pairwise (le := fun x y => x ≤ y) (fun a b _ _ h1 h2 => by omega) (sortZ_le l) (sortZ_le k) (((sortZ_perm l).trans h).trans (sortZ_perm k).symm)
section
variable {P : Program} {β : Type} {vf : β → Value} {m : List (Int×β×Nat)} {c : Nat} {k : TypeId}
end
end Vc
set_option linter.unusedVariables false
set_option linter.unusedSimpArgs false
namespace Vc
open Go
def mit (M clk : Nat) (seen : List Nat) : Obj := .mapIter (some M) clk seen.toArray clk
def lft {α β : Type} (m : List (α×β×Nat)) (seen : List Nat) : List (α×β×Nat) := m.filter fun x => !seen.contains x.2.2
section
variable {P : Program} {α β : Type} {kf : α → Value} {vf : β → Value} {m : List (α×β×Nat)} {c M r : Nat} {seen : List Nat} {R : RO}
theorem run_getM {w : World} {r k : Nat} {es : Array MapEntry} (h : w.heap[r]? = some (.map es k)) : (getObj r).run P w = .ok (.map es k) w := by simp [getObj, Sem.run, h]
theorem run_getI {w : World} {r : Nat} (h : w.heap[r]? = some (mit M c seen)) : (getObj r).run P w = .ok (.mapIter (some M) c seen.toArray c) w := by simp [getObj, Sem.run, h, mit]
theorem rng_ok {t k e : TypeId} (ht : pureV P (underlying t) = some (.map k e)) :
    PrimOK P (.rng t (.map (some M))) R [some (M, .map (ents kf vf m) c)] Nat (fun _ => True) (fun a => (ptA a, [some (M, .map (ents kf vf m) c), some (a, .obj (mit M c []))])) := by
  intro Rx w hR hs
  have hm : w.heap[M]? = some (.map (ents kf vf m).toArray c) := hs.own 0 M _ rfl
  refine ⟨w.heap.size, { w with heap := w.heap.push (.mapIter (some M) c #[] c) }, ?_, trivial, ?_⟩
  · simp only [PC.sem, Instr.range, Sem.run_bind, pureV_run ht w, Result.andThen_ok, run_getM (P := P) hm, Sem.run_pure]
    simp [newObj, Sem.run]
  · exact hs.put_new (o := .mapIter (some M) c #[] c) rfl (i := 1) rfl (B := .obj (mit M c [])) (by show (w.heap.push _)[w.heap.size]? = _;rw [Array.getElem?_push_size];rfl) ⟨rfl, rfl, rfl⟩
theorem ents_lft : ((ents kf vf m).toArray.filter fun e => !seen.toArray.contains e.born) = (ents kf vf (lft m seen)).toArray := by
  rw [List.filter_toArray]
  congr 1
  unfold ents lft
  rw [List.filter_map]
  congr 1
  apply List.filter_congr
  intro x _
  simp
theorem ents_all (hS : Stm m c) : ((!seen.toArray.isEmpty && !(ents kf vf m).toArray.isEmpty && (ents kf vf m).toArray.all fun e => decide (e.born ≥ c)) : Bool) = false := by
  cases m with
  | nil => simp [ents]
  | cons x m =>
    have := hS.old x (List.mem_cons_self ..)
    simp [ents]
    intro _ h;omega
theorem ents_old (hS : Stm m c) : ((ents kf vf (lft m seen)).toArray.filter fun e => decide (e.born < c)) = (ents kf vf (lft m seen)).toArray := by
  rw [List.filter_toArray]
  congr 1
  apply List.filter_eq_self.2
  intro e he
  simp only [ents, List.mem_map] at he
  obtain ⟨x, hx, rfl⟩ := he
  have := hS.old x (List.mem_filter.1 hx).1
  simpa using this
theorem ents_new (hS : Stm m c) : ((ents kf vf (lft m seen)).toArray.filter fun e => decide (e.born ≥ c)) = #[] := by
  rw [List.filter_toArray]
  congr 1
  apply List.filter_eq_nil_iff.2
  intro e he
  simp only [ents, List.mem_map] at he
  obtain ⟨x, hx, rfl⟩ := he
  have := hS.old x (List.mem_filter.1 hx).1
  simp;omega
theorem nxt_done {t : TypeId} (hS : Stm m c) (hl : lft m seen = []) :
    Prim0 P (.nxt t (ptA r) false) R [some (M, .map (ents kf vf m) c), some (r, .obj (mit M c seen))] (.tuple #[.bool false]) [some (M, .map (ents kf vf m) c), some (r, .obj (mit M c seen))] := by
  intro Rx w hR hs
  have hm : w.heap[M]? = some (.map (ents kf vf m).toArray c) := hs.own 0 M _ rfl
  have hi : w.heap[r]? = some (mit M c seen) := hs.own 1 r _ rfl
  refine ⟨w, ?_, hs⟩
  simp only [PC.sem, Instr.next, Sem.run_bind, run_getI (P := P) hi, Result.andThen_ok, run_getM (P := P) hm, ents_all (seen := seen) hS, ents_lft, ents_old hS, ents_new hS, Bool.false_eq_true, if_false, Sem.run_pure]
  simp [hl, ents, choose, Sem.run, Question.forced]
theorem nxt_more {t : TypeId} (hS : Stm m c) (hl : lft m seen ≠ []) :
    PrimOK P (.nxt t (ptA r) false) R [some (M, .map (ents kf vf m) c), some (r, .obj (mit M c seen))] {x : α×β×Nat // x ∈ lft m seen} (fun _ => True)
      (fun x => (.tuple #[.bool true, kf x.1.1, vf x.1.2.1], [some (M, .map (ents kf vf m) c), some (r, .obj (mit M c (seen ++ [x.1.2.2])))])) := by
  intro Rx w hR hs
  have hm : w.heap[M]? = some (.map (ents kf vf m).toArray c) := hs.own 0 M _ rfl
  have hi : w.heap[r]? = some (mit M c seen) := hs.own 1 r _ rfl
  have hlen : 0 < (lft m seen).length := List.length_pos_iff.2 hl
  obtain ⟨i, w1, hc, hi2, hh, hsm⟩ : ∃ i w1, (choose (.mapNext (lft m seen).length)).run P w = .ok i w1∧i < (lft m seen).length∧w1.heap = w.heap∧Same w w1 := by
    rw [Go.run_choose_drew]
    split
    · exact ⟨0, w, rfl, hlen, rfl, .refl w⟩
    · exact ⟨_, w.drew, rfl, Nat.mod_lt _ hlen, rfl, ⟨rfl, rfl, rfl⟩⟩
  have hs1 := hs.heap hh hsm
  have hx : (lft m seen)[i]? = some (lft m seen)[i] := List.getElem?_eq_getElem hi2
  have hi1 : w1.heap[r]? = some (mit M c seen) := by rw [hh];exact hi
  have hlt := (Array.getElem?_eq_some_iff.1 hi1).1
  refine ⟨⟨(lft m seen)[i], List.getElem_mem _⟩, { w1 with heap := w1.heap.setIfInBounds r (mit M c (seen ++ [(lft m seen)[i].2.2])) }, ?_, trivial, ?_⟩
  · have hcand : (((if (ents kf vf (lft m seen)).toArray.isEmpty then #[none] else #[]) ++ ((ents kf vf (lft m seen)).toArray ++ #[]).map some : Array (Option MapEntry))) = ((ents kf vf (lft m seen)).map some).toArray := by
      have : (ents kf vf (lft m seen)).toArray.isEmpty = false := by
        cases h : lft m seen with
        | nil => exact (hl h).elim
        | cons y ys => simp [ents]
      rw [this];simp
    have hsz : ((ents kf vf (lft m seen)).map some).toArray.size = (lft m seen).length := by simp [ents]
    have hget : ((ents kf vf (lft m seen)).map some).toArray[i]? = some (some ⟨kf (lft m seen)[i].1, vf (lft m seen)[i].2.1, (lft m seen)[i].2.2⟩) := by
      simp [ents, hx]
    simp only [PC.sem, Instr.next, Sem.run_bind, run_getI (P := P) hi, Result.andThen_ok, run_getM (P := P) hm, ents_all (seen := seen) hS, ents_lft, ents_old hS, ents_new hS, Bool.false_eq_true, if_false, Sem.run_pure, hcand, hsz, hc, hget]
    have hset : ∀ o', (setObj r o').run P w1 = .ok () { w1 with heap := w1.heap.setIfInBounds r o' } := fun o' => by simp [setObj, Sem.run, hi1, mit]
    rw [hset]
    simp [mit]
  · exact hs1.put_upd (i := 1) (ad := r) (B := .obj (mit M c seen)) (B' := .obj (mit M c (seen ++ [(lft m seen)[i].2.2]))) rfl rfl (by simp [Blk.at, hlt]) ⟨rfl, rfl, rfl⟩
theorem find_born {x : α×β×Nat} : ∀ {m : List (α×β×Nat)}, x ∈ m → (m.map (·.2.2)).Nodup → (ents kf vf m).find? (fun e => e.born == x.2.2) = some ⟨kf x.1, vf x.2.1, x.2.2⟩
  | [], h, _ => by cases h
  | y::m, h, hn => by
    simp only [List.map_cons, List.nodup_cons] at hn
    show List.find? _ (_::ents kf vf m) = _
    rcases List.mem_cons.1 h with rfl | h
    · simp [List.find?]
    · have : ¬ y.2.2 = x.2.2 := fun he => hn.1 (he ▸ List.mem_map_of_mem h)
      rw [List.find?_cons_of_neg (by simpa using this)]
      exact find_born h hn.2
theorem ent_ok {x : α×β×Nat} (hS : Stm m c) (hx : x ∈ m) :
    Prim0 P (.ent (ptA r)) R [some (M, .map (ents kf vf m) c), some (r, .obj (mit M c (seen ++ [x.2.2])))] (.tuple #[kf x.1, vf x.2.1]) [some (M, .map (ents kf vf m) c), some (r, .obj (mit M c (seen ++ [x.2.2])))] := by
  intro Rx w hR hs
  have hm : w.heap[M]? = some (.map (ents kf vf m).toArray c) := hs.own 0 M _ rfl
  have hi : w.heap[r]? = some (mit M c (seen ++ [x.2.2])) := hs.own 1 r _ rfl
  refine ⟨w, ?_, hs⟩
  have hb : (seen ++ [x.2.2]).toArray.back? = some x.2.2 := by simp
  have hf : (ents kf vf m).toArray.find? (fun e => e.born == x.2.2) = some ⟨kf x.1, vf x.2.1, x.2.2⟩ := by
    rw [List.find?_toArray];exact find_born hx hS.born
  simp only [PC.sem, Instr.entry, Sem.run_bind, run_getI (P := P) hi, Result.andThen_ok, hb, run_getM (P := P) hm, Sem.run_pure, bne_self_eq_false, Bool.false_eq_true, if_false, hf]
end
section
variable {P : Program}
abbrev YDoesJ (P : Program) (l : Nat) (args : List Value) (R : RO) (H : Hp) {σ : Type} (Hs : σ → Hp) (K : σ → Prop) : Prop := YDoes P l args R H {y : σ // K y} fun y => (.bool true, Hs y.1)
def RBk {σ : Type} (Hs : σ → Hp) (K : σ → Prop) : Exit' → St → RO → Prop := fun e s _ => e = .normal∧∃ y, K y∧s.hp.take (Hs y).length = Hs y
def RBK (ro : Option Nat) (P : Program) (asg bd : Code) (s : St) (R : RO) {σ : Type} (Hs : σ → Hp) (K : σ → Prop) : Prop :=
  CTI P ro asg s R fun e s' G => e = .normal∧CTI P ro bd s' G (RBk Hs K)
theorem RBK.of_eq {ro : Option Nat} {asg bd : Code} {s : St} {R : RO} {σ : Type} {Hs : σ → Hp} {K : σ → Prop} {VC : Prop} (sc : Sc)
    (he : wpY P ro asg s R sc (fun e s' G sc' => match e with
      | .normal => wpY P ro bd s' G sc' fun e s' G _ => RBk Hs K e s' G
      | _ => False) = VC) (h : VC) : RBK ro P asg bd s R Hs K := by
  have := wpY_sound _ _ _ _ _ (he ▸ h)
  refine fun Rx w hR hs => wpIn_mono (this Rx w hR hs) fun e a w hl => Lift.mono ?_ hl
  rintro e s' G _ ⟨sc', hk⟩
  cases e with
  | normal => exact ⟨rfl, fun Rx w hR hs => wpIn_mono (wpY_sound _ _ _ _ _ hk Rx w hR hs) fun e a w hl => Lift.mono (fun e s G _ ⟨_, h⟩ => h) hl⟩
  | _ => exact hk.elim
theorem YDoesJ.of {σ : Type} {Hs : σ → Hp} {K : σ → Prop} {l : Nat} {args : List Value} {R R1 : RO} {H : Hp} {tm : List Value} {ps : Array Tmp} {asg bd : Code} {fn : FuncId} {db : Nat}
    (hn : args.length = ps.size) (hle : R.le R1) (hl : R.mem l = none)
    (hr : R1.mem l = some (.loop { state := .ready, pending := none, fn, tmps := tm.toArray, params := ps, assign := asg, body := bd, defers := db }))
    (hb : RBK (some l) P asg bd ⟨putps tm ps.toList args, [], H⟩ R Hs K) : YDoesJ P l args R1 H Hs K := by
  intro Rx w hR hs
  have hrx := hR.mem _ _ hr
  obtain ⟨rec, hrec⟩ : ∃ rec : LoopState → Loop, rec = fun st => { state := st, pending := none, fn, tmps := tm.toArray, params := ps, assign := asg, body := bd, defers := db } := ⟨_, rfl⟩
  have hrx' : Rx.mem l = some (.loop (rec .ready)) := by rw [hrec];exact hrx
  have h0 := run_yield (P := P) (args := args.toArray) (hs.ro _ _ hrx) (by simpa using hn)
  refine ⟨_, _, _, _, h0, ?_⟩
  refine roundIn_of_wpIn (F := Fence.wide) trivial ?_
  have ht : ((ps.zip args.toArray).foldl (fun (tmps : Array Value) (x : Tmp×Value) => tmps.setIfInBounds x.1 x.2) tm.toArray) = (putps tm ps.toList args).toArray := by
    exact putps_eq ps args tm
  have hst : ({ tmps := (ps.zip args.toArray).foldl (fun (tmps : Array Value) (x : Tmp×Value) => tmps.setIfInBounds x.1 x.2) tm.toArray, defers := [] } : Act) = St.act ⟨putps tm ps.toList args, [], H⟩ := by
    rw [ht];rfl
  show Code.wpIn (Fence.wide.inRound l) 0 P asg _ ({ tmps := (ps.zip args.toArray).foldl (fun (tmps : Array Value) (x : Tmp×Value) => tmps.setIfInBounds x.1 x.2) tm.toArray, defers := [] } : Act) w
  rw [hst]
  refine wpIn_mono (hb Rx w (RO.le_trans hle hR) hs) ?_
  rintro e a w1 ⟨e', s1, G, X1, rfl, rfl, ⟨rfl, hbd⟩, hx1, hs1⟩
  have x1l := hx1.lex.mem _ _ hrx'
  have gl : G.mem l = none := by
    cases hg : G.mem l with
    | none => rfl
    | some o =>
      rcases hx1.own l (by rw [hg];simp) with h | h
      · exact (h hl).elim
      · rw [hrx'] at h;cases h
  have hs2 := hs1.set (.loop (rec .busy)) x1l
  have hle2 : G.le (X1.with l (.loop (rec .busy))) := by
    refine ⟨fun b o hk => ?_, hx1.leg.os, hx1.leg.tape, hx1.leg.out⟩
    rw [RO.with_ne _ _ (fun h => by rw [h, gl] at hk;cases hk)]
    exact hx1.leg.mem b o hk
  have hrb : ({ rec .ready with state := .busy } : Loop) = rec .busy := by rw [hrec]
  have hbr := run_beginRound (P := P) (r := rec .ready) (hs1.ro _ _ x1l) (by rw [hrec])
  rw [hrb] at hbr
  refine ⟨_, hbr, ?_⟩
  refine wpIn_mono (hbd _ _ hle2 hs2) ?_
  rintro e a w3 ⟨e', s2, G2, X3, rfl, rfl, ⟨rfl, y, hy, hB⟩, hx3, hs3⟩
  have x3l := hx3.lex.mem l _ (RO.with_same _ _ _)
  have hs4 := hs3.set (.loop (rec .ready)) x3l
  have hre : ({ rec .busy with state := .ready, pending := none } : Loop) = rec .ready := by rw [hrec]
  have her := run_endRound (P := P) none (hs3.ro _ _ x3l)
  simp only [Option.isNone_none, if_true] at her
  rw [hre] at her
  refine ⟨_, _, her, ⟨y, hy⟩, X3.with l (.loop (rec .ready)), rfl, ⟨R1.le_refl, ?_, ?_, fun b hb => .inl hb⟩, ?_⟩
  · refine ⟨fun b o hk => ?_, (hx3.lex.os.trans hx1.lex.os), (hx3.lex.tape.trans hx1.lex.tape), (hx3.lex.out.trans hx1.lex.out)⟩
    by_cases he : b = l
    · rw [he, hrx'] at hk;cases hk
      rw [he];exact RO.with_same _ _ _
    · rw [RO.with_ne _ _ he]
      refine hx3.lex.mem b o ?_
      rw [RO.with_ne _ _ he]
      exact hx1.lex.mem b o hk
  · refine ⟨fun b o hk => ?_, (hx3.lex.os.trans hx1.lex.os).trans hR.os, (hx3.lex.tape.trans hx1.lex.tape).trans hR.tape, (hx3.lex.out.trans hx1.lex.out).trans hR.out⟩
    have hk' := hR.mem b o hk
    by_cases he : b = l
    · rw [he, hrx'] at hk';cases hk'
      rw [he];exact RO.with_same _ _ _
    · rw [RO.with_ne _ _ he]
      refine hx3.lex.mem b o ?_
      rw [RO.with_ne _ _ he]
      exact hx1.lex.mem b o hk'
  · have : Sat (w3.putObj l (.loop (rec .ready))) (X3.with l (.loop (rec .ready))) (Hs y) := by
      rw [← hB]
      exact ⟨hs4.ro, fun i a B hi => hs4.own i a B (Hp.at_take hi), fun i a B hi => hs4.off i a B (Hp.at_take hi), fun i j a B C hi hj => hs4.one i j a B C (Hp.at_take hi) (Hp.at_take hj), hs4.os, hs4.tape, hs4.out⟩
    exact this
theorem CT.range_runJ {α σ : Type} {g : Operand} {ps : Array Tmp} {assign body : Code} {s : St} {R : RO} {f : FuncId} {cap : Array Value} {k : Nat×σ → Sc} (n : Nat) (enc : α → List Value) (Hs : σ → Hp) (J : List α → σ → Prop) (F : List α → Prop) (z : σ)
    (hg : ev s.tm g = .func (.func f) #[] cap) (he : ∀ args w, (callFunc f args).run P w = .ok (.enter f args) w) (h0 : s.hp = Hs z) (hlen : ∀ x, (enc x).length = ps.size)
    (hbody : ∀ pre x y, J pre y → pre.length < n → ∀ l, RBK (some l) P assign body ⟨putps s.tm ps.toList (enc x), [], Hs y⟩ R Hs (J (pre ++ [x])))
    (hcall : ∀ (l : Nat) (R1 : RO), R.le R1 → (∀ pre x y, J pre y → pre.length < n → YDoesJ P l (enc x) R1 (Hs y) Hs (J (pre ++ [x]))) →
      Does P f (.func (.yield l) #[] #[]::cap.toList) R1 (Hs z) fun o G B => G = R1∧o = .ret (.tuple #[])∧∃ pre y, J pre y∧F pre∧B = Hs y) :
    CT P (.rangeFunc g ps assign body) s R (altPost R (.altG (Nat×σ) (fun x G => (G.mem x.1 = some (.deferred (some []))∧R.mem x.1 = none)∧∃ pre, J pre x.2∧F pre) (fun x => (.normal, ⟨s.tm, { target := .collected x.1, args := #[] }::s.df, Hs x.2⟩)) k .altn)) := by
  intro Rx w hR hs
  rw [← wpIn_wide (n := 1)]
  refine wpIn_rangeFunc ?_
  intro fn hfn
  obtain ⟨rec, hrec⟩ : ∃ rec : LoopState → Option Code → Loop, rec = fun st pe => { state := st, pending := pe, fn, tmps := s.act.tmps, params := ps, assign, body, defers := w.heap.size } := ⟨_, rfl⟩
  have hsz : (w.alloc (.deferred (some []))).heap.size = w.heap.size + 1 := World.size_alloc _ _
  have hs1 := (hs.alloc (.deferred (some []))).alloc (.loop (rec .ready none))
  rw [hsz] at hs1
  have hxr : Rx.mem w.heap.size = none := hs.fresh
  have hxl : Rx.mem (w.heap.size + 1) = none := by
    cases hr : Rx.mem (w.heap.size + 1) with
    | none => rfl
    | some o => have := (Array.getElem?_eq_some_iff.1 (hs.ro _ _ hr)).1;omega
  have hrr := RO.none_of_le hR hxr
  have hrl := RO.none_of_le hR hxl
  obtain ⟨R1, hR1⟩ : ∃ R1, (R.with w.heap.size (.deferred (some []))).with (w.heap.size + 1) (.loop (rec .ready none)) = R1 := ⟨_, rfl⟩
  obtain ⟨X1, hX1⟩ : ∃ X1, (Rx.with w.heap.size (.deferred (some []))).with (w.heap.size + 1) (.loop (rec .ready none)) = X1 := ⟨_, rfl⟩
  rw [hX1] at hs1
  have le1 : R1.le X1 := by
    rw [← hR1, ← hX1]
    refine ⟨fun b o hb => ?_, hR.os, hR.tape, hR.out⟩
    by_cases h1 : b = w.heap.size + 1
    · subst h1;rw [RO.with_same] at hb ⊢;exact hb
    · rw [RO.with_ne _ _ h1] at hb ⊢
      by_cases h2 : b = w.heap.size
      · subst h2;rw [RO.with_same] at hb ⊢;exact hb
      · rw [RO.with_ne _ _ h2] at hb ⊢;exact hR.mem b o hb
  have le0 : R.le R1 := by
    rw [← hR1]
    refine ⟨fun b o hb => ?_, rfl, rfl, rfl⟩
    rw [RO.with_ne _ _ (fun h => by subst h;rw [hrl] at hb;cases hb), RO.with_ne _ _ (fun h => by subst h;rw [hrr] at hb;cases hb)]
    exact hb
  have xl : X1.mem (w.heap.size + 1) = some (.loop (rec .ready none)) := by rw [← hX1];exact RO.with_same _ _ _
  have r1l : R1.mem (w.heap.size + 1) = some (.loop (rec .ready none)) := by rw [← hR1];exact RO.with_same _ _ _
  have xr : X1.mem w.heap.size = some (.deferred (some [])) := by rw [← hX1, RO.with_ne _ _ (by omega)];exact RO.with_same _ _ _
  have xle : Rx.le X1 := by
    rw [← hX1]
    refine ⟨fun b o hb => ?_, rfl, rfl, rfl⟩
    rw [RO.with_ne _ _ (fun h => by subst h;rw [hxl] at hb;cases hb), RO.with_ne _ _ (fun h => by subst h;rw [hxr] at hb;cases hb)]
    exact hb
  refine ⟨w.heap.size + 1, [{ target := .collected w.heap.size, args := #[] }], (w.alloc (.deferred (some []))).alloc (.loop (rec .ready none)), { target := .fn (.func f) cap, args := #[.func (.yield (w.heap.size + 1)) #[] #[]] },
    (w.alloc (.deferred (some []))).alloc (.loop (rec .ready none)), f, #[.func (.yield (w.heap.size + 1)) #[] #[]] ++ cap, (w.alloc (.deferred (some []))).alloc (.loop (rec .ready none)), ?_, ?_, ?_, ?_, fun _ => Nat.le_refl 1, ?_⟩
  · rw [hrec];exact run_enterLoop_outer _ _ _ _ _
  · have hg' : s.act.eval g = .func (.func f) #[] cap := by rw [St.eval];exact hg
    simp only [resolve, hg']
    simp [go_sem]
  · intro f' hf';simp [Target.leads] at hf';subst hf';trivial
  · simp [invoke, go_sem, he]
  · refine (callsIn_wide (n := 1 - 1)).2 ?_
    have hy : ∀ pre x y, J pre y → pre.length < n → YDoesJ P (w.heap.size + 1) (enc x) R1 (Hs y) Hs (J (pre ++ [x])) := fun pre x y hj hn =>
      YDoesJ.of (R := R) (tm := s.tm) (fn := fn) (db := w.heap.size) (hlen x) le0 hrl (by rw [r1l, hrec];rfl) (hbody pre x y hj hn _)
    have hcall := hcall (w.heap.size + 1) R1 le0 hy X1 _ le1 (h0 ▸ hs1)
    have ha : (Value.func (.yield (w.heap.size + 1)) #[] #[]::cap.toList).toArray = #[.func (.yield (w.heap.size + 1)) #[] #[]] ++ cap := by simp
    rw [ha] at hcall
    refine hcall.mono ?_
    rintro e w3 ⟨o, G, B, X2, rfl, ⟨rfl, rfl, pre, y, hJ, hF, rfl⟩, hx, hs3⟩
    have x2l := hx.lex.mem _ _ xl
    have x2r := hx.lex.mem _ _ xr
    refine ⟨none, w3.putObj (w.heap.size + 1) (.loop (rec .exhausted none)), ?_, ?_⟩
    · have := run_endLoop (P := P) (hs3.ro _ _ x2l) (by rw [hrec];simp)
      rw [hrec] at this ⊢;exact this
    · refine ⟨.normal, ⟨s.tm, { target := .collected w.heap.size, args := #[] }::s.df, Hs y⟩, R.with w.heap.size (.deferred (some [])), X2.less (w.heap.size + 1), rfl, rfl, .inl ⟨(w.heap.size, y), ⟨⟨RO.with_same _ _ _, hrr⟩, pre, hJ, hF⟩, rfl, ⟨rfl, rfl, List.take_length⟩⟩, ?_, hs3.put _ x2l⟩
      refine ⟨⟨fun b o hb => ?_, rfl, rfl, rfl⟩, ⟨fun b o hb => ?_, hx.lex.os.trans xle.os, hx.lex.tape.trans xle.tape, hx.lex.out.trans xle.out⟩, ⟨fun b o hb => ?_, (hx.lex.os.trans xle.os).trans hR.os, (hx.lex.tape.trans xle.tape).trans hR.tape, (hx.lex.out.trans xle.out).trans hR.out⟩, fun b hb => ?_⟩
      · rw [RO.with_ne _ _ (fun h => by subst h;rw [hrr] at hb;cases hb)];exact hb
      · rw [RO.less_ne _ (fun h => by subst h;rw [hxl] at hb;cases hb)];exact hx.lex.mem b o (xle.mem b o hb)
      · by_cases h2 : b = w.heap.size
        · subst h2
          rw [RO.with_same] at hb;cases hb
          rw [RO.less_ne _ (by omega)];exact x2r
        · rw [RO.with_ne _ _ h2] at hb
          rw [RO.less_ne _ (fun h => by subst h;rw [hrl] at hb;cases hb)]
          exact hx.lex.mem b o (xle.mem b o (hR.mem b o hb))
      · by_cases h2 : b = w.heap.size
        · subst h2;exact .inr hxr
        · rw [RO.with_ne _ _ h2] at hb;exact .inl hb
theorem CT.range_runJ_eq {α σ : Type} {c : Code} {s : St} {R : RO} (f : FuncId) (cap : Array Value) {k : Nat×σ → Sc} (n : Nat) (enc : α → List Value) (Hs : σ → Hp) (J : List α → σ → Prop) (F : List α → Prop) (z : σ)
    (hc : c = .rangeFunc (rgO c) (rgP c) (rgA c) (rgB c)) (hg : ev s.tm (rgO c) = .func (.func f) #[] cap) (he : ∀ args : Array Value, pureE P (callFunc f args) = some (f, args)) (h0 : s.hp = Hs z) (hlen : ∀ x, (enc x).length = (rgP c).size)
    (hbody : ∀ pre x y, J pre y → pre.length < n → ∀ l, RBK (some l) P (rgA c) (rgB c) ⟨putps s.tm (rgP c).toList (enc x), [], Hs y⟩ R Hs (J (pre ++ [x])))
    (hcall : ∀ (l : Nat) (R1 : RO), R.le R1 → (∀ pre x y, J pre y → pre.length < n → YDoesJ P l (enc x) R1 (Hs y) Hs (J (pre ++ [x]))) →
      Does P f (.func (.yield l) #[] #[]::cap.toList) R1 (Hs z) fun o G B => G = R1∧o = .ret (.tuple #[])∧∃ pre y, J pre y∧F pre∧B = Hs y) :
    CT P c s R (altPost R (.altG (Nat×σ) (fun x G => (G.mem x.1 = some (.deferred (some []))∧R.mem x.1 = none)∧∃ pre, J pre x.2∧F pre) (fun x => (.normal, ⟨s.tm, { target := .collected x.1, args := #[] }::s.df, Hs x.2⟩)) k .altn)) := by
  have := CT.range_runJ (P := P) (ps := rgP c) (assign := rgA c) (body := rgB c) (s := s) (R := R) (f := f) (cap := cap) (k := k) n enc Hs J F z hg (fun args w => pureE_run (he args) w) h0 hlen hbody hcall
  rw [← hc] at this
  exact this
end
end Vc
namespace Go.Proofs.YtehbmooelcjfoaaDoor
open Vc Go
set_option linter.unusedVariables false
set_option linter.unusedSimpArgs false
abbrev MPz := List (Int×Int×Nat)
abbrev KS := (Option Nat×Nat)×Nat×List Value
abbrev kHs (bx M SB c : Nat) (m : MPz) (y : KS) : Hp := [some (bx, .row [.map (some M)] 89 1), some (M, .map (ents (Value.int .u32) (Value.int .i64) m) c), some (SB, .row [gsv y.1.1 y.2.1 y.1.2] 90 1), gsb y.1.1 y.2.2 23 (y.1.2 * 1)]
def kJ (pre : List Int) (y : KS) : Prop := y.2.1 = pre.length∧y.2.2 = pre.map (Value.int .u32)∧(y.1.1 = none ↔ pre = [])∧(y.1.1 = none → y.1.2 = 0)∧pre.length ≤ y.1.2∧y.1.2 ≤ maxLen
theorem kJ_nil : kJ [] ((none, 0), 0, []) := ⟨rfl, rfl, by simp, by simp, by simp, by simp [maxLen]⟩
theorem kJ_snoc {pre : List Int} {y : KS} {x : Int} {z : Nat×Nat} (h : kJ pre y) (hz : y.2.1 + 1 ≤ z.2∧z.2 ≤ maxLen) : kJ (pre ++ [x]) ((some z.1, z.2), y.2.1 + 1, y.2.2 ++ [vu x]) :=
  ⟨by show y.2.1 + 1 = _;rw [h.1];simp, by show y.2.2 ++ _ = _;rw [h.2.1];simp, by simp, by simp, by show _ ≤ z.2;have := h.1;simp;omega, hz.2⟩
theorem lft_nin {m : MPz} {seen : List Nat} {x : Int×Int×Nat} (h : x ∈ lft m seen) : x.2.2 ∉ seen := by
  have := (List.mem_filter.1 h).2
  simpa using this
theorem lft_lt {m : MPz} {seen : List Nat} {x : Int×Int×Nat} (h : x ∈ lft m seen) : (lft m (seen ++ [x.2.2])).length < (lft m seen).length := by
  have e : lft m (seen ++ [x.2.2]) = (lft m seen).filter fun y => !(y.2.2 == x.2.2) := by
    unfold lft
    rw [List.filter_filter]
    apply List.filter_congr
    intro y _
    by_cases h1 : y.2.2 ∈ seen <;> by_cases h2 : y.2.2 = x.2.2 <;> simp [h1, h2]
  rw [e]
  exact List.length_filter_lt_length_iff_exists.2 ⟨x, h, by simp⟩
theorem nodup_of_map {α β : Type} {f : α → β} {l : List α} (h : (l.map f).Nodup) : l.Nodup := (List.pairwise_map.1 h).imp fun h e => h (by rw [e])
theorem born_one {x z : Int×Int×Nat} : ∀ {m : MPz}, (m.map (·.2.2)).Nodup → x ∈ m → z ∈ m → z.2.2 = x.2.2 → z = x
  | [], _, h, _, _ => by cases h
  | y::m, hn, hx, hz, he => by
    simp only [List.map_cons, List.nodup_cons] at hn
    rcases List.mem_cons.1 hx with h1 | h1 <;> rcases List.mem_cons.1 hz with h2 | h2
    · rw [h1, h2]
    · exact (hn.1 (by rw [← h1, ← he];exact List.mem_map_of_mem (f := (·.2.2)) h2)).elim
    · exact (hn.1 (by rw [← h2, he];exact List.mem_map_of_mem (f := (·.2.2)) h1)).elim
    · exact born_one hn.2 h1 h2 he
theorem len_le {α : Type} [DecidableEq α] : ∀ {l m : List α}, l.Nodup → l ⊆ m → l.length ≤ m.length
  | [], m, _, _ => Nat.zero_le _
  | a::l, m, hn, hs => by
    rw [List.nodup_cons] at hn
    have ha : a ∈ m := hs (List.mem_cons_self ..)
    have := len_le (l := l) (m := m.erase a) hn.2 fun x hx => (List.mem_erase_of_ne (by intro he;rw [he] at hx;exact hn.1 hx)).2 (hs (List.mem_cons_of_mem _ hx))
    rw [List.length_erase_of_mem ha] at this
    have := List.length_pos_of_mem ha
    simp only [List.length_cons];omega
theorem vis_perm {m vis : MPz} (h1 : vis ⊆ m) (h2 : (vis.map (·.2.2)).Nodup) {c : Nat} (hS : Stm m c) (h3 : lft m (vis.map (·.2.2)) = []) : (vis.map (·.1)).Perm (m.map (·.1)) := by
  refine List.Perm.map _ ?_
  have hn : vis.Nodup := nodup_of_map h2
  have hm : m.Nodup := nodup_of_map hS.born
  refine (List.perm_ext_iff_of_nodup hn hm).2 fun x => ⟨fun h => h1 h, fun h => ?_⟩
  have h4 : x ∉ lft m (vis.map (·.2.2)) := by rw [h3];simp
  have h5 : x.2.2 ∈ vis.map (·.2.2) := by
    rcases Classical.em (x.2.2 ∈ vis.map (·.2.2)) with h | h'
    · exact h
    · exact (h4 (List.mem_filter.2 ⟨h, by simpa using h'⟩)).elim
  obtain ⟨z, hz, he⟩ := List.mem_map.1 h5
  have : z = x := born_one hS.born h (h1 hz) he
  rw [← this];exact hz
theorem ky_lt {m vis : MPz} {seen : List Nat} {c : Nat} (hS : Stm m c) (h1 : vis ⊆ m) (h2 : (vis.map (·.2.2)).Nodup) (h3 : seen = vis.map (·.2.2)) {x : Int×Int×Nat} (hx : x ∈ lft m seen) : (vis.map (·.1)).length < m.length := by
  have hn : (vis ++ [x]).Nodup := by
    refine nodup_of_map (f := (·.2.2)) ?_
    rw [List.map_append, List.nodup_append]
    refine ⟨h2, by simp, fun a ha b hb => ?_⟩
    simp only [List.map_cons, List.map_nil, List.mem_singleton] at hb
    subst hb
    intro he
    exact lft_nin hx (h3 ▸ he ▸ ha)
  have hs : (vis ++ [x]) ⊆ m := fun z hz => by
    rcases List.mem_append.1 hz with h | h
    · exact h1 h
    · simp only [List.mem_singleton] at h;rw [h];exact (List.mem_filter.1 hx).1
  have := len_le hn hs
  simp at this ⊢
  omega
theorem ky_nodup {vis m : MPz} {seen : List Nat} (h2 : (vis.map (·.2.2)).Nodup) (h3 : seen = vis.map (·.2.2)) {x : Int×Int×Nat} (hx : x ∈ lft m seen) : ((vis ++ [x]).map (·.2.2)).Nodup := by
  rw [List.map_append, List.nodup_append]
  refine ⟨h2, by simp, fun a ha b hb => ?_⟩
  simp only [List.map_cons, List.map_nil, List.mem_singleton] at hb
  subst hb
  intro he
  exact lft_nin hx (h3 ▸ he ▸ ha)
theorem ky_sub {vis m : MPz} {seen : List Nat} (h1 : vis ⊆ m) {x : Int×Int×Nat} (hx : x ∈ lft m seen) : (vis ++ [x]) ⊆ m := fun z hz => by
  rcases List.mem_append.1 hz with h | h
  · exact h1 h
  · simp only [List.mem_singleton] at h;rw [h];exact (List.mem_filter.1 hx).1
noncomputable def keys1_ok_L1_inv (bx M SB l c : Nat) (m : MPz) (y : KS) (y0 : Nat)  : (List (Int×Int×Nat))×(List Nat)×KS×NV → St := fun zx => ⟨(.func (.yield l) #[] #[]::ptA bx::undef::(zx.2.2.2 3)::.map (some M)::ptA y0::urun zx.2.2.2 6 8 []), [], [some (bx, .row [.map (some M)] 89 1), some (M, .map (ents (Value.int .u32) (Value.int .i64) m) c), some (SB, .row [gsv zx.2.2.1.1.1 zx.2.2.1.2.1 zx.2.2.1.1.2] 90 1), gsb zx.2.2.1.1.1 zx.2.2.1.2.2 23 (zx.2.2.1.1.2 * 1), some (y0, .obj (mit M c zx.2.1))]⟩
def keys1_ok_L1_I (bx M SB l c : Nat) (m : MPz) (y : KS) (y0 : Nat)  (R : RO) : (List (Int×Int×Nat))×(List Nat)×KS×NV → RO → Prop := fun zx G => G = R∧(zx.1 ⊆ m∧(zx.1.map (·.2.2)).Nodup∧zx.2.1 = zx.1.map (·.2.2)∧kJ (zx.1.map (·.1)) zx.2.2.1)
def keys1_ok_L1_mu (bx M SB l c : Nat) (m : MPz) (y : KS) (y0 : Nat)  : (List (Int×Int×Nat))×(List Nat)×KS×NV → Nat := fun zx => (lft m zx.2.1).length
noncomputable def keys1_ok_L1_K (bx M SB l c : Nat) (m : MPz) (y : KS) (y0 : Nat)  (R : RO) : Exit' → St → RO → Prop := altPost R (.alt ((List (Int×Int×Nat))×(List Nat)×KS×NV) (fun zx => (zx.1.map (·.1)).Perm (m.map (·.1))∧kJ (zx.1.map (·.1)) zx.2.2.1) (fun zx => (.exit 0, ((keys1_ok_L1_inv bx M SB l c m y y0 zx).up [] [some (bx, .row [.map (some M)] 89 1), some (M, .map (ents (Value.int .u32) (Value.int .i64) m) c), some (SB, .row [gsv zx.2.2.1.1.1 zx.2.2.1.2.1 zx.2.2.1.1.2] 90 1), gsb zx.2.2.1.1.1 zx.2.2.1.2.2 23 (zx.2.2.1.1.2 * 1), some (y0, .obj (mit M c zx.2.1))]))) (fun _ => .altn) .altn)
theorem keys1_ok_L1_body (bx M SB l c : Nat) (m : MPz) (y : KS) (y0 : Nat)  (R : RO) (hS : Stm m c) (hy : ∀ pre x y, kJ pre y → pre.length < m.length → YDoesJ Tryd.prog l [vu x] R (kHs bx M SB c m y) (kHs bx M SB c m) (kJ (pre ++ [x]))) (vis : List (Int×Int×Nat)) (seen : List Nat) (yy : KS) (u1 : Nat → Value) (hI : vis ⊆ m∧(vis.map (·.2.2)).Nodup∧seen = vis.map (·.2.2)∧kJ (vis.map (·.1)) yy) : CT Tryd.prog (sub (bodyOf Tryd.f60) [1, 0, 0]) (keys1_ok_L1_inv bx M SB l c m y y0 (vis, seen, yy, u1)) R (LK (keys1_ok_L1_inv bx M SB l c m y y0) (keys1_ok_L1_I bx M SB l c m y y0 R) (keys1_ok_L1_mu bx M SB l c m y y0) (keys1_ok_L1_K bx M SB l c m y y0 R) (vis, seen, yy, u1)) :=
  CT.of_wp_eq (VC := (let z0 := (ents (Value.int .u32) (Value.int .i64) m);let z3 : Hp := [some (M, .map z0 c), some (y0, .obj (mit M c seen))];(((lft m seen).isEmpty) = true → (Prim0 Tryd.prog (.nxt 0 (ptA y0) false) R z3 (.tuple #[.bool false]) z3)∧LK (keys1_ok_L1_inv bx M SB l c m y y0) (keys1_ok_L1_I bx M SB l c m y y0 R) (keys1_ok_L1_mu bx M SB l c m y y0) (keys1_ok_L1_K bx M SB l c m y y0 R) (vis, seen, yy, u1) (.exit 0) ((keys1_ok_L1_inv bx M SB l c m y y0 (vis, seen, yy, u1)).up [(6, .tuple #[.bool false]), (7, .bool false)] [some (bx, .row [.map (some M)] 89 1), some (M, .map z0 c), some (SB, .row [gsv yy.1.1 yy.2.1 yy.1.2] 90 1), gsb yy.1.1 yy.2.2 23 (yy.1.2 * 1), some (y0, .obj (mit M c seen))]) R)∧(((lft m seen).isEmpty) = false → (PrimOK Tryd.prog (.nxt 0 (ptA y0) false) R z3 ({x : Int×Int×Nat // x ∈ lft m seen}) (fun w53 => True) (fun w53 => (.tuple #[.bool true, vu w53.1.1, vi w53.1.2.1], [some (M, .map z0 c), some (y0, .obj (mit M c (seen ++ [w53.1.2.2])))])))∧∀ w53 : {x : Int×Int×Nat // x ∈ lft m seen}, let z4 : Array Value := #[vu w53.1.1, vi w53.1.2.1];let z2 := (mit M c (seen ++ [w53.1.2.2]));let z1 : List Value := [.func (.yield l) #[] #[], ptA bx, undef, vu w53.1.1, .map (some M), ptA y0, .tuple #[.bool true, vu w53.1.1, vi w53.1.2.1], .bool true, .tuple z4, vu w53.1.1, .func (.yield l) #[] #[], vu w53.1.1, .bool true, .bool false];(True) → (Prim0 Tryd.prog (.ent (ptA y0)) R [some (M, .map z0 c), some (y0, .obj z2)] (.tuple z4) [some (M, .map z0 c), some (y0, .obj z2)])∧(CT Tryd.prog (sub (bodyOf Tryd.f60) [1, 0, 0, 1, 1, 0, 1, 0]) ⟨(.func (.yield l) #[] #[]::ptA bx::undef::vu w53.1.1::.map (some M)::ptA y0::.tuple #[.bool true, vu w53.1.1, vi w53.1.2.1]::.bool true::.tuple z4::vu w53.1.1::urun u1 10 4 []), [], [some (bx, .row [.map (some M)] 89 1), some (M, .map z0 c), some (SB, .row [gsv yy.1.1 yy.2.1 yy.1.2] 90 1), gsb yy.1.1 yy.2.2 23 (yy.1.2 * 1), some (y0, .obj z2)]⟩ R (altPost R (.alt ({y : KS // kJ (vis.map (·.1) ++ [w53.1.1]) y}) (fun zx => True) (fun zx => (.normal, ⟨z1, [], [some (bx, .row [.map (some M)] 89 1), some (M, .map z0 c), some (SB, .row [gsv zx.1.1.1 zx.1.2.1 zx.1.1.2] 90 1), gsb zx.1.1.1 zx.1.2.2 23 (zx.1.1.2 * 1), some (y0, .obj z2)]⟩)) (fun _ => .altn) .altn)))∧(∀ zu54 : {y : KS // kJ (vis.map (·.1) ++ [w53.1.1]) y}, (True) → LK (keys1_ok_L1_inv bx M SB l c m y y0) (keys1_ok_L1_I bx M SB l c m y y0 R) (keys1_ok_L1_mu bx M SB l c m y y0) (keys1_ok_L1_K bx M SB l c m y y0 R) (vis, seen, yy, u1) .normal ⟨z1, [], [some (bx, .row [.map (some M)] 89 1), some (M, .map z0 c), some (SB, .row [gsv zu54.1.1.1 zu54.1.2.1 zu54.1.1.2] 90 1), gsb zu54.1.1.1 zu54.1.2.2 23 (zu54.1.1.2 * 1), some (y0, .obj z2)]⟩ R)∧True))) (let y_0 := (ents (Value.int .u32) (Value.int .i64) m);.cs ((lft m seen).isEmpty) (ops [.pr0 [1, 4] [] (fun e v => .tuple #[.bool false]) (fun e v => [some (M, .map y_0 c), some (y0, .obj (mit M c seen))]), .d] (.fin [] [])) (.opp [1, 4] [] ({x : Int×Int×Nat // x ∈ lft m seen}) (fun w53 => True) (fun w53 => (.tuple #[.bool true, vu w53.1.1, vi w53.1.2.1], [some (M, .map y_0 c), some (y0, .obj (mit M c (seen ++ [w53.1.2.2])))])) (fun w53 => (ops [.d, .pr0 [1, 4] [] (fun e v => .tuple #[vu w53.1.1, vi w53.1.2.1]) (fun e v => [some (M, .map y_0 c), some (y0, .obj (mit M c (seen ++ [w53.1.2.2])))]), .d, .d] (.alt ({y : KS // kJ (vis.map (·.1) ++ [w53.1.1]) y}) (fun zx => True) (fun zx => (.normal, ⟨[.func (.yield l) #[] #[], ptA bx, undef, vu w53.1.1, .map (some M), ptA y0, .tuple #[.bool true, vu w53.1.1, vi w53.1.2.1], .bool true, .tuple #[vu w53.1.1, vi w53.1.2.1], vu w53.1.1, .func (.yield l) #[] #[], vu w53.1.1, .bool true, .bool false], [], [some (bx, .row [.map (some M)] 89 1), some (M, .map y_0 c), some (SB, .row [gsv zx.1.1.1 zx.1.2.1 zx.1.1.2] 90 1), gsb zx.1.1.1 zx.1.2.2 23 (zx.1.1.2 * 1), some (y0, .obj (mit M c (seen ++ [w53.1.2.2])))]⟩)) (fun zu54 => (.fin [] [])) .altn))))) (by kernel_rfl)
    (⟨fun h52 => ⟨(nxt_done hS (List.isEmpty_iff.1 h52)), altA (fun zw => (vis, seen, yy, zw)) ⟨(show (vis.map (·.1)).Perm (m.map (·.1))∧kJ (vis.map (·.1)) yy from ⟨vis_perm hI.1 hI.2.1 hS (by rw [← hI.2.2.1];exact List.isEmpty_iff.1 h52), hI.2.2.2⟩), (by show _ = _;kernel_rfl), ⟨(by show _ = _;kernel_rfl), (by show _ = _;kernel_rfl), (by show _ = _;kernel_rfl)⟩⟩⟩, fun h52 => ⟨(nxt_more hS (fun h9 => by rw [h9] at h52;cases h52)), fun w53 qw53 => ⟨(ent_ok hS (List.mem_filter.1 w53.2).1), ⟨CT.of_wpY_eq (VC := (let z1 := (ents (Value.int .u32) (Value.int .i64) m);let z0 : List Value := [.func (.yield l) #[] #[], ptA bx, undef, vu w53.1.1, .map (some M), ptA y0, .tuple #[.bool true, vu w53.1.1, vi w53.1.2.1], .bool true, .tuple #[vu w53.1.1, vi w53.1.2.1], vu w53.1.1, .func (.yield l) #[] #[], vu w53.1.1, .bool true, .bool false];(YDoes Tryd.prog l [vu w53.1.1] R [some (bx, .row [.map (some M)] 89 1), some (M, .map z1 c), some (SB, .row [gsv yy.1.1 yy.2.1 yy.1.2] 90 1), gsb yy.1.1 yy.2.2 23 (yy.1.2 * 1)] ({y : KS // kJ (vis.map (·.1) ++ [w53.1.1]) y}) (fun zu54 => (.bool true, [some (bx, .row [.map (some M)] 89 1), some (M, .map z1 c), some (SB, .row [gsv zu54.1.1.1 zu54.1.2.1 zu54.1.1.2] 90 1), gsb zu54.1.1.1 zu54.1.2.2 23 (zu54.1.1.2 * 1)])))∧∀ zu54 : {y : KS // kJ (vis.map (·.1) ++ [w53.1.1]) y}, altPost R (.alt ({y : KS // kJ (vis.map (·.1) ++ [w53.1.1]) y}) (fun _ => True) (fun zx => (.normal, ⟨z0, [], [some (bx, .row [.map (some M)] 89 1), some (M, .map z1 c), some (SB, .row [gsv zx.1.1.1 zx.1.2.1 zx.1.1.2] 90 1), gsb zx.1.1.1 zx.1.2.2 23 (zx.1.1.2 * 1), some (y0, .obj (mit M c (seen ++ [w53.1.2.2])))]⟩)) (fun _ => .altn) .altn) .normal ⟨z0, [], [some (bx, .row [.map (some M)] 89 1), some (M, .map z1 c), some (SB, .row [gsv zu54.1.1.1 zu54.1.2.1 zu54.1.1.2] 90 1), gsb zu54.1.1.1 zu54.1.2.2 23 (zu54.1.1.2 * 1), some (y0, .obj (mit M c (seen ++ [w53.1.2.2])))]⟩ R)) (ops [.d, .d] (.opx [0, 1, 2, 3] [] ({y : KS // kJ (vis.map (·.1) ++ [w53.1.1]) y}) (fun zu54 => (.bool true, [some (bx, .row [.map (some M)] 89 1), some (M, .map (ents (Value.int .u32) (Value.int .i64) m) c), some (SB, .row [gsv zu54.1.1.1 zu54.1.2.1 zu54.1.1.2] 90 1), gsb zu54.1.1.1 zu54.1.2.2 23 (zu54.1.1.2 * 1)])) (fun zu54 => (ops [.d] (.fin [] []))))) (by kernel_rfl) (⟨(hy (vis.map (·.1)) w53.1.1 yy hI.2.2.2 (ky_lt hS hI.1 hI.2.1 hI.2.2.1 w53.2)), fun zu54 => Or.inl ⟨rfl, zu54, trivial, rfl, ⟨rfl, rfl, rfl⟩⟩⟩), ⟨fun zu54 qzu54 => LKn (fun zw => ((vis ++ [w53.1]), (seen ++ [w53.1.2.2]), zu54.1, zw)) ⟨⟨rfl, (show (vis ++ [w53.1]) ⊆ m∧((vis ++ [w53.1]).map (·.2.2)).Nodup∧(seen ++ [w53.1.2.2]) = (vis ++ [w53.1]).map (·.2.2)∧kJ ((vis ++ [w53.1]).map (·.1)) zu54.1 from ⟨ky_sub hI.1 w53.2, ky_nodup hI.2.1 hI.2.2.1 w53.2, (by rw [List.map_append, ← hI.2.2.1];rfl), (by rw [List.map_append];exact zu54.2)⟩)⟩, (show (lft m (seen ++ [w53.1.2.2])).length < (lft m seen).length from (lft_lt w53.2)), ⟨rfl, rfl, rfl⟩⟩, trivial⟩⟩⟩⟩⟩)
theorem keys1_ok_L1_ct (bx M SB l c : Nat) (m : MPz) (y : KS) (y0 : Nat)  (R : RO) (hS : Stm m c) (hy : ∀ pre x y, kJ pre y → pre.length < m.length → YDoesJ Tryd.prog l [vu x] R (kHs bx M SB c m y) (kHs bx M SB c m) (kJ (pre ++ [x]))) (h0 : kJ [] y) : CT Tryd.prog (sub (bodyOf Tryd.f60) [1, 0]) ⟨(.func (.yield l) #[] #[]::ptA bx::undef::undef::.map (some M)::ptA y0::uns 8 []), [], [some (bx, .row [.map (some M)] 89 1), some (M, .map (ents (Value.int .u32) (Value.int .i64) m) c), some (SB, .row [gsv y.1.1 y.2.1 y.1.2] 90 1), gsb y.1.1 y.2.2 23 (y.1.2 * 1), some (y0, .obj (mit M c []))]⟩ R (keys1_ok_L1_K bx M SB l c m y y0 R) :=
  CT.loop_eqs (keys1_ok_L1_inv bx M SB l c m y y0) (keys1_ok_L1_I bx M SB l c m y y0 R) (keys1_ok_L1_mu bx M SB l c m y y0) (fun zw => (([] : List (Int×Int×Nat)), ([] : List Nat), y, zw)) (by kernel_rfl) (by kernel_rfl) ⟨rfl, (show ([] : List (Int×Int×Nat)) ⊆ m∧(([] : List (Int×Int×Nat)).map (·.2.2)).Nodup∧([] : List Nat) = ([] : List (Int×Int×Nat)).map (·.2.2)∧kJ (([] : List (Int×Int×Nat)).map (·.1)) y from ⟨by simp, by simp, rfl, h0⟩)⟩
    (by
      rintro ⟨vis, seen, yy, u1⟩ G hG ⟨rfl, hI⟩
      exact keys1_ok_L1_body bx M SB l c m y y0 _ hS hy vis seen yy u1 hI)
theorem keys1_ok (bx M SB l c : Nat) (m : MPz) (y : KS) (R : RO) (hS : Stm m c) (hy : ∀ pre x y, kJ pre y → pre.length < m.length → YDoesJ Tryd.prog l [vu x] R (kHs bx M SB c m y) (kHs bx M SB c m) (kJ (pre ++ [x]))) (h0 : kJ [] y) : GivesX Tryd.prog 60 [.func (.yield l) #[] #[], ptA bx] R [some (bx, .row [.map (some M)] 89 1), some (M, .map (ents (Value.int .u32) (Value.int .i64) m) c), some (SB, .row [gsv y.1.1 y.2.1 y.1.2] 90 1), gsb y.1.1 y.2.2 23 (y.1.2 * 1)] ({y : KS // ∃ pre : List Int, kJ pre y∧pre.Perm (m.map (·.1))}) (fun z => (.tuple #[], [some (bx, .row [.map (some M)] 89 1), some (M, .map (ents (Value.int .u32) (Value.int .i64) m) c), some (SB, .row [gsv z.1.1.1 z.1.2.1 z.1.1.2] 90 1), gsb z.1.1.1 z.1.2.2 23 (z.1.1.2 * 1)])) :=
  Does.of_wp_eq (VC := (let z0 := (ents (Value.int .u32) (Value.int .i64) m);(bx = bx)∧(PrimOK Tryd.prog (.rng 89 (.map (some M))) R [some (M, .map z0 c)] (Nat) (fun y0 => True) (fun y0 => (ptA y0, [some (M, .map z0 c), some (y0, .obj (mit M c []))])))∧∀ y0 : Nat, (True) → (CT Tryd.prog (sub (bodyOf Tryd.f60) [1, 0]) ⟨(.func (.yield l) #[] #[]::ptA bx::undef::undef::.map (some M)::ptA y0::uns 8 []), [], [some (bx, .row [.map (some M)] 89 1), some (M, .map z0 c), some (SB, .row [gsv y.1.1 y.2.1 y.1.2] 90 1), gsb y.1.1 y.2.2 23 (y.1.2 * 1), some (y0, .obj (mit M c []))]⟩ R (keys1_ok_L1_K bx M SB l c m y y0 R))∧(∀ x2 : (List (Int×Int×Nat))×(List Nat)×KS×NV, ((x2.1.map (·.1)).Perm (m.map (·.1))∧kJ (x2.1.map (·.1)) x2.2.2.1) → GX R ({y : KS // ∃ pre : List Int, kJ pre y∧pre.Perm (m.map (·.1))}) (fun z => (.tuple #[], [some (bx, .row [.map (some M)] 89 1), some (M, .map z0 c), some (SB, .row [gsv z.1.1.1 z.1.2.1 z.1.1.2] 90 1), gsb z.1.1.1 z.1.2.2 23 (z.1.1.2 * 1)])) (.ret (.tuple #[])) R [some (bx, .row [.map (some M)] 89 1), some (M, .map z0 c), some (SB, .row [gsv x2.2.2.1.1.1 x2.2.2.1.2.1 x2.2.2.1.1.2] 90 1), gsb x2.2.2.1.1.1 x2.2.2.1.2.2 23 (x2.2.2.1.1.2 * 1)])∧True)) (ops [.p 0] (.opp [1] [4] (Nat) (fun y0 => True) (fun y0 => (ptA y0, [some (M, .map (ents (Value.int .u32) (Value.int .i64) m) c), some (y0, .obj (mit M c []))])) (fun y0 => (.alt ((List (Int×Int×Nat))×(List Nat)×KS×NV) (fun zx => (zx.1.map (·.1)).Perm (m.map (·.1))∧kJ (zx.1.map (·.1)) zx.2.2.1) (fun zx => (.exit 0, ((keys1_ok_L1_inv bx M SB l c m y y0 zx).up [] [some (bx, .row [.map (some M)] 89 1), some (M, .map (ents (Value.int .u32) (Value.int .i64) m) c), some (SB, .row [gsv zx.2.2.1.1.1 zx.2.2.1.2.1 zx.2.2.1.1.2] 90 1), gsb zx.2.2.1.1.1 zx.2.2.1.2.2 23 (zx.2.2.1.1.2 * 1), some (y0, .obj (mit M c zx.2.1))]))) (fun x2 => (.fin [0, 1, 2, 3] [])) .altn)))) Tryd.func60 (by kernel_rfl) (by kernel_rfl)
    (⟨rfl, ⟨(rng_ok (k := 23) (e := 3) (by kernel_rfl)), fun y0 qy0 => ⟨keys1_ok_L1_ct bx M SB l c m y y0 R hS hy h0, ⟨fun x2 qx2 => ⟨rfl, ⟨x2.2.2.1, x2.1.map (·.1), qx2.2, qx2.1⟩, (by rfl), (by rfl)⟩, trivial⟩⟩⟩⟩)
theorem keys1_do (bx M SB l c : Nat) (m : MPz) (R : RO) (hS : Stm m c) (hy : ∀ pre x y, kJ pre y → pre.length < m.length → YDoesJ Tryd.prog l [vu x] R (kHs bx M SB c m y) (kHs bx M SB c m) (kJ (pre ++ [x]))) :
    Does Tryd.prog 60 [.func (.yield l) #[] #[], ptA bx] R (kHs bx M SB c m ((none, 0), 0, [])) fun o G B => G = R∧o = .ret (.tuple #[])∧∃ pre y, kJ pre y∧pre.Perm (m.map (·.1))∧B = kHs bx M SB c m y :=
  (keys1_ok bx M SB l c m ((none, 0), 0, []) R hS hy kJ_nil).mono (by
    rintro o G B hle ⟨rfl, ⟨y, pre, h1, h2⟩, rfl, rfl⟩
    exact ⟨rfl, rfl, pre, y, h1, h2, rfl⟩)
theorem gives_none {P : Program} {f : FuncId} {a : List Value} {R : RO} {r : Out} (h : Gives P f a R [] r []) : Gives P f a R [none] r [none] := fun Rx w hR hs => by
  have e : ∀ i, Hp.at [none] i = Hp.at [] i := fun i => by cases i <;> simp [Hp.at, Hp.at_nil]
  refine (h Rx w hR (hs.congr_at fun i => (e i).symm)).mono ?_
  rintro v w' ⟨o, G, H', Rx', h1, ⟨rfl, rfl, rfl⟩, hx, hs'⟩
  exact ⟨_, _, _, Rx', h1, ⟨rfl, rfl, rfl⟩, hx, hs'.congr_at e⟩
theorem sort_gs (b : Option Nat) (n cap N : Nat) (d : Array Int) (R : RO) (hd : d.size = n) (hn : n ≤ 1152921504606846976) (hb : b = none → n = 0) :
    Gives Tryd.prog 59 [gsv b n cap] R [gsb b (u32l d) 23 N] (.ret (.tuple #[])) [gsb b (u32l (sortA d)) 23 N] := by
  cases b with
  | none =>
    have := hb rfl
    subst this
    exact gives_none (sort_nil cap R)
  | some a =>
    have := sort_ok a n cap N [] d R hd hn
    simp only [List.append_nil] at this
    exact this
theorem sortA_perm {l k : List Int} (h : l.Perm k) : sortA l.toArray = sortA k.toArray := by
  unfold sortA
  congr 1
  exact sortZ_congr h
def ksort (m : MPz) : Array Int := sortA (m.map (·.1)).toArray
theorem ksort_size (m : MPz) : (ksort m).size = m.length := by simp [ksort, sortA]
theorem appendSeq_ok (bx M c : Nat) (m : MPz) (R : RO) (hS : Stm m c) (hm : m.length ≤ 1000000) : GivesX Tryd.prog 68 [.slice none 0 0, .func (.func 60) #[] #[ptA bx]] R [some (bx, .row [.map (some M)] 89 1), some (M, .map (ents (Value.int .u32) (Value.int .i64) m) c)] ({y : KS // ∃ pre : List Int, kJ pre y∧pre.Perm (m.map (·.1))}) (fun y => (gsv y.1.1.1 y.1.2.1 y.1.1.2, [some (bx, .row [.map (some M)] 89 1), some (M, .map (ents (Value.int .u32) (Value.int .i64) m) c), gsb y.1.1.1 y.1.2.2 23 (y.1.1.2 * 1)])) :=
  Does.of_wpm_eq (VC := (let z1 := (ents (Value.int .u32) (Value.int .i64) m);∀ a0 : Nat, let z0 : List Value := (.slice none 0 0::.func (.func 60) #[] #[ptA bx]::ptA a0::undef::.slice none 0 0::undef::.func (.func 60) #[] #[ptA bx]::uns 6 []);(CT Tryd.prog (sub (bodyOf Tryd.f68) [1, 0, 1, 0]) ⟨z0, [], [some (bx, .row [.map (some M)] 89 1), some (M, .map z1 c), some (a0, .row [.slice none 0 0] 90 1)]⟩ R (altPost R (.altG (Nat×KS) (fun r1 G => (G.mem r1.1 = some (.deferred (some []))∧R.mem r1.1 = none)∧∃ pre, kJ pre r1.2∧(fun pre => pre.Perm (m.map (·.1))) pre) (fun r1 => (.normal, ⟨z0, [{ target := .collected r1.1, args := #[] }], [some (bx, .row [.map (some M)] 89 1), some (M, .map z1 c), some (a0, .row [gsv r1.2.1.1 r1.2.2.1 r1.2.1.2] 90 1), gsb r1.2.1.1 r1.2.2.2 23 (r1.2.1.2 * 1)]⟩)) (fun _ => .altn) .altn)))∧(∀ (r1 : (Nat×KS)) (G2 : RO), R.le G2 → ((G2.mem r1.1 = some (.deferred (some []))∧R.mem r1.1 = none)∧∃ pre, kJ pre r1.2∧(fun pre => pre.Perm (m.map (·.1))) pre) → (a0 = a0)∧(G2.mem r1.1 = some (.deferred (some []))∧R.mem r1.1 = none∧R.le G2)∧GX R ({y : KS // ∃ pre : List Int, kJ pre y∧pre.Perm (m.map (·.1))}) (fun y => (gsv y.1.1.1 y.1.2.1 y.1.1.2, [some (bx, .row [.map (some M)] 89 1), some (M, .map z1 c), gsb y.1.1.1 y.1.2.2 23 (y.1.1.2 * 1)])) (.ret (gsv r1.2.1.1 r1.2.2.1 r1.2.1.2)) R [some (bx, .row [.map (some M)] 89 1), some (M, .map z1 c), gsb r1.2.1.1 r1.2.2.2 23 (r1.2.1.2 * 1)])∧True)) (.opn 2 (fun a0 => (ops [.d, .d] (.altG (Nat×KS) (fun r1 G => (G.mem r1.1 = some (.deferred (some []))∧R.mem r1.1 = none)∧∃ pre, kJ pre r1.2∧(fun pre => pre.Perm (m.map (·.1))) pre) (fun r1 => (.normal, ⟨(.slice none 0 0::.func (.func 60) #[] #[ptA bx]::ptA a0::undef::.slice none 0 0::undef::.func (.func 60) #[] #[ptA bx]::uns 6 []), [{ target := .collected r1.1, args := #[] }], [some (bx, .row [.map (some M)] 89 1), some (M, .map (ents (Value.int .u32) (Value.int .i64) m) c), some (a0, .row [gsv r1.2.1.1 r1.2.2.1 r1.2.1.2] 90 1), gsb r1.2.1.1 r1.2.2.2 23 (r1.2.1.2 * 1)]⟩)) (fun r1 => (ops [.p 2, .d] (.fin [0, 1, 3] []))) .altn)))) Tryd.func68 (by kernel_rfl) (by kernel_rfl)
    (fun a0 => ⟨CT.pad 1 <| CT.range_runJ_eq 60 #[ptA bx] m.length (fun x : Int => [Value.int .u32 x]) (kHs bx M a0 c m) kJ (fun pre => pre.Perm (m.map (·.1))) ((none, 0), 0, []) (by kernel_rfl) (by kernel_rfl) (fun _ => by kernel_rfl) (by kernel_rfl) (fun _ => rfl) (fun pre zx zy hJ hn l => RBK.of_eq (VC := ((a0 = a0)∧∀ a23 : Nat, (PrimOK Tryd.prog (.app 90 90 90 (gsv zy.1.1 zy.2.1 zy.1.2) (slA a23 1 1)) R [gsb zy.1.1 zy.2.2 23 (zy.1.2 * 1), some (a23, .row [vu zx] 23 1)] (Nat×Nat) (fun y24 => zy.2.1 + 1 ≤ y24.2∧y24.2 ≤ maxLen) (fun y24 => (.slice (some ⟨y24.1, 0, none⟩) (zy.2.1 + 1) y24.2, [some (y24.1, .row (zy.2.2 ++ ([vu zx] : List Value)) 23 (y24.2 * 1)), some (a23, .row [vu zx] 23 1)])))∧∀ y24 : Nat×Nat, (zy.2.1 + 1 ≤ y24.2∧y24.2 ≤ maxLen) → (a0 = a0)∧RBk (kHs bx M a0 c m) (kJ (pre ++ [zx])) .normal ⟨[.slice none 0 0, .func (.func 60) #[] #[ptA bx], ptA a0, undef, .slice none 0 0, vu zx, .func (.func 60) #[] #[ptA bx], vu zx, gsv zy.1.1 zy.2.1 zy.1.2, vu zx, slA a23 1 1, .slice (some ⟨y24.1, 0, none⟩) (zy.2.1 + 1) y24.2, undef], [], [some (bx, .row [.map (some M)] 89 1), some (M, .map (ents (Value.int .u32) (Value.int .i64) m) c), some (a0, .row [.slice (some ⟨y24.1, 0, none⟩) (zy.2.1 + 1) y24.2] 90 1), some (y24.1, .row (zy.2.2 ++ ([vu zx] : List Value)) 23 (y24.2 * 1)), some (a23, .row [vu zx] 23 1)]⟩ R)) (ops [.d, .p 2, .d] (.opn 4 (fun a23 => (.opp [3, 4] [] (Nat×Nat) (fun y24 => zy.2.1 + 1 ≤ y24.2∧y24.2 ≤ maxLen) (fun y24 => (.slice (some ⟨y24.1, 0, none⟩) (zy.2.1 + 1) y24.2, [some (y24.1, .row (zy.2.2 ++ ([vu zx] : List Value)) 23 (y24.2 * 1)), some (a23, .row [vu zx] 23 1)])) (fun y24 => (ops [.p 2] (.fin [] []))))))) (by kernel_rfl) (⟨rfl, fun a23 => ⟨(app1_ok (e := 23) (e' := 23) (z := 1) (by' := 4) (zc := [vu 0]) (b := zy.1.1) (len := zy.2.1) (cap := zy.1.2) (n := 1) (cs := zy.2.2) (new := [vu zx]) (by kernel_rfl) (.inl (by kernel_rfl)) (by kernel_rfl) rfl (by rw [hJ.2.1, List.length_map, hJ.1, Nat.mul_one]) (by rw [hJ.1];exact hJ.2.2.2.2.1) hJ.2.2.2.2.2 hJ.2.2.2.1 ⟨rfl, .inr (.inr ⟨_, _, _, rfl, .inl ⟨1, _, _, _, rfl, rfl⟩⟩)⟩ (ones_spec rfl) (by have := hJ.1;omega) (by have := hJ.1;simp only [maxLen];omega) (by omega)), fun y24 qy24 => ⟨rfl, ⟨rfl, ((some y24.1, y24.2), zy.2.1 + 1, zy.2.2 ++ [vu zx]), (kJ_snoc hJ qy24), rfl⟩⟩⟩⟩)) (fun l R1 hle hy => keys1_do bx M a0 l c m R1 hS hy), fun r1 G2 hG2 qG2 => ⟨rfl, ⟨⟨qG2.1.1, qG2.1.2, hG2⟩, ⟨rfl, ⟨r1.2, qG2.2⟩, (by rfl), (by rfl)⟩⟩⟩, trivial⟩)
theorem collect0 (bx M c : Nat) (m : MPz) (R : RO) (hS : Stm m c) (hm : m.length ≤ 1000000) : GivesX Tryd.prog 58 [.func (.func 60) #[] #[ptA bx]] R [some (bx, .row [.map (some M)] 89 1), some (M, .map (ents (Value.int .u32) (Value.int .i64) m) c)] ({y : KS // ∃ pre : List Int, kJ pre y∧pre.Perm (m.map (·.1))}) (fun y => (gsv y.1.1.1 y.1.2.1 y.1.1.2, [some (bx, .row [.map (some M)] 89 1), some (M, .map (ents (Value.int .u32) (Value.int .i64) m) c), gsb y.1.1.1 y.1.2.2 23 (y.1.1.2 * 1)])) :=
  Does.of_wp_eq (VC := ((GivesX Tryd.prog 68 [.slice none 0 0, .func (.func 60) #[] #[ptA bx]] R [some (bx, .row [.map (some M)] 89 1), some (M, .map (ents (Value.int .u32) (Value.int .i64) m) c)] ({y : KS // ∃ pre : List Int, kJ pre y∧pre.Perm (m.map (·.1))}) (fun w0 => (gsv w0.1.1.1 w0.1.2.1 w0.1.1.2, [some (bx, .row [.map (some M)] 89 1), some (M, .map (ents (Value.int .u32) (Value.int .i64) m) c), gsb w0.1.1.1 w0.1.2.2 23 (w0.1.1.2 * 1)])))∧∀ w0 : {y : KS // ∃ pre : List Int, kJ pre y∧pre.Perm (m.map (·.1))}, GX R ({y : KS // ∃ pre : List Int, kJ pre y∧pre.Perm (m.map (·.1))}) (fun y => (gsv y.1.1.1 y.1.2.1 y.1.1.2, [some (bx, .row [.map (some M)] 89 1), some (M, .map (ents (Value.int .u32) (Value.int .i64) m) c), gsb y.1.1.1 y.1.2.2 23 (y.1.1.2 * 1)])) (.ret (gsv w0.1.1.1 w0.1.2.1 w0.1.1.2)) R [some (bx, .row [.map (some M)] 89 1), some (M, .map (ents (Value.int .u32) (Value.int .i64) m) c), gsb w0.1.1.1 w0.1.2.2 23 (w0.1.1.2 * 1)])) (ops [.d, .d] (.opx [0, 1] [2] ({y : KS // ∃ pre : List Int, kJ pre y∧pre.Perm (m.map (·.1))}) (fun w0 => (gsv w0.1.1.1 w0.1.2.1 w0.1.1.2, [some (bx, .row [.map (some M)] 89 1), some (M, .map (ents (Value.int .u32) (Value.int .i64) m) c), gsb w0.1.1.1 w0.1.2.2 23 (w0.1.1.2 * 1)])) (fun w0 => (ops [.d] (.fin [0, 1, 2] []))))) Tryd.func58 (by kernel_rfl) (by kernel_rfl)
    (⟨(appendSeq_ok bx M c m R hS hm), fun w0 => ⟨rfl, w0, (by rfl), (by rfl)⟩⟩)
theorem collect_ok (bx M c : Nat) (m : MPz) (R : RO) (hS : Stm m c) (hm : m.length ≤ 1000000) : GivesX Tryd.prog 58 [.func (.func 60) #[] #[ptA bx]] R [some (bx, .row [.map (some M)] 89 1), some (M, .map (ents (Value.int .u32) (Value.int .i64) m) c)] ({y : (Option Nat×Nat)×List Int // y.2.Perm (m.map (·.1))∧(y.1.1 = none ↔ y.2 = [])∧y.2.length ≤ y.1.2∧y.1.2 ≤ maxLen}) (fun y => (gsv y.1.1.1 y.1.2.length y.1.1.2, [some (bx, .row [.map (some M)] 89 1), some (M, .map (ents (Value.int .u32) (Value.int .i64) m) c), gsb y.1.1.1 (u32l y.1.2.toArray) 23 (y.1.1.2 * 1)])) :=
  (collect0 bx M c m R hS hm).mono (by
    rintro o G B hle ⟨rfl, ⟨y, pre, h1, h2⟩, rfl, rfl⟩
    refine ⟨rfl, ⟨(y.1, pre), h2, h1.2.2.1, h1.2.2.2.2.1, h1.2.2.2.2.2⟩, ?_, ?_⟩
    · show Out.ret (gsv y.1.1 y.2.1 y.1.2) = Out.ret (gsv y.1.1 pre.length y.1.2)
      rw [h1.1]
    · show [_, _, gsb y.1.1 y.2.2 23 (y.1.2 * 1)] = [_, _, gsb y.1.1 (u32l pre.toArray) 23 (y.1.2 * 1)]
      rw [h1.2.1];rfl)
theorem sorted0 (bx M c : Nat) (m : MPz) (R : RO) (hS : Stm m c) (hm : m.length ≤ 1000000) : GivesX Tryd.prog 48 [.func (.func 60) #[] #[ptA bx]] R [some (bx, .row [.map (some M)] 89 1), some (M, .map (ents (Value.int .u32) (Value.int .i64) m) c)] ({y : (Option Nat×Nat)×List Int // y.2.Perm (m.map (·.1))∧(y.1.1 = none ↔ y.2 = [])∧y.2.length ≤ y.1.2∧y.1.2 ≤ maxLen}) (fun y => (gsv y.1.1.1 y.1.2.length y.1.1.2, [some (bx, .row [.map (some M)] 89 1), some (M, .map (ents (Value.int .u32) (Value.int .i64) m) c), gsb y.1.1.1 (u32l (sortA y.1.2.toArray)) 23 (y.1.1.2 * 1)])) :=
  Does.of_wp_eq (VC := (let z0 := (ents (Value.int .u32) (Value.int .i64) m);(GivesX Tryd.prog 58 [.func (.func 60) #[] #[ptA bx]] R [some (bx, .row [.map (some M)] 89 1), some (M, .map z0 c)] ({y : (Option Nat×Nat)×List Int // y.2.Perm (m.map (·.1))∧(y.1.1 = none ↔ y.2 = [])∧y.2.length ≤ y.1.2∧y.1.2 ≤ maxLen}) (fun w0 => (gsv w0.1.1.1 w0.1.2.length w0.1.1.2, [some (bx, .row [.map (some M)] 89 1), some (M, .map z0 c), gsb w0.1.1.1 (u32l w0.1.2.toArray) 23 (w0.1.1.2 * 1)])))∧∀ w0 : {y : (Option Nat×Nat)×List Int // y.2.Perm (m.map (·.1))∧(y.1.1 = none ↔ y.2 = [])∧y.2.length ≤ y.1.2∧y.1.2 ≤ maxLen}, (Gives Tryd.prog 59 [gsv w0.1.1.1 w0.1.2.length w0.1.1.2] R [gsb w0.1.1.1 (u32l w0.1.2.toArray) 23 (w0.1.1.2 * 1)] (.ret (.tuple #[])) [gsb w0.1.1.1 (u32l (sortA w0.1.2.toArray)) 23 (w0.1.1.2 * 1)])∧GX R ({y : (Option Nat×Nat)×List Int // y.2.Perm (m.map (·.1))∧(y.1.1 = none ↔ y.2 = [])∧y.2.length ≤ y.1.2∧y.1.2 ≤ maxLen}) (fun y => (gsv y.1.1.1 y.1.2.length y.1.1.2, [some (bx, .row [.map (some M)] 89 1), some (M, .map z0 c), gsb y.1.1.1 (u32l (sortA y.1.2.toArray)) 23 (y.1.1.2 * 1)])) (.ret (gsv w0.1.1.1 w0.1.2.length w0.1.1.2)) R [some (bx, .row [.map (some M)] 89 1), some (M, .map z0 c), gsb w0.1.1.1 (u32l (sortA w0.1.2.toArray)) 23 (w0.1.1.2 * 1)])) (ops [.d, .d] (.opx [0, 1] [2] ({y : (Option Nat×Nat)×List Int // y.2.Perm (m.map (·.1))∧(y.1.1 = none ↔ y.2 = [])∧y.2.length ≤ y.1.2∧y.1.2 ≤ maxLen}) (fun w0 => (gsv w0.1.1.1 w0.1.2.length w0.1.1.2, [some (bx, .row [.map (some M)] 89 1), some (M, .map (ents (Value.int .u32) (Value.int .i64) m) c), gsb w0.1.1.1 (u32l w0.1.2.toArray) 23 (w0.1.1.2 * 1)])) (fun w0 => (ops [.d, .d, .call0 [2] [] (fun e v => .ret (.tuple #[])) (fun e v => [gsb w0.1.1.1 (u32l (sortA w0.1.2.toArray)) 23 (w0.1.1.2 * 1)]), .d, .d] (.fin [0, 1, 2] []))))) Tryd.func48 (by kernel_rfl) (by kernel_rfl)
    (⟨(collect_ok bx M c m R hS hm), fun w0 => ⟨(sort_gs w0.1.1.1 w0.1.2.length w0.1.1.2 (w0.1.1.2 * 1) w0.1.2.toArray R (by simp) (by have := w0.2.1.length_eq;rw [List.length_map] at this;omega) (fun h => by rw [w0.2.2.1.1 h];rfl)), ⟨rfl, w0, (by rfl), (by rfl)⟩⟩⟩)
theorem sorted_ok (bx M c : Nat) (m : MPz) (R : RO) (hS : Stm m c) (hm : m.length ≤ 1000000) : GivesX Tryd.prog 48 [.func (.func 60) #[] #[ptA bx]] R [some (bx, .row [.map (some M)] 89 1), some (M, .map (ents (Value.int .u32) (Value.int .i64) m) c)] ({y : Option Nat×Nat // (y.1 = none ↔ m = [])∧m.length ≤ y.2∧y.2 ≤ maxLen}) (fun y => (gsv y.1.1 m.length y.1.2, [some (bx, .row [.map (some M)] 89 1), some (M, .map (ents (Value.int .u32) (Value.int .i64) m) c), gsb y.1.1 (u32l (ksort m)) 23 (y.1.2 * 1)])) :=
  (sorted0 bx M c m R hS hm).mono (by
    rintro o G B hle ⟨rfl, ⟨y, h1, h2, h3, h4⟩, rfl, rfl⟩
    have h5 : y.2.length = m.length := by rw [h1.length_eq, List.length_map]
    refine ⟨rfl, ⟨y.1, ?_, by omega, h4⟩, ?_, ?_⟩
    · rw [h2]
      constructor
      · intro h;rw [h] at h5;exact List.eq_nil_of_length_eq_zero h5.symm
      · intro h;rw [h] at h5;exact List.eq_nil_of_length_eq_zero h5
    · show Out.ret (gsv y.1.1 y.2.length y.1.2) = Out.ret (gsv y.1.1 m.length y.1.2)
      rw [h5]
    · show [_, _, gsb y.1.1 (u32l (sortA y.2.toArray)) 23 (y.1.2 * 1)] = [_, _, gsb y.1.1 (u32l (ksort m)) 23 (y.1.2 * 1)]
      rw [sortA_perm h1];rfl)
theorem keys_ok (M : Nat) (R : RO)  : GivesX Tryd.prog 49 [.map (some M)] R [] (Nat) (fun bx => (.func (.func 60) #[] #[ptA bx], [some (bx, .row [.map (some M)] 89 1)])) :=
  Does.of_wp_eq (VC := (∀ a0 : Nat, GX R (Nat) (fun bx => (.func (.func 60) #[] #[ptA bx], [some (bx, .row [.map (some M)] 89 1)])) (.ret (.func (.func 60) #[] #[ptA a0])) R [some (a0, .row [.map (some M)] 89 1)])) (.opn 0 (fun a0 => (ops [.d, .d, .d] (.fin [0] [])))) Tryd.func49 (by kernel_rfl) (by kernel_rfl)
    (fun a0 => ⟨rfl, a0, (by rfl), (by rfl)⟩)
end Go.Proofs.YtehbmooelcjfoaaDoor
