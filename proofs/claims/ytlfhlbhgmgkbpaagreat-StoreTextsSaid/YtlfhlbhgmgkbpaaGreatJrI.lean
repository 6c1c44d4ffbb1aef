import Derived.Test.YtlfhlbhgmgkbpaaGreatJrH
namespace Go.Proofs.YtlfhlbhgmgkbpaaGreat
open Vc Go
set_option linter.unusedVariables false
set_option linter.unusedSimpArgs false

theorem opens (A0 M0 n : Nat) (d : Dk) (st xn xg xh : Int) (t : ByteArray) (R : RO) (hn : 32 ≤ n ∧ n ≤ 2048) (hC : Calm d) (hx : 0 ≤ xn ∧ xn ≤ 1000000) (he : xn % 2 = 0) (hg : 0 ≤ xg ∧ xg ≤ 1000000) (hh : 0 ≤ xh ∧ xh < 2)
    (hp1 : needI (t.size : Int) ≤ szI n) (ht : t.size ≤ 1000000000) (hz : ∀ q : Nat, stI n xh ≤ (q : Int) → (q : Int) < stI n xh + szI n → EqB (d.now q) (fun _ => 0)) :
    GivesX Tryz.prog 34 [.pointer (some ⟨A0, 0, none⟩)] R [some (A0, .row [.slice (some ⟨M0, 0, none⟩) n n, .int .i64 st, .int .i64 (-1), .bool false] 88 4), some (M0, .row (Dk.row (layE n d xn xg xh 1 0 t) n) 138 (n * 1025))] (Nat × Nat × Nat) (fun w => (.tuple #[.pointer (some ⟨w.1, 0, none⟩), .slice (some ⟨w.2.1, 0, none⟩) 1 w.2.2, .int .i64 0], [some (A0, .row [.slice (some ⟨M0, 0, none⟩) n n, .int .i64 st, .int .i64 (-1), .bool false] 88 4), some (M0, .row (Dk.row (layE n d xn xg xh 1 0 t) n) 138 (n * 1025)), some (w.1, .row [.pointer (some ⟨A0, 0, none⟩), .int .u64 (xn + 1 + 1), .int .u64 xg, .int .u64 xh, .int .u64 1, .int .i64 (0 + (needI (t.size : Int))), .int .i64 0] 104 7), some (w.2.1, .row [.string t] 9 (w.2.2 * 1))])) := by
  have e0 : EqB ((layE n d xn xg xh 1 0 t).now 0) (padF (markT (xn + 1 + 1) xg xh 1)) := layE_zero hC hx.1 he
  have e1 : EqB ((layE n d xn xg xh 1 0 t).now 1) (padF (markT (xn + 1) xg xh 1)) := layE_one hC hx.1 he
  have r0 := mk_rd e0 ⟨by omega, by omega⟩ ⟨by omega, by omega⟩ ⟨by omega, by omega⟩ ⟨by omega, by omega⟩
  have r1 := mk_rd e1 ⟨by omega, by omega⟩ ⟨by omega, by omega⟩ ⟨by omega, by omega⟩ ⟨by omega, by omega⟩
  have hr := stI_rng hn hh
  have hne := needI_eq (k := (t.size : Int)) (by omega)
  have hA : ∀ j, j < Int.toNat (needI (t.size : Int)) → EqB ((layE n d xn xg xh 1 0 t).now (Int.toNat (stI n xh + 0) + j)) (padF ((frameT xg 0 t).extract (512 * j) (frameT xg 0 t).size)) := fun j hj => by
    have h := layE_now (n := n) (pa := 0) (xc := 1) (t := t) (xg := xg) (xh := xh) hC hx.1 he (q := Int.toNat (stI n xh + 0) + j) (by omega)
    rw [if_pos (by omega), show Int.toNat (stI n xh + 0) + j - Int.toNat (stI n xh + 0) = j by omega, show (1 : Int) - 1 = 0 from rfl] at h
    exact h
  obtain ⟨hw, hb⟩ := fr_first (d := (layE n d xn xg xh 1 0 t)) (a := Int.toNat (stI n xh + 0)) (g := xg) (n := 0) (t := t) (by
    have h := hA 0 (by omega)
    rw [Nat.mul_zero, ByteArray.extract_zero_size, Nat.add_zero] at h
    exact h) ht
  have hcat : catB (layE n d xn xg xh 1 0 t) (Int.toNat (stI n xh + 0)) (Int.toNat (needI (t.size : Int))) = frameT xg 0 t ++ zS (512 * Int.toNat (needI (t.size : Int)) - (frameT xg 0 t).size) := by
    rw [cat_pad hA, ofI_pad (by rw [frameT_size]; omega)]
  refine open_one A0 M0 n (layE n d xn xg xh 1 0 t) st (xn + 1 + 1) xg xh t R hn (mk_ok e0 ⟨by omega, by omega⟩ ⟨by omega, by omega⟩ hh ⟨by omega, by omega⟩) (mk_ok e1 ⟨by omega, by omega⟩ ⟨by omega, by omega⟩ hh ⟨by omega, by omega⟩)
    ?_ ?_ r0.1 r0.2.1 r0.2.2.1 r0.2.2.2 hh hp1 ht hb hw ?_ ?_ ?_
  · have := r0.1
    show mkN ((layE n d xn xg xh 1 0 t).now 0) > 0
    omega
  · have := r0.1
    have := r1.1
    show ¬ mkN ((layE n d xn xg xh 1 0 t).now 1) > mkN ((layE n d xn xg xh 1 0 t).now 0)
    omega
  · rw [hb, hcat]; exact fr_text _
  · rw [hb, hcat]
    refine congrArg (fun k => frameT xg 0 t ++ zS k) ?_
    rw [ByteArray.size_append, zS_size]
    omega
  · intro q q1 q2
    have h := layE_now (n := n) (pa := 0) (xc := 1) (t := t) (xg := xg) (xh := xh) hC hx.1 he (q := q) (by omega)
    rw [if_neg (by omega)] at h
    exact h.tr (hz q (by omega) (by omega))

end Go.Proofs.YtlfhlbhgmgkbpaaGreat
