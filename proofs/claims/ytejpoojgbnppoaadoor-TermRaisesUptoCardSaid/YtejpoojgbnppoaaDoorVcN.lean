import Derived.Test.YtejpoojgbnppoaaDoorVcF
/- Vc, part N: whole numbers: what their kinds do, as remainders. -/
set_option linter.unusedVariables false
set_option linter.unusedSimpArgs false
namespace Vc
open Go
theorem wu8 (n : Int) : IntKind.u8.wrap n = n % 256 := by
  simp [IntKind.wrap, IntKind.bits, IntKind.signed]
theorem wu16 (n : Int) : IntKind.u16.wrap n = n % 65536 := by
  simp [IntKind.wrap, IntKind.bits, IntKind.signed]
theorem wu32 (n : Int) : IntKind.u32.wrap n = n % 4294967296 := by
  simp [IntKind.wrap, IntKind.bits, IntKind.signed]
theorem wu64 (n : Int) : IntKind.u64.wrap n = n % 18446744073709551616 := by
  simp [IntKind.wrap, IntKind.bits, IntKind.signed]
theorem wi64 (n : Int) : IntKind.i64.wrap n = (n + 9223372036854775808) % 18446744073709551616 - 9223372036854775808 := by
  simp [IntKind.wrap, IntKind.bits, IntKind.signed]
  split <;> omega
theorem wi32 (n : Int) : IntKind.i32.wrap n = (n + 2147483648) % 4294967296 - 2147483648 := by
  simp [IntKind.wrap, IntKind.bits, IntKind.signed]
  split <;> omega
theorem wrapU {n : Int} (h0 : 0 ≤ n) (h1 : n ≤ 18446744073709551615) : IntKind.u64.wrap n = n := by rw [wu64]; omega
theorem wrapI {n : Int} (h0 : -9223372036854775808 ≤ n) (h1 : n ≤ 9223372036854775807) : IntKind.i64.wrap n = n := by rw [wi64]; omega
theorem wrapB {n : Int} (h0 : 0 ≤ n) (h1 : n ≤ 255) : IntKind.u8.wrap n = n := by rw [wu8]; omega
theorem bt_bd (s : ByteArray) (i : Int) : 0 ≤ bt s i ∧ bt s i ≤ 255 := by
  unfold bt
  have := ((s.data[i.toNat]?).getD 0).toNat_lt
  omega
theorem ofInt_toNat {n : Nat} {x : Int} (h0 : 0 ≤ x) (h1 : x < 2 ^ n) : (BitVec.ofInt n x).toNat = x.toNat := by
  rw [BitVec.toNat_ofInt]
  have : x % ((2 ^ n : Nat) : Int) = x := Int.emod_eq_of_lt h0 (by exact_mod_cast h1)
  rw [this]
theorem bOr_nn {k : IntKind} {x y : Int} (hx : 0 ≤ x) (hx' : x < 2 ^ k.bits) (hy : 0 ≤ y) (hy' : y < 2 ^ k.bits) : bOr k x y = k.wrap ((x.toNat ||| y.toNat : Nat) : Int) := by
  unfold bOr
  rw [BitVec.toNat_or, ofInt_toNat hx hx', ofInt_toNat hy hy']
theorem bAnd_nn {k : IntKind} {x y : Int} (hx : 0 ≤ x) (hx' : x < 2 ^ k.bits) (hy : 0 ≤ y) (hy' : y < 2 ^ k.bits) : bAnd k x y = k.wrap ((x.toNat &&& y.toNat : Nat) : Int) := by
  unfold bAnd
  rw [BitVec.toNat_and, ofInt_toNat hx hx', ofInt_toNat hy hy']
theorem bXor_nn {k : IntKind} {x y : Int} (hx : 0 ≤ x) (hx' : x < 2 ^ k.bits) (hy : 0 ≤ y) (hy' : y < 2 ^ k.bits) : bXor k x y = k.wrap ((x.toNat ^^^ y.toNat : Nat) : Int) := by
  unfold bXor
  rw [BitVec.toNat_xor, ofInt_toNat hx hx', ofInt_toNat hy hy']
theorem or_byte (a b : Nat) (h : b < 256) : (a * 256 ||| b) = a * 256 + b := by
  have := Nat.two_pow_add_eq_or_of_lt (i := 8) (b := b) h a
  rw [Nat.mul_comm a 256]
  exact this.symm
theorem shl8 {k : IntKind} {x : Int} (h0 : 0 ≤ x) (h8 : 8 ≤ k.bits) : sHl k x 8 = k.wrap (x * 256) := by
  unfold sHl
  have : min (Int.toNat 8) k.bits = 8 := by
    have : Int.toNat 8 = 8 := rfl
    omega
  rw [this]
  rfl
theorem push8i {x b : Int} (h0 : 0 ≤ x) (h1 : x < 36028797018963968) (hb : 0 ≤ b) (hb' : b ≤ 255) : bOr .i64 (sHl .i64 x 8) b = x * 256 + b := by
  rw [shl8 h0 (by decide), wrapI (by omega) (by omega), bOr_nn (by omega) (by show _ < (2 : Int) ^ 64; omega) hb (by show _ < (2 : Int) ^ 64; omega)]
  have : (x * 256).toNat = x.toNat * 256 := by omega
  rw [this, or_byte _ _ (by omega), wrapI (by omega) (by omega)]
  omega
theorem push8u {x b : Int} (h0 : 0 ≤ x) (h1 : x < 72057594037927936) (hb : 0 ≤ b) (hb' : b ≤ 255) : bOr .u64 (sHl .u64 x 8) b = x * 256 + b := by
  rw [shl8 h0 (by decide), wrapU (by omega) (by omega), bOr_nn (by omega) (by show _ < (2 : Int) ^ 64; omega) hb (by show _ < (2 : Int) ^ 64; omega)]
  have : (x * 256).toNat = x.toNat * 256 := by omega
  rw [this, or_byte _ _ (by omega), wrapU (by omega) (by omega)]
  omega
theorem shr_div {k : IntKind} {x : Int} {n : Nat} (h : n ≤ k.bits) : sHr k x (n : Int) = x / 2 ^ n := by
  unfold sHr
  have : min (Int.toNat (n : Int)) k.bits = n := by
    have : Int.toNat (n : Int) = n := rfl
    omega
  rw [this]
  exact Int.fdiv_eq_ediv_of_nonneg x (Int.pow_nonneg (by decide))
def mx (a b : Int) : Int := if b > a then b else a
def mn (a b : Int) : Int := if b < a then b else a
theorem mx_max (a b : Int) : mx a b = max a b := by unfold mx; split <;> omega
theorem mn_min (a b : Int) : mn a b = min a b := by unfold mn; split <;> omega
/-- Shorter words for what is asked again and again. -/
abbrev NW (k : IntKind) (e : Int) : Prop := k = k ∧ k.wrap e = e
theorem nwI {e : Int} (h0 : -9223372036854775808 ≤ e) (h1 : e ≤ 9223372036854775807) : NW .i64 e := ⟨rfl, wrapI h0 h1⟩
abbrev IB (i n : Int) : Prop := 0 ≤ i ∧ i < n
end Vc
