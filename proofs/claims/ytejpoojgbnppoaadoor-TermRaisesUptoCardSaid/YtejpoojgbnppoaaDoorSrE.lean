import Derived.Test.YtejpoojgbnppoaaDoorSrD
namespace Go.Proofs.YtejpoojgbnppoaaDoor
open Vc Go
set_option linter.unusedVariables false
set_option linter.unusedSimpArgs false

def l8 : ByteArray := (⟨#[0, 1, 2, 2, 3, 3, 3, 3, 4, 4, 4, 4, 4, 4, 4, 4, 5, 5, 5, 5, 5, 5, 5, 5, 5, 5, 5, 5, 5, 5, 5, 5, 6, 6, 6, 6, 6, 6, 6, 6, 6, 6, 6, 6, 6, 6, 6, 6, 6, 6, 6, 6, 6, 6, 6, 6, 6, 6, 6, 6, 6, 6, 6, 6, 7, 7, 7, 7, 7, 7, 7, 7, 7, 7, 7, 7, 7, 7, 7, 7, 7, 7, 7, 7, 7, 7, 7, 7, 7, 7, 7, 7, 7, 7, 7, 7, 7, 7, 7, 7, 7, 7, 7, 7, 7, 7, 7, 7, 7, 7, 7, 7, 7, 7, 7, 7, 7, 7, 7, 7, 7, 7, 7, 7, 7, 7, 7, 7, 8, 8, 8, 8, 8, 8, 8, 8, 8, 8, 8, 8, 8, 8, 8, 8, 8, 8, 8, 8, 8, 8, 8, 8, 8, 8, 8, 8, 8, 8, 8, 8, 8, 8, 8, 8, 8, 8, 8, 8, 8, 8, 8, 8, 8, 8, 8, 8, 8, 8, 8, 8, 8, 8, 8, 8, 8, 8, 8, 8, 8, 8, 8, 8, 8, 8, 8, 8, 8, 8, 8, 8, 8, 8, 8, 8, 8, 8, 8, 8, 8, 8, 8, 8, 8, 8, 8, 8, 8, 8, 8, 8, 8, 8, 8, 8, 8, 8, 8, 8, 8, 8, 8, 8, 8, 8, 8, 8, 8, 8, 8, 8, 8, 8, 8, 8, 8, 8, 8, 8, 8, 8, 8, 8, 8, 8, 8, 8]⟩ : ByteArray)
theorem l8_len : ∀ x : Fin 256, bt l8 (x.val : Int) = ((Sort.bitsLen x.val : Nat) : Int) := by decide +kernel
theorem l8_of {x : Int} (h : 0 ≤ x) (h2 : x < 256) : bt l8 x = ((Sort.bitsLen (Int.toNat x) : Nat) : Int) := by
  have := l8_len ⟨Int.toNat x, by omega⟩
  simp only at this
  rw [← this, show ((Int.toNat x : Nat) : Int) = x by omega]
theorem bl_half {x : Nat} (h : 1 ≤ x) : Sort.bitsLen x = Sort.bitsLen (x / 2) + 1 := by
  refine Nat.le_antisymm ((Sort.bitsLen_le_iff _ _).2 ?_) ?_
  · have := Sort.lt_two_pow_bitsLen (x / 2)
    rw [Nat.pow_succ]; omega
  · rcases Nat.lt_or_ge (Sort.bitsLen (x / 2)) (Sort.bitsLen x) with h1 | h1
    · omega
    · exfalso
      have h2 := Sort.two_pow_bitsLen_le (n := x) h
      by_cases h0 : x / 2 = 0
      · have h3 : Sort.bitsLen (x / 2) = 0 := by rw [h0]; rfl
        have h4 := Sort.lt_two_pow_bitsLen x
        rw [show Sort.bitsLen x = 0 by omega] at h4
        omega
      · have h3 := Sort.two_pow_bitsLen_le (n := x / 2) (by omega)
        have h4 := Sort.lt_two_pow_bitsLen x
        have h5 : 2 ^ Sort.bitsLen x ≤ 2 ^ Sort.bitsLen (x / 2) := Nat.pow_le_pow_right (by omega) h1
        omega
theorem bl_pow : ∀ (k x : Nat), 2 ^ k ≤ x → Sort.bitsLen x = k + Sort.bitsLen (x / 2 ^ k)
  | 0, x, h => by simp
  | k + 1, x, h => by
    have h1 : 2 ^ k ≤ x / 2 := by rw [Nat.pow_succ] at h; omega
    have h0 : 0 < 2 ^ k := Nat.two_pow_pos k
    rw [bl_half (by omega), bl_pow k (x / 2) h1, Nat.div_div_eq_div_mul, Nat.pow_succ, Nat.mul_comm 2]
    omega
theorem shr_val {x : Int} {k : Int} (h : 0 ≤ x) (h1 : 0 ≤ k) (h2 : k ≤ 64) : sHr .u64 x k = ((Int.toNat x / 2 ^ Int.toNat k : Nat) : Int) := by
  unfold sHr
  have e : min (Int.toNat k) IntKind.u64.bits = Int.toNat k := by have : IntKind.u64.bits = 64 := rfl; omega
  rw [e, Int.fdiv_eq_ediv_of_nonneg _ (by exact_mod_cast Nat.zero_le _)]
  obtain ⟨n, rfl⟩ := Int.eq_ofNat_of_zero_le h
  simp
theorem shr_int {x : Int} {k m : Nat} (h : 0 ≤ x) (hk : k ≤ 64) (hm : 2 ^ k = m) : sHr .u64 x (k : Int) = x / (m : Int) := by
  rw [shr_val h (by omega) (by omega), Int.toNat_natCast, hm, Int.natCast_ediv, Int.toNat_of_nonneg h]
theorem sv32 {x : Int} (h : 0 ≤ x) : sHr .u64 x 32 = x / 4294967296 := shr_int (k := 32) (m := 4294967296) h (by decide) (by decide)
theorem sv16 {x : Int} (h : 0 ≤ x) : sHr .u64 x 16 = x / 65536 := shr_int (k := 16) (m := 65536) h (by decide) (by decide)
theorem sv8 {x : Int} (h : 0 ≤ x) : sHr .u64 x 8 = x / 256 := shr_int (k := 8) (m := 256) h (by decide) (by decide)
theorem ls32 {x : Int} (h : 4294967296 ≤ x) : Sort.bitsLen (Int.toNat x) = 32 + Sort.bitsLen (Int.toNat (sHr .u64 x 32)) := by
  rw [sv32 (by omega), bl_pow 32 (Int.toNat x) (by omega), show Int.toNat (x / 4294967296) = Int.toNat x / 2 ^ 32 by omega]
theorem ls16 {x : Int} (h : 65536 ≤ x) : Sort.bitsLen (Int.toNat x) = 16 + Sort.bitsLen (Int.toNat (sHr .u64 x 16)) := by
  rw [sv16 (by omega), bl_pow 16 (Int.toNat x) (by omega), show Int.toNat (x / 65536) = Int.toNat x / 2 ^ 16 by omega]
theorem ls8 {x : Int} (h : 256 ≤ x) : Sort.bitsLen (Int.toNat x) = 8 + Sort.bitsLen (Int.toNat (sHr .u64 x 8)) := by
  rw [sv8 (by omega), bl_pow 8 (Int.toNat x) (by omega), show Int.toNat (x / 256) = Int.toNat x / 2 ^ 8 by omega]
theorem bl_le8 {n : Nat} (h : n < 256) : Sort.bitsLen n ≤ 8 := (Sort.bitsLen_le_iff n 8).2 (by omega)
theorem len_fin {y K : Int} (h : 0 ≤ y) (h2 : y < 256) (hK : 0 ≤ K) (hK2 : K ≤ 100) : IntKind.i64.wrap (K + IntKind.i64.wrap (bt l8 (IntKind.u8.wrap y))) = K + ((Sort.bitsLen (Int.toNat y) : Nat) : Int) := by
  have h3 : IntKind.u8.wrap y = y := by
    have : IntKind.u8.wrap y = y % 256 := rfl
    rw [this]; omega
  have h4 := bl_le8 (n := Int.toNat y) (by omega)
  rw [h3, l8_of h h2, wrapI (n := ((Sort.bitsLen (Int.toNat y) : Nat) : Int)) (by omega) (by omega), wrapI (by omega) (by omega)]
theorem ix8 (y : Int) : (0 : Int) ≤ IntKind.u8.wrap y ∧ (IntKind.u8.wrap y : Int) < (l8.size : Int) := by
  have h : IntKind.u8.wrap y = y % 256 := rfl
  have h2 : l8.size = 256 := by decide +kernel
  rw [h, h2]; omega
def o2 (d : Array Int) (a b s : Int) : Int × Int × Int := if decide (d[Int.toNat b]! < d[Int.toNat a]!) = true then (b, a, IntKind.i64.wrap (s + 1)) else (a, b, s)
def med (d : Array Int) (a b c s : Int) : Int × Int := ((o2 d (o2 d a b s).1 (o2 d (o2 d a b s).2.1 c (o2 d a b s).2.2).1 (o2 d (o2 d a b s).2.1 c (o2 d a b s).2.2).2.2).2.1, (o2 d (o2 d a b s).1 (o2 d (o2 d a b s).2.1 c (o2 d a b s).2.2).1 (o2 d (o2 d a b s).2.1 c (o2 d a b s).2.2).2.2).2.2)
theorem o2_in {d : Array Int} {a b s lo hi : Int} (h1 : lo ≤ a ∧ a < hi) (h2 : lo ≤ b ∧ b < hi) : (lo ≤ (o2 d a b s).1 ∧ (o2 d a b s).1 < hi) ∧ (lo ≤ (o2 d a b s).2.1 ∧ (o2 d a b s).2.1 < hi) := by
  unfold o2; split <;> exact ⟨by assumption, by assumption⟩
theorem med_in {d : Array Int} {a b c s lo hi : Int} (h1 : lo ≤ a ∧ a < hi) (h2 : lo ≤ b ∧ b < hi) (h3 : lo ≤ c ∧ c < hi) : lo ≤ (med d a b c s).1 ∧ (med d a b c s).1 < hi :=
  (o2_in (o2_in h1 h2).1 (o2_in (o2_in h1 h2).2 h3).1).2
theorem quo4 {x : Int} (h : 0 ≤ x) (h2 : x ≤ 1152921504606846976) : 4 * IntKind.i64.wrap (Int.tdiv x 4) ≤ x ∧ x < 4 * IntKind.i64.wrap (Int.tdiv x 4) + 4 := by
  rw [Int.tdiv_eq_ediv_of_nonneg h, wrapI (by omega) (by omega)]
  omega
theorem wrap64_le (x : Int) : 0 ≤ IntKind.u64.wrap x ∧ IntKind.u64.wrap x ≤ 18446744073709551615 := by
  have h : IntKind.u64.wrap x = x % 18446744073709551616 := rfl
  rw [h]; omega
theorem band_le {x y : Int} (h : 0 ≤ y) (h2 : y ≤ 18446744073709551615) : 0 ≤ bAnd .u64 x y ∧ bAnd .u64 x y ≤ y := by
  unfold bAnd
  have e1 : (BitVec.ofInt 64 y).toNat = Int.toNat y := by
    obtain ⟨n, rfl⟩ := Int.eq_ofNat_of_zero_le h
    simp [BitVec.toNat_ofInt]
    omega
  have e2 : (BitVec.ofInt 64 x &&& BitVec.ofInt 64 y).toNat ≤ Int.toNat y := by
    rw [BitVec.toNat_and, e1]; exact Nat.and_le_right
  have h3 : IntKind.u64.wrap ((BitVec.ofInt IntKind.u64.bits x &&& BitVec.ofInt IntKind.u64.bits y).toNat : Int) = ((BitVec.ofInt 64 x &&& BitVec.ofInt 64 y).toNat : Int) := by
    have h : ∀ z : Int, IntKind.u64.wrap z = z % 18446744073709551616 := fun z => rfl
    rw [h]
    show ((BitVec.ofInt 64 x &&& BitVec.ofInt 64 y).toNat : Int) % 18446744073709551616 = _
    omega
  rw [h3]; omega

set_option maxRecDepth 100000 in
set_option maxHeartbeats 4000000 in
theorem len64_ok (x : Int) (R : RO) (hx : 0 ≤ x ∧ x ≤ 18446744073709551615) : Gives Tryd.prog 65 [.int .u64 x] R [] (.ret (.int .i64 ((Sort.bitsLen (Int.toNat x) : Nat) : Int))) [] :=
  Does.of_wp_eq (VC := (let z6 := (IntKind.u8.wrap (sHr .u64 x 16)); let z5 := (IntKind.u8.wrap (sHr .u64 x 32)); let z3 := (IntKind.u8.wrap (sHr .u64 (sHr .u64 x 16) 8)); let z2 := (IntKind.u8.wrap (sHr .u64 (sHr .u64 x 32) 8)); let z1 := (sHr .u64 (sHr .u64 x 32) 16); let z4 := (IntKind.u8.wrap (sHr .u64 z1 8)); let z0 := ((Sort.bitsLen (Int.toNat x) : Nat) : Int); ((decide (x ≥ 4294967296)) = true → ((decide ((sHr .u64 x 32) ≥ 65536)) = true → ((decide (z1 ≥ 256)) = true → ((0 : Int) ≤ z4 ∧ (z4 : Int) < (l8.size : Int)) ∧ GQ R (.ret (.int .i64 z0)) [] (.ret (.int .i64 (IntKind.i64.wrap (56 + (IntKind.i64.wrap (bt l8 z4)))))) R []) ∧ ((decide (z1 ≥ 256)) = false → ((0 : Int) ≤ (IntKind.u8.wrap z1) ∧ ((IntKind.u8.wrap z1) : Int) < (l8.size : Int)) ∧ GQ R (.ret (.int .i64 z0)) [] (.ret (.int .i64 (IntKind.i64.wrap (48 + (IntKind.i64.wrap (bt l8 (IntKind.u8.wrap z1))))))) R [])) ∧ ((decide ((sHr .u64 x 32) ≥ 65536)) = false → ((decide ((sHr .u64 x 32) ≥ 256)) = true → ((0 : Int) ≤ z2 ∧ (z2 : Int) < (l8.size : Int)) ∧ GQ R (.ret (.int .i64 z0)) [] (.ret (.int .i64 (IntKind.i64.wrap (40 + (IntKind.i64.wrap (bt l8 z2)))))) R []) ∧ ((decide ((sHr .u64 x 32) ≥ 256)) = false → ((0 : Int) ≤ z5 ∧ (z5 : Int) < (l8.size : Int)) ∧ GQ R (.ret (.int .i64 z0)) [] (.ret (.int .i64 (IntKind.i64.wrap (32 + (IntKind.i64.wrap (bt l8 z5)))))) R []))) ∧ ((decide (x ≥ 4294967296)) = false → ((decide (x ≥ 65536)) = true → ((decide ((sHr .u64 x 16) ≥ 256)) = true → ((0 : Int) ≤ z3 ∧ (z3 : Int) < (l8.size : Int)) ∧ GQ R (.ret (.int .i64 z0)) [] (.ret (.int .i64 (IntKind.i64.wrap (24 + (IntKind.i64.wrap (bt l8 z3)))))) R []) ∧ ((decide ((sHr .u64 x 16) ≥ 256)) = false → ((0 : Int) ≤ z6 ∧ (z6 : Int) < (l8.size : Int)) ∧ GQ R (.ret (.int .i64 z0)) [] (.ret (.int .i64 (IntKind.i64.wrap (16 + (IntKind.i64.wrap (bt l8 z6)))))) R [])) ∧ ((decide (x ≥ 65536)) = false → ((decide (x ≥ 256)) = true → ((0 : Int) ≤ (IntKind.u8.wrap (sHr .u64 x 8)) ∧ ((IntKind.u8.wrap (sHr .u64 x 8)) : Int) < (l8.size : Int)) ∧ GQ R (.ret (.int .i64 z0)) [] (.ret (.int .i64 (IntKind.i64.wrap (8 + (IntKind.i64.wrap (bt l8 (IntKind.u8.wrap (sHr .u64 x 8)))))))) R []) ∧ ((decide (x ≥ 256)) = false → ((0 : Int) ≤ (IntKind.u8.wrap x) ∧ ((IntKind.u8.wrap x) : Int) < (l8.size : Int)) ∧ GQ R (.ret (.int .i64 z0)) [] (.ret (.int .i64 (IntKind.i64.wrap (0 + (IntKind.i64.wrap (bt l8 (IntKind.u8.wrap x))))))) R []))))) (ops [.d, .d, .d] (.sp 4 (ops [.d, .d, .d, .d, .d, .d] (.sp 8 (ops [.d, .d, .d, .d, .d, .d, .d, .d] (.sp 14 (ops [.d, .d, .d, .d, .d, .d, .d, .d, .d, .ix, .d, .d, .d] (.fin [] [])) (ops [.d, .d, .d, .ix, .d, .d, .d] (.fin [] [])))) (ops [.d, .d] (.sp 14 (ops [.d, .d, .d, .d, .d, .d, .d, .d, .d, .ix, .d, .d, .d] (.fin [] [])) (ops [.d, .d, .d, .ix, .d, .d, .d] (.fin [] [])))))) (ops [.d, .d] (.sp 8 (ops [.d, .d, .d, .d, .d, .d, .d, .d] (.sp 14 (ops [.d, .d, .d, .d, .d, .d, .d, .d, .d, .ix, .d, .d, .d] (.fin [] [])) (ops [.d, .d, .d, .ix, .d, .d, .d] (.fin [] [])))) (ops [.d, .d] (.sp 14 (ops [.d, .d, .d, .d, .d, .d, .d, .d, .d, .ix, .d, .d, .d] (.fin [] [])) (ops [.d, .d, .d, .ix, .d, .d, .d] (.fin [] [])))))))) Tryd.func65 (by kernel_rfl) (by kernel_rfl)
    (⟨fun h0 => (have := of_decide_eq_true h0; ⟨fun h1 => (have := of_decide_eq_true h1; ⟨fun h2 => (have := of_decide_eq_true h2; ⟨(ix8 _), ⟨rfl, (by have hz := hx; have := of_decide_eq_true h0; have v32 := sv32 (x := x) (by omega); have b32 := ls32 (x := x) (by omega); have := of_decide_eq_true h1; have v16 := sv16 (x := (sHr .u64 x 32)) (by omega); have b16 := ls16 (x := (sHr .u64 x 32)) (by omega); have := of_decide_eq_true h2; have v8 := sv8 (x := (sHr .u64 (sHr .u64 x 32) 16)) (by omega); have b8 := ls8 (x := (sHr .u64 (sHr .u64 x 32) 16)) (by omega); refine congrArg (fun z => Out.ret (.int .i64 z)) ?_; rw [len_fin (by omega) (by omega) (by omega) (by omega)]; omega), (by rfl)⟩⟩), fun h2 => (have := of_decide_eq_false h2; ⟨(ix8 _), ⟨rfl, (by have hz := hx; have := of_decide_eq_true h0; have v32 := sv32 (x := x) (by omega); have b32 := ls32 (x := x) (by omega); have := of_decide_eq_true h1; have v16 := sv16 (x := (sHr .u64 x 32)) (by omega); have b16 := ls16 (x := (sHr .u64 x 32)) (by omega); have := of_decide_eq_false h2; refine congrArg (fun z => Out.ret (.int .i64 z)) ?_; rw [len_fin (by omega) (by omega) (by omega) (by omega)]; omega), (by rfl)⟩⟩)⟩), fun h1 => (have := of_decide_eq_false h1; ⟨fun h2 => (have := of_decide_eq_true h2; ⟨(ix8 _), ⟨rfl, (by have hz := hx; have := of_decide_eq_true h0; have v32 := sv32 (x := x) (by omega); have b32 := ls32 (x := x) (by omega); have := of_decide_eq_false h1; have := of_decide_eq_true h2; have v8 := sv8 (x := (sHr .u64 x 32)) (by omega); have b8 := ls8 (x := (sHr .u64 x 32)) (by omega); refine congrArg (fun z => Out.ret (.int .i64 z)) ?_; rw [len_fin (by omega) (by omega) (by omega) (by omega)]; omega), (by rfl)⟩⟩), fun h2 => (have := of_decide_eq_false h2; ⟨(ix8 _), ⟨rfl, (by have hz := hx; have := of_decide_eq_true h0; have v32 := sv32 (x := x) (by omega); have b32 := ls32 (x := x) (by omega); have := of_decide_eq_false h1; have := of_decide_eq_false h2; refine congrArg (fun z => Out.ret (.int .i64 z)) ?_; rw [len_fin (by omega) (by omega) (by omega) (by omega)]; omega), (by rfl)⟩⟩)⟩)⟩), fun h0 => (have := of_decide_eq_false h0; ⟨fun h1 => (have := of_decide_eq_true h1; ⟨fun h2 => (have := of_decide_eq_true h2; ⟨(ix8 _), ⟨rfl, (by have hz := hx; have := of_decide_eq_false h0; have := of_decide_eq_true h1; have v16 := sv16 (x := x) (by omega); have b16 := ls16 (x := x) (by omega); have := of_decide_eq_true h2; have v8 := sv8 (x := (sHr .u64 x 16)) (by omega); have b8 := ls8 (x := (sHr .u64 x 16)) (by omega); refine congrArg (fun z => Out.ret (.int .i64 z)) ?_; rw [len_fin (by omega) (by omega) (by omega) (by omega)]; omega), (by rfl)⟩⟩), fun h2 => (have := of_decide_eq_false h2; ⟨(ix8 _), ⟨rfl, (by have hz := hx; have := of_decide_eq_false h0; have := of_decide_eq_true h1; have v16 := sv16 (x := x) (by omega); have b16 := ls16 (x := x) (by omega); have := of_decide_eq_false h2; refine congrArg (fun z => Out.ret (.int .i64 z)) ?_; rw [len_fin (by omega) (by omega) (by omega) (by omega)]; omega), (by rfl)⟩⟩)⟩), fun h1 => (have := of_decide_eq_false h1; ⟨fun h2 => (have := of_decide_eq_true h2; ⟨(ix8 _), ⟨rfl, (by have hz := hx; have := of_decide_eq_false h0; have := of_decide_eq_false h1; have := of_decide_eq_true h2; have v8 := sv8 (x := x) (by omega); have b8 := ls8 (x := x) (by omega); refine congrArg (fun z => Out.ret (.int .i64 z)) ?_; rw [len_fin (by omega) (by omega) (by omega) (by omega)]; omega), (by rfl)⟩⟩), fun h2 => (have := of_decide_eq_false h2; ⟨(ix8 _), ⟨rfl, (by have hz := hx; have := of_decide_eq_false h0; have := of_decide_eq_false h1; have := of_decide_eq_false h2; refine congrArg (fun z => Out.ret (.int .i64 z)) ?_; rw [len_fin (by omega) (by omega) (by omega) (by omega)]; omega), (by rfl)⟩⟩)⟩)⟩)⟩)

set_option maxRecDepth 100000 in
set_option maxHeartbeats 4000000 in
theorem len_ok (x : Int) (R : RO) (hx : 0 ≤ x ∧ x ≤ 18446744073709551615) : Gives Tryd.prog 44 [.int .u64 x] R [] (.ret (.int .i64 ((Sort.bitsLen (Int.toNat x) : Nat) : Int))) [] :=
  Does.of_wp_eq (VC := ((Gives Tryd.prog 65 [.int .u64 x] R [] (.ret (.int .i64 ((Sort.bitsLen (Int.toNat x) : Nat) : Int))) []) ∧ GQ R (.ret (.int .i64 ((Sort.bitsLen (Int.toNat x) : Nat) : Int))) [] (.ret (.int .i64 ((Sort.bitsLen (Int.toNat x) : Nat) : Int))) R [])) (ops [.d, .d, .call0 [] [] (fun e v => .ret (.int .i64 ((Sort.bitsLen (Int.toNat x) : Nat) : Int))) (fun e v => []), .d] (.fin [] [])) Tryd.func44 (by kernel_rfl) (by kernel_rfl)
    (⟨(len64_ok x R hx), ⟨rfl, (by rfl), (by rfl)⟩⟩)

set_option maxRecDepth 100000 in
set_option maxHeartbeats 4000000 in
theorem np_ok (x : Int) (R : RO)  : Gives Tryd.prog 83 [.int .i64 x] R [] (.ret (.int .u64 (sHl .u64 1 ((Sort.bitsLen (Int.toNat (IntKind.u64.wrap x)) : Nat) : Int)))) [] :=
  Does.of_wp_eq (VC := ((Gives Tryd.prog 44 [.int .u64 (IntKind.u64.wrap x)] R [] (.ret (.int .i64 ((Sort.bitsLen (Int.toNat (IntKind.u64.wrap x)) : Nat) : Int))) []) ∧ (0 ≤ ((Sort.bitsLen (Int.toNat (IntKind.u64.wrap x)) : Nat) : Int)) ∧ GQ R (.ret (.int .u64 (sHl .u64 1 ((Sort.bitsLen (Int.toNat (IntKind.u64.wrap x)) : Nat) : Int)))) [] (.ret (.int .u64 (sHl .u64 1 ((Sort.bitsLen (Int.toNat (IntKind.u64.wrap x)) : Nat) : Int)))) R [])) (ops [.d, .d, .d, .call0 [] [] (fun e v => .ret (.int .i64 ((Sort.bitsLen (Int.toNat (IntKind.u64.wrap x)) : Nat) : Int))) (fun e v => []), .sh, .d] (.fin [] [])) Tryd.func83 (by kernel_rfl) (by kernel_rfl)
    (⟨(len_ok (IntKind.u64.wrap x) R (wrap64_le _)), ⟨(by omega), ⟨rfl, (by rfl), (by rfl)⟩⟩⟩)

set_option maxRecDepth 100000 in
set_option maxHeartbeats 4000000 in
theorem xn_ok (X0 : Nat) (r : Int) (R : RO)  : GivesX Tryd.prog 84 [.pointer (some ⟨X0, 0, none⟩)] R [some (X0, .row [.int .u64 r] 116 1)] (Int) (fun y => (.int .u64 y, [some (X0, .row [.int .u64 y] 116 1)])) :=
  Does.of_wp_eq (VC := ((X0 = X0) ∧ (X0 = X0) ∧ (X0 = X0) ∧ (X0 = X0) ∧ (X0 = X0) ∧ (X0 = X0) ∧ (X0 = X0) ∧ (X0 = X0) ∧ (X0 = X0) ∧ (X0 = X0) ∧ GX R (Int) (fun y => (.int .u64 y, [some (X0, .row [.int .u64 y] 116 1)])) (.ret (.int .u64 (bXor .u64 (bXor .u64 (bXor .u64 r (sHl .u64 r 13)) (sHr .u64 (bXor .u64 r (sHl .u64 r 13)) 7)) (sHl .u64 (bXor .u64 (bXor .u64 r (sHl .u64 r 13)) (sHr .u64 (bXor .u64 r (sHl .u64 r 13)) 7)) 17)))) R [some (X0, .row [.int .u64 (bXor .u64 (bXor .u64 (bXor .u64 r (sHl .u64 r 13)) (sHr .u64 (bXor .u64 r (sHl .u64 r 13)) 7)) (sHl .u64 (bXor .u64 (bXor .u64 r (sHl .u64 r 13)) (sHr .u64 (bXor .u64 r (sHl .u64 r 13)) 7)) 17))] 116 1)])) (ops [.d] (.dr [some (.d), some (.d), some (.p 0), some (.d), some (.d), some (.p 0), some (.d), some (.d), some (.d), some (.p 0)] (.dr [some (.d), some (.d), some (.p 0), some (.d), some (.d), some (.p 0), some (.d), some (.d), some (.d), some (.p 0)] (.dr [some (.d), some (.d), some (.p 0), some (.d), some (.d), some (.p 0), some (.d), some (.d), some (.d), some (.p 0)] (ops [.d, .d, .p 0, .d] (.fin [0] [])))))) Tryd.func84 (by kernel_rfl) (by kernel_rfl)
    (⟨rfl, ⟨rfl, ⟨rfl, ⟨rfl, ⟨rfl, ⟨rfl, ⟨rfl, ⟨rfl, ⟨rfl, ⟨rfl, ⟨rfl, bXor .u64 (bXor .u64 (bXor .u64 r (sHl .u64 r 13)) (sHr .u64 (bXor .u64 r (sHl .u64 r 13)) 7)) (sHl .u64 (bXor .u64 (bXor .u64 r (sHl .u64 r 13)) (sHr .u64 (bXor .u64 r (sHl .u64 r 13)) 7)) 17), (by rfl), (by rfl)⟩⟩⟩⟩⟩⟩⟩⟩⟩⟩⟩)

end Go.Proofs.YtejpoojgbnppoaaDoor