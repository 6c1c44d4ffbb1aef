import Derived.Test.YtnoppaibcmkccaaJrH
namespace Go.Proofs.Ytnoppaibcmkccaa
open Vc Go
set_option linter.unusedVariables false
set_option linter.unusedSimpArgs false

theorem opens (A0 M0 n : Nat) (d : Dk) (st xn xg xh : Int) (t : ByteArray) (R : RO) (hn : 32 ≤ n ∧ n ≤ 2048) (hC : Calm d) (hx : 0 ≤ xn ∧ xn ≤ 1000000) (he : xn % 2 = 0) (hg : 0 ≤ xg ∧ xg ≤ 1000000) (hh : 0 ≤ xh ∧ xh < 2)
    (hp1 : needI (t.size : Int) ≤ szI n) (ht : t.size ≤ 1000000000) (hz : ∀ q : Nat, stI n xh ≤ (q : Int) → (q : Int) < stI n xh + szI n → EqB (d.now q) (fun _ => 0)) :
    GivesX Try.prog 5 [.pointer (some ⟨A0, 0, none⟩)] R [some (A0, .row [.slice (some ⟨M0, 0, none⟩) n n, .int .i64 st, .int .i64 (-1), .bool false] 53 4), some (M0, .row (Dk.row (layE n d xn xg xh 1 0 t) n) 73 (n * 1025))] (Nat × Nat × Nat) (fun w => (.tuple #[.pointer (some ⟨w.1, 0, none⟩), .slice (some ⟨w.2.1, 0, none⟩) 1 w.2.2, .int .i64 0], [some (A0, .row [.slice (some ⟨M0, 0, none⟩) n n, .int .i64 st, .int .i64 (-1), .bool false] 53 4), some (M0, .row (Dk.row (layE n d xn xg xh 1 0 t) n) 73 (n * 1025)), some (w.1, .row [.pointer (some ⟨A0, 0, none⟩), .int .u64 (xn + 1 + 1), .int .u64 xg, .int .u64 xh, .int .u64 1, .int .i64 (0 + (needI (t.size : Int))), .int .i64 0] 46 7), some (w.2.1, .row [.string t] 9 (w.2.2 * 1))])) := by
  have e0 : EqB ((layE n d xn xg xh 1 0 t).now 0) (padF (markT (xn + 1 + 1) xg xh 1)) := layE_zero hC hx.1 he
  have e1 : EqB ((layE n d xn xg xh 1 0 t).now 1) (padF (markT (xn + 1) xg xh 1)) := layE_one hC hx.1 he
  have r0 := mk_rd e0 ⟨by omega, by omega⟩ ⟨by omega, by omega⟩ ⟨by omega, by omega⟩ ⟨by omega, by omega⟩
  have r1 := mk_rd e1 ⟨by omega, by omega⟩ ⟨by omega, by omega⟩ ⟨by omega, by omega⟩ ⟨by omega, by omega⟩
  have hr := stI_rng hn hh
  have hne := needI_eq (k := (t.size : Int)) (by omega)
  have hA : ∀ j, j < Int.toNat (needI (t.size : Int)) → EqB ((layE n d xn xg xh 1 0 t).now (Int.toNat (stI n xh + 0) + j)) (padF ((frameT xg 0 t).extract (512 * j) (frameT xg 0 t).size)) := fun j hj => by
    have h := layE_now (n := n) (pa := 0) (xc := 1) (t := t) (xg := xg) (xh := xh) hC hx.1 he (q := Int.toNat (stI n xh + 0) + j) (by omega)
    rw [if_pos (by omega), show Int.toNat (stI n xh + 0) + j - Int.toNat (stI n xh + 0) = j by omega, show (1 : Int) - 1 = 0 from rfl] at h
    exact h
  obtain ⟨hw, hb⟩ := fr_first (d := (layE n d xn xg xh 1 0 t)) (a := Int.toNat (stI n xh + 0)) (g := xg) (n := 0) (t := t) (by
    have h := hA 0 (by omega)
    rw [Nat.mul_zero, ByteArray.extract_zero_size, Nat.add_zero] at h
    exact h) ht
  have hcat : catB (layE n d xn xg xh 1 0 t) (Int.toNat (stI n xh + 0)) (Int.toNat (needI (t.size : Int))) = frameT xg 0 t ++ zS (512 * Int.toNat (needI (t.size : Int)) - (frameT xg 0 t).size) := by
    rw [cat_pad hA, ofI_pad (by rw [frameT_size]; omega)]
  refine open_one A0 M0 n (layE n d xn xg xh 1 0 t) st (xn + 1 + 1) xg xh t R hn (mk_ok e0 ⟨by omega, by omega⟩ ⟨by omega, by omega⟩ hh ⟨by omega, by omega⟩) (mk_ok e1 ⟨by omega, by omega⟩ ⟨by omega, by omega⟩ hh ⟨by omega, by omega⟩)
    ?_ ?_ r0.1 r0.2.1 r0.2.2.1 r0.2.2.2 hh hp1 ht hb hw ?_ ?_ ?_
  · have := r0.1
    show mkN ((layE n d xn xg xh 1 0 t).now 0) > 0
    omega
  · have := r0.1
    have := r1.1
    show ¬ mkN ((layE n d xn xg xh 1 0 t).now 1) > mkN ((layE n d xn xg xh 1 0 t).now 0)
    omega
  · rw [hb, hcat]; exact fr_text _
  · rw [hb, hcat]
    refine congrArg (fun k => frameT xg 0 t ++ zS k) ?_
    rw [ByteArray.size_append, zS_size]
    omega
  · intro q q1 q2
    have h := layE_now (n := n) (pa := 0) (xc := 1) (t := t) (xg := xg) (xh := xh) hC hx.1 he (q := q) (by omega)
    rw [if_neg (by omega)] at h
    exact h.tr (hz q (by omega) (by omega))


def fillR (N : Nat) (b : Int) (i : Nat) : List Value := List.replicate i (.int .u8 b) ++ List.replicate (N - i) (.int .u8 0)
theorem fillR_len {N : Nat} {b : Int} {i : Nat} (h : i ≤ N) : (fillR N b i).length = N := by unfold fillR; simp; omega
theorem fillR_full (N : Nat) (b : Int) : fillR N b N = List.replicate N (.int .u8 b) := by unfold fillR; rw [Nat.sub_self]; simp
theorem fillR_get {N : Nat} {b : Int} {i : Nat} (h : i ≤ N) (k : Nat) : (fillR N b i)[k]? = if k < i then some (.int .u8 b) else if k < N then some (.int .u8 0) else none := by
  unfold fillR
  by_cases h1 : k < i
  · rw [if_pos h1, List.getElem?_append_left (by rw [List.length_replicate]; exact h1), List.getElem?_replicate, if_pos h1]
  · rw [if_neg h1, List.getElem?_append_right (by rw [List.length_replicate]; omega), List.length_replicate, List.getElem?_replicate]
    by_cases h2 : k < N
    · rw [if_pos h2, if_pos (by omega)]
    · rw [if_neg h2, if_neg (by omega)]
theorem wfill {P : Program} {t : TypeId} (hs : pureV P (Go.sizeOf t) = some 1) {N : Nat} {b j : Int} {off : Nat} (h0 : 0 ≤ j) (h : j < (N : Int)) (ho : off = Int.toNat j) :
    writeVar P t (fillR N b (Int.toNat j)) off (.int .u8 b) = some (fillR N b (Int.toNat (j + 1))) := by
  have g0 := fun k => fillR_get (N := N) (b := b) (i := Int.toNat j) (by omega) k
  have g1 := fun k => fillR_get (N := N) (b := b) (i := Int.toNat (j + 1)) (by omega) k
  refine writeVar_of (n := 1) hs rfl rfl ?_ ?_ ?_ ?_
  · rw [fillR_len (by omega)]; omega
  · rw [fillR_len (by omega), fillR_len (by omega)]
  · intro k hk
    have : k = 0 := by omega
    subst this
    rw [g1, if_pos (by omega)]
    rfl
  · intro k hk
    rw [g0, g1]
    by_cases h1 : k < off
    · have a : k < Int.toNat j := by omega
      have c : k < Int.toNat (j + 1) := by omega
      simp only [a, c, if_true]
    · have a : ¬ k < Int.toNat j := by omega
      have c : ¬ k < Int.toNat (j + 1) := by omega
      simp only [a, c, if_false]
def actT (tn tb : Int) : ByteArray := ofI (List.replicate (Int.toNat (Int.tmod tn 3000)) tb)
theorem actT_size (tn tb : Int) : (actT tn tb).size = Int.toNat (Int.tmod tn 3000) := by unfold actT; rw [ofI_size, List.length_replicate]
theorem tm3 {tn : Int} (h : 0 ≤ tn) : 0 ≤ Int.tmod tn 3000 ∧ Int.tmod tn 3000 < 3000 := ⟨Int.tmod_nonneg _ h, Int.tmod_lt_of_pos _ (by decide)⟩
theorem actT_le {tn : Int} (tb : Int) (h : 0 ≤ tn) : (actT tn tb).size < 3000 := by rw [actT_size]; have := tm3 h; omega
theorem fill_src {R : RO} {g tb mm : Nat} (N : Nat) (b : Int) : Src R [some (g, .row (fillR N b N) tb mm)] 1 N (.slice (some ⟨g, 0, none⟩) N N) (ints (List.replicate N b)) :=
  ⟨by rw [ints_length, List.length_replicate, Nat.mul_one], .inr (.inr ⟨_, _, _, rfl, .inl ⟨0, _, _, _, rfl, by
    rw [List.drop_zero, List.take_of_length_le (by rw [fillR_len (Nat.le_refl _)]; omega), fillR_full]
    simp only [ints, List.map_replicate]⟩⟩)⟩

noncomputable def text17_ok_L3_inv (ta : Bool) (tn tb : Int) (a0 : Nat) (y1 : Nat)  : Int × (Nat → Value) → St := fun zx => ⟨[.agg #[.bool ta, .int .u16 tn, .int .u8 tb], .pointer (some ⟨a0, 0, none⟩), .string ByteArray.empty, .slice (some ⟨y1, 0, none⟩) (Int.toNat (Int.tmod tn 3000)) (Int.toNat (Int.tmod tn 3000)), (zx.2 4), .pointer (some ⟨a0, 1, none⟩), .int .u16 tn, .int .u16 (Int.tmod tn 3000), .slice (some ⟨y1, 0, none⟩) (Int.toNat (Int.tmod tn 3000)) (Int.toNat (Int.tmod tn 3000)), .slice (some ⟨y1, 0, none⟩) (Int.toNat (Int.tmod tn 3000)) (Int.toNat (Int.tmod tn 3000)), .int .i64 ((Int.toNat (Int.tmod tn 3000) : Nat) : Int), .int .i64 zx.1, (zx.2 12), (zx.2 13), (zx.2 14), (zx.2 15), (zx.2 16), (zx.2 17), (zx.2 18), (zx.2 19), undef, undef], [], [some (a0, .row [.bool ta, .int .u16 tn, .int .u8 tb] 36 3), some (y1, .row (fillR (Int.toNat (Int.tmod tn 3000)) tb (Int.toNat zx.1)) 5 (Int.toNat (Int.tmod tn 3000)))]⟩
def text17_ok_L3_I (ta : Bool) (tn tb : Int) (a0 : Nat) (y1 : Nat)  (R : RO) : Int × (Nat → Value) → RO → Prop := fun zx G => G = R ∧ (0 ≤ zx.1 ∧ zx.1 ≤ ((Int.toNat (Int.tmod tn 3000) : Nat) : Int))
def text17_ok_L3_mu (ta : Bool) (tn tb : Int) (a0 : Nat) (y1 : Nat)  : Int × (Nat → Value) → Nat := fun zx => Int.toNat (((Int.toNat (Int.tmod tn 3000) : Nat) : Int) - zx.1)
noncomputable def text17_ok_L3_K (ta : Bool) (tn tb : Int) (a0 : Nat) (y1 : Nat)  (R : RO) : Exit' → St → RO → Prop := altPost R (.alt (Int × (Nat → Value)) (fun zx => True) (fun zx => (.exit 0, ⟨[.agg #[.bool ta, .int .u16 tn, .int .u8 tb], .pointer (some ⟨a0, 0, none⟩), .string ByteArray.empty, .slice (some ⟨y1, 0, none⟩) (Int.toNat (Int.tmod tn 3000)) (Int.toNat (Int.tmod tn 3000)), (zx.2 4), .pointer (some ⟨a0, 1, none⟩), .int .u16 tn, .int .u16 (Int.tmod tn 3000), .slice (some ⟨y1, 0, none⟩) (Int.toNat (Int.tmod tn 3000)) (Int.toNat (Int.tmod tn 3000)), .slice (some ⟨y1, 0, none⟩) (Int.toNat (Int.tmod tn 3000)) (Int.toNat (Int.tmod tn 3000)), .int .i64 ((Int.toNat (Int.tmod tn 3000) : Nat) : Int), .int .i64 zx.1, (zx.2 12), (zx.2 13), (zx.2 14), (zx.2 15), (zx.2 16), (zx.2 17), (zx.2 18), (zx.2 19), undef, undef], [], [some (a0, .row [.bool ta, .int .u16 tn, .int .u8 tb] 36 3), some (y1, .row (fillR (Int.toNat (Int.tmod tn 3000)) tb (Int.toNat (Int.tmod tn 3000))) 5 (Int.toNat (Int.tmod tn 3000)))]⟩)) (fun _ => .altn) .altn)
set_option maxRecDepth 100000 in
set_option maxHeartbeats 4000000 in
theorem text17_ok_L3_body (ta : Bool) (tn tb : Int) (a0 : Nat) (y1 : Nat)  (R : RO) (h0 : 0 ≤ tn ∧ tn ≤ 65535) (j : Int) (u2 : Nat → Value) (hI : 0 ≤ j ∧ j ≤ ((Int.toNat (Int.tmod tn 3000) : Nat) : Int)) : CT Try.prog (sub (bodyOf Try.f15) [1, 1, 0, 1, 0, 0]) (text17_ok_L3_inv ta tn tb a0 y1 (j, u2)) R (LK (text17_ok_L3_inv ta tn tb a0 y1) (text17_ok_L3_I ta tn tb a0 y1 R) (text17_ok_L3_mu ta tn tb a0 y1) (text17_ok_L3_K ta tn tb a0 y1 R) (j, u2)) :=
  CT.of_wp_eq (VC := (((decide (j < ((Int.toNat (Int.tmod tn 3000) : Nat) : Int))) = true → (a0 = a0) ∧ ((0 : Int) ≤ j ∧ (j : Int) < ((Int.toNat (Int.tmod tn 3000) : Nat) : Int)) ∧ (y1 = y1 ∧ writeVar Try.prog 5 (fillR (Int.toNat (Int.tmod tn 3000)) tb (Int.toNat j)) (0 + Int.toNat j * 1) (.int .u8 tb) = some (fillR (Int.toNat (Int.tmod tn 3000)) tb (Int.toNat (j + 1)))) ∧ (IntKind.i64 = IntKind.i64 ∧ IntKind.i64.wrap (j + 1) = j + 1) ∧ LK (text17_ok_L3_inv ta tn tb a0 y1) (text17_ok_L3_I ta tn tb a0 y1 R) (text17_ok_L3_mu ta tn tb a0 y1) (text17_ok_L3_K ta tn tb a0 y1 R) (j, u2) .normal ⟨[.agg #[.bool ta, .int .u16 tn, .int .u8 tb], .pointer (some ⟨a0, 0, none⟩), .string ByteArray.empty, .slice (some ⟨y1, 0, none⟩) (Int.toNat (Int.tmod tn 3000)) (Int.toNat (Int.tmod tn 3000)), .int .i64 j, .pointer (some ⟨a0, 1, none⟩), .int .u16 tn, .int .u16 (Int.tmod tn 3000), .slice (some ⟨y1, 0, none⟩) (Int.toNat (Int.tmod tn 3000)) (Int.toNat (Int.tmod tn 3000)), .slice (some ⟨y1, 0, none⟩) (Int.toNat (Int.tmod tn 3000)) (Int.toNat (Int.tmod tn 3000)), .int .i64 ((Int.toNat (Int.tmod tn 3000) : Nat) : Int), .int .i64 (j + 1), .bool true, .int .i64 j, .slice (some ⟨y1, 0, none⟩) (Int.toNat (Int.tmod tn 3000)) (Int.toNat (Int.tmod tn 3000)), .int .i64 j, .pointer (some ⟨a0, 2, none⟩), .int .u8 tb, .pointer (some ⟨y1, 0 + Int.toNat j * 1, none⟩), .int .i64 (j + 1), undef, undef], [], [some (a0, .row [.bool ta, .int .u16 tn, .int .u8 tb] 36 3), some (y1, .row (fillR (Int.toNat (Int.tmod tn 3000)) tb (Int.toNat (j + 1))) 5 (Int.toNat (Int.tmod tn 3000)))]⟩ R) ∧ ((decide (j < ((Int.toNat (Int.tmod tn 3000) : Nat) : Int))) = false → LK (text17_ok_L3_inv ta tn tb a0 y1) (text17_ok_L3_I ta tn tb a0 y1 R) (text17_ok_L3_mu ta tn tb a0 y1) (text17_ok_L3_K ta tn tb a0 y1 R) (j, u2) (.exit 0) ⟨[.agg #[.bool ta, .int .u16 tn, .int .u8 tb], .pointer (some ⟨a0, 0, none⟩), .string ByteArray.empty, .slice (some ⟨y1, 0, none⟩) (Int.toNat (Int.tmod tn 3000)) (Int.toNat (Int.tmod tn 3000)), (u2 4), .pointer (some ⟨a0, 1, none⟩), .int .u16 tn, .int .u16 (Int.tmod tn 3000), .slice (some ⟨y1, 0, none⟩) (Int.toNat (Int.tmod tn 3000)) (Int.toNat (Int.tmod tn 3000)), .slice (some ⟨y1, 0, none⟩) (Int.toNat (Int.tmod tn 3000)) (Int.toNat (Int.tmod tn 3000)), .int .i64 ((Int.toNat (Int.tmod tn 3000) : Nat) : Int), .int .i64 j, .bool false, (u2 13), (u2 14), (u2 15), (u2 16), (u2 17), (u2 18), (u2 19), undef, undef], [], [some (a0, .row [.bool ta, .int .u16 tn, .int .u8 tb] 36 3), some (y1, .row (fillR (Int.toNat (Int.tmod tn 3000)) tb (Int.toNat j)) 5 (Int.toNat (Int.tmod tn 3000)))]⟩ R))) (ops [.d] (.sp 12 (ops [.d, .d, .d, .d, .d, .p 0, .ia, .sq 1 (fun e v => fillR (Int.toNat (Int.tmod tn 3000)) tb (Int.toNat (j + 1))), .nw, .d] (.fin [] [])) (.fin [] []))) (by kernel_rfl)
    (⟨fun h53 => ⟨rfl, ⟨(by have := hI.1; have := (of_decide_eq_true h53); omega), ⟨⟨rfl, (wfill (by kernel_rfl) hI.1 (by have := (of_decide_eq_true h53); omega) (by omega))⟩, ⟨⟨rfl, (wrapI (by have := hI.1; omega) (by have := hI.2; have := tm3 h0.1; omega))⟩, ⟨(j + 1, tget [.agg #[.bool ta, .int .u16 tn, .int .u8 tb], .pointer (some ⟨a0, 0, none⟩), .string ByteArray.empty, .slice (some ⟨y1, 0, none⟩) (Int.toNat (Int.tmod tn 3000)) (Int.toNat (Int.tmod tn 3000)), .int .i64 j, .pointer (some ⟨a0, 1, none⟩), .int .u16 tn, .int .u16 (Int.tmod tn 3000), .slice (some ⟨y1, 0, none⟩) (Int.toNat (Int.tmod tn 3000)) (Int.toNat (Int.tmod tn 3000)), .slice (some ⟨y1, 0, none⟩) (Int.toNat (Int.tmod tn 3000)) (Int.toNat (Int.tmod tn 3000)), .int .i64 ((Int.toNat (Int.tmod tn 3000) : Nat) : Int), .int .i64 (j + 1), .bool true, .int .i64 j, .slice (some ⟨y1, 0, none⟩) (Int.toNat (Int.tmod tn 3000)) (Int.toNat (Int.tmod tn 3000)), .int .i64 j, .pointer (some ⟨a0, 2, none⟩), .int .u8 tb, .pointer (some ⟨y1, 0 + Int.toNat j * 1, none⟩), .int .i64 (j + 1), undef, undef]), ⟨rfl, (show 0 ≤ (j + 1) ∧ (j + 1) ≤ ((Int.toNat (Int.tmod tn 3000) : Nat) : Int) from ⟨(by have := hI.1; omega), (by have := (of_decide_eq_true h53); omega)⟩)⟩, (show Int.toNat (((Int.toNat (Int.tmod tn 3000) : Nat) : Int) - (j + 1)) < Int.toNat (((Int.toNat (Int.tmod tn 3000) : Nat) : Int) - j) from (by have := hI.1; have := (of_decide_eq_true h53); omega)), ⟨rfl, rfl, rfl⟩⟩⟩⟩⟩⟩, fun h53 => Or.inl ⟨rfl, (j, tget [.agg #[.bool ta, .int .u16 tn, .int .u8 tb], .pointer (some ⟨a0, 0, none⟩), .string ByteArray.empty, .slice (some ⟨y1, 0, none⟩) (Int.toNat (Int.tmod tn 3000)) (Int.toNat (Int.tmod tn 3000)), (u2 4), .pointer (some ⟨a0, 1, none⟩), .int .u16 tn, .int .u16 (Int.tmod tn 3000), .slice (some ⟨y1, 0, none⟩) (Int.toNat (Int.tmod tn 3000)) (Int.toNat (Int.tmod tn 3000)), .slice (some ⟨y1, 0, none⟩) (Int.toNat (Int.tmod tn 3000)) (Int.toNat (Int.tmod tn 3000)), .int .i64 ((Int.toNat (Int.tmod tn 3000) : Nat) : Int), .int .i64 j, .bool false, (u2 13), (u2 14), (u2 15), (u2 16), (u2 17), (u2 18), (u2 19), undef, undef]), (show True from trivial), rfl, ⟨rfl, rfl, (by have h9 : Int.toNat j = Int.toNat (Int.tmod tn 3000) := (by have := hI.1; have := hI.2; have := (of_decide_eq_false h53); omega); rw [h9]; first | done | rfl)⟩⟩⟩)
theorem text17_ok_L3_ct (ta : Bool) (tn tb : Int) (a0 : Nat) (y1 : Nat)  (R : RO) (h0 : 0 ≤ tn ∧ tn ≤ 65535)  : CT Try.prog (sub (bodyOf Try.f15) [1, 1, 0, 1, 0]) ⟨[.agg #[.bool ta, .int .u16 tn, .int .u8 tb], .pointer (some ⟨a0, 0, none⟩), .string ByteArray.empty, .slice (some ⟨y1, 0, none⟩) (Int.toNat (Int.tmod tn 3000)) (Int.toNat (Int.tmod tn 3000)), undef, .pointer (some ⟨a0, 1, none⟩), .int .u16 tn, .int .u16 (Int.tmod tn 3000), .slice (some ⟨y1, 0, none⟩) (Int.toNat (Int.tmod tn 3000)) (Int.toNat (Int.tmod tn 3000)), .slice (some ⟨y1, 0, none⟩) (Int.toNat (Int.tmod tn 3000)) (Int.toNat (Int.tmod tn 3000)), .int .i64 ((Int.toNat (Int.tmod tn 3000) : Nat) : Int), .int .i64 0, undef, undef, undef, undef, undef, undef, undef, undef, undef, undef], [], [some (a0, .row [.bool ta, .int .u16 tn, .int .u8 tb] 36 3), some (y1, .row (List.replicate (Int.toNat (Int.tmod tn 3000)) (.int .u8 0)) 5 (Int.toNat (Int.tmod tn 3000)))]⟩ R (text17_ok_L3_K ta tn tb a0 y1 R) :=
  CT.loop_eq (text17_ok_L3_inv ta tn tb a0 y1) (text17_ok_L3_I ta tn tb a0 y1 R) (text17_ok_L3_mu ta tn tb a0 y1) (0, tget [.agg #[.bool ta, .int .u16 tn, .int .u8 tb], .pointer (some ⟨a0, 0, none⟩), .string ByteArray.empty, .slice (some ⟨y1, 0, none⟩) (Int.toNat (Int.tmod tn 3000)) (Int.toNat (Int.tmod tn 3000)), undef, .pointer (some ⟨a0, 1, none⟩), .int .u16 tn, .int .u16 (Int.tmod tn 3000), .slice (some ⟨y1, 0, none⟩) (Int.toNat (Int.tmod tn 3000)) (Int.toNat (Int.tmod tn 3000)), .slice (some ⟨y1, 0, none⟩) (Int.toNat (Int.tmod tn 3000)) (Int.toNat (Int.tmod tn 3000)), .int .i64 ((Int.toNat (Int.tmod tn 3000) : Nat) : Int), .int .i64 0, undef, undef, undef, undef, undef, undef, undef, undef, undef, undef]) (by kernel_rfl) (by kernel_rfl) ⟨rfl, (show 0 ≤ 0 ∧ 0 ≤ ((Int.toNat (Int.tmod tn 3000) : Nat) : Int) from ⟨by omega, by have := tm3 h0.1; omega⟩)⟩
    (by
      rintro ⟨j, u2⟩ G hG ⟨rfl, hI⟩
      exact text17_ok_L3_body ta tn tb a0 y1 _ h0 j u2 hI)
set_option maxRecDepth 100000 in
set_option maxHeartbeats 4000000 in
theorem text17_ok (ta : Bool) (tn tb : Int) (R : RO) (h0 : 0 ≤ tn ∧ tn ≤ 65535) : Gives Try.prog 15 [.agg #[.bool ta, .int .u16 tn, .int .u8 tb]] R [] (.ret (.string (actT tn tb))) [] :=
  Does.of_wp_eq (VC := (∀ a0 : Nat, (a0 = a0) ∧ (PrimOK Try.prog (.mks 54 (.int .u16 (Int.tmod tn 3000)) (.int .u16 (Int.tmod tn 3000))) R [] (Nat) (fun y1 => True) (fun y1 => (.slice (some ⟨y1, 0, none⟩) (Int.toNat (Int.tmod tn 3000)) (Int.toNat (Int.tmod tn 3000)), [some (y1, .row (List.replicate (Int.toNat (Int.tmod tn 3000)) (.int .u8 0)) 5 (Int.toNat (Int.tmod tn 3000)))]))) ∧ ∀ y1 : Nat, (True) → (CT Try.prog (sub (bodyOf Try.f15) [1, 1, 0, 1, 0]) ⟨[.agg #[.bool ta, .int .u16 tn, .int .u8 tb], .pointer (some ⟨a0, 0, none⟩), .string ByteArray.empty, .slice (some ⟨y1, 0, none⟩) (Int.toNat (Int.tmod tn 3000)) (Int.toNat (Int.tmod tn 3000)), undef, .pointer (some ⟨a0, 1, none⟩), .int .u16 tn, .int .u16 (Int.tmod tn 3000), .slice (some ⟨y1, 0, none⟩) (Int.toNat (Int.tmod tn 3000)) (Int.toNat (Int.tmod tn 3000)), .slice (some ⟨y1, 0, none⟩) (Int.toNat (Int.tmod tn 3000)) (Int.toNat (Int.tmod tn 3000)), .int .i64 ((Int.toNat (Int.tmod tn 3000) : Nat) : Int), .int .i64 0, undef, undef, undef, undef, undef, undef, undef, undef, undef, undef], [], [some (a0, .row [.bool ta, .int .u16 tn, .int .u8 tb] 36 3), some (y1, .row (List.replicate (Int.toNat (Int.tmod tn 3000)) (.int .u8 0)) 5 (Int.toNat (Int.tmod tn 3000)))]⟩ R (text17_ok_L3_K ta tn tb a0 y1 R)) ∧ (∀ x3 : Int × (Nat → Value), (True) → (Prim0 Try.prog (.cnv 54 9 (.slice (some ⟨y1, 0, none⟩) (Int.toNat (Int.tmod tn 3000)) (Int.toNat (Int.tmod tn 3000)))) R [some (y1, .row (fillR (Int.toNat (Int.tmod tn 3000)) tb (Int.toNat (Int.tmod tn 3000))) 5 (Int.toNat (Int.tmod tn 3000)))] (.string (ofI (List.replicate (Int.toNat (Int.tmod tn 3000)) tb))) [some (y1, .row (fillR (Int.toNat (Int.tmod tn 3000)) tb (Int.toNat (Int.tmod tn 3000))) 5 (Int.toNat (Int.tmod tn 3000)))]) ∧ GQ R (.ret (.string (actT tn tb))) [] (.ret (.string (ofI (List.replicate (Int.toNat (Int.tmod tn 3000)) tb)))) R []) ∧ True)) (.opn 0 (fun a0 => (ops [.d, .d, .p 0, .d] (.opp [] [1] (Nat) (fun y1 => True) (fun y1 => (.slice (some ⟨y1, 0, none⟩) (Int.toNat (Int.tmod tn 3000)) (Int.toNat (Int.tmod tn 3000)), [some (y1, .row (List.replicate (Int.toNat (Int.tmod tn 3000)) (.int .u8 0)) 5 (Int.toNat (Int.tmod tn 3000)))])) (fun y1 => (ops [.d, .d, .d, .d] (.alt (Int × (Nat → Value)) (fun zx => True) (fun zx => (.exit 0, ⟨[.agg #[.bool ta, .int .u16 tn, .int .u8 tb], .pointer (some ⟨a0, 0, none⟩), .string ByteArray.empty, .slice (some ⟨y1, 0, none⟩) (Int.toNat (Int.tmod tn 3000)) (Int.toNat (Int.tmod tn 3000)), (zx.2 4), .pointer (some ⟨a0, 1, none⟩), .int .u16 tn, .int .u16 (Int.tmod tn 3000), .slice (some ⟨y1, 0, none⟩) (Int.toNat (Int.tmod tn 3000)) (Int.toNat (Int.tmod tn 3000)), .slice (some ⟨y1, 0, none⟩) (Int.toNat (Int.tmod tn 3000)) (Int.toNat (Int.tmod tn 3000)), .int .i64 ((Int.toNat (Int.tmod tn 3000) : Nat) : Int), .int .i64 zx.1, (zx.2 12), (zx.2 13), (zx.2 14), (zx.2 15), (zx.2 16), (zx.2 17), (zx.2 18), (zx.2 19), undef, undef], [], [some (a0, .row [.bool ta, .int .u16 tn, .int .u8 tb] 36 3), some (y1, .row (fillR (Int.toNat (Int.tmod tn 3000)) tb (Int.toNat (Int.tmod tn 3000))) 5 (Int.toNat (Int.tmod tn 3000)))]⟩)) (fun x3 => (ops [.d, .pr0 [1] [] (fun e v => .string (ofI (List.replicate (Int.toNat (Int.tmod tn 3000)) tb))) (fun e v => [some (y1, .row (fillR (Int.toNat (Int.tmod tn 3000)) tb (Int.toNat (Int.tmod tn 3000))) 5 (Int.toNat (Int.tmod tn 3000)))]), .d] (.fin [] []))) .altn))))))) Try.func15 (by kernel_rfl) (by kernel_rfl)
    (fun a0 => ⟨rfl, ⟨(mks_ok (e := 5) (by' := 1) (zc := .int .u8 0) (by kernel_rfl) (by kernel_rfl) (by have := tm3 h0.1; omega) (by have := tm3 h0.1; omega) (by have := tm3 h0.1; omega) (by have := tm3 h0.1; omega)), fun y1 qy1 => ⟨text17_ok_L3_ct ta tn tb a0 y1 R h0, ⟨fun x3 qx3 => ⟨(b2s_ok (e := 5) (ns := List.replicate (Int.toNat (Int.tmod tn 3000)) tb) (by kernel_rfl) (by kernel_rfl) (by kernel_rfl) (fill_src (Int.toNat (Int.tmod tn 3000)) tb) (by simp)), ⟨rfl, (by rfl), (by rfl)⟩⟩, trivial⟩⟩⟩⟩)

end Go.Proofs.Ytnoppaibcmkccaa