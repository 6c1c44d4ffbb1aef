import Derived.Test.YtlfhlbhgmgkbpaaGreatJrG
namespace Go.Proofs.YtlfhlbhgmgkbpaaGreat
open Vc Go
set_option linter.unusedVariables false
set_option linter.unusedSimpArgs false

theorem len_size (s : ByteArray) : s.data.toList.length = s.size := by rw [Array.length_toList]; rfl
theorem ext_list (s : ByteArray) (i j : Nat) : (s.extract i j).data.toList = (s.data.toList.take j).drop i := by
  rw [ByteArray.data_extract, Array.toList_extract]
  simp [List.extract_eq_take_drop, List.drop_take]
theorem sI_extract (s : ByteArray) (i j : Nat) : sI (s.extract i j) = ((sI s).take j).drop i := by
  unfold sI
  rw [ext_list, List.map_drop, List.map_take]
theorem bt_ext {s : ByteArray} {i j m : Nat} (h : i + m < j) (hj : j ≤ s.size) : bt (s.extract i j) (m : Int) = bt s ((i + m : Nat) : Int) := by
  unfold bt
  have e : (s.extract i j).data[Int.toNat (m : Int)]? = s.data[Int.toNat ((i + m : Nat) : Int)]? := by
    rw [Int.toNat_natCast, Int.toNat_natCast, ← Array.getElem?_toList, ← Array.getElem?_toList, ext_list, List.getElem?_drop, List.getElem?_take_of_lt (by omega)]
  rw [e]
theorem padF_ext (s : ByteArray) (i m : Nat) : padF (s.extract i s.size) m = padF s (i + m) := by
  unfold padF
  rw [ByteArray.size_extract]
  by_cases h : i + m < s.size
  · rw [if_pos h, if_pos (by omega), bt_ext h (Nat.le_refl _)]
  · rw [if_neg h, if_neg (by omega)]
theorem padF_bd (s : ByteArray) (k : Nat) : 0 ≤ padF s k ∧ padF s k ≤ 255 := by
  unfold padF
  split
  · exact bt_bd s _
  · omega
theorem sI_zS (k : Nat) : sI (zS k) = List.replicate k 0 := sI_ofI fun n hn => by rw [List.eq_of_mem_replicate hn]; omega
theorem pad_list (s : ByteArray) (n : Nat) : (List.range n).map (padF s) = (sI s ++ List.replicate n 0).take n := by
  have hs := sI_length s
  apply List.ext_getElem?
  intro k
  by_cases hk : k < n
  · rw [List.getElem?_map, List.getElem?_range hk, List.getElem?_take_of_lt hk]
    show some (padF s k) = _
    unfold padF
    by_cases h : k < s.size
    · rw [if_pos h, List.getElem?_append_left (by omega), bt_sI s h]
    · rw [if_neg h, List.getElem?_append_right (by omega), List.getElem?_replicate, if_pos (by omega)]
  · rw [List.getElem?_eq_none (by simp; omega), List.getElem?_eq_none (by simp; omega)]
theorem sI_pad (s : ByteArray) (n : Nat) : sI (ofI ((List.range n).map (padF s))) = (sI s ++ List.replicate n 0).take n := by
  rw [sI_ofI, pad_list]
  intro x hx
  obtain ⟨k, _, rfl⟩ := List.mem_map.1 hx
  exact padF_bd s k
theorem ofI_pad {s : ByteArray} {n : Nat} (h : s.size ≤ n) : ofI ((List.range n).map (padF s)) = s ++ zS (n - s.size) := by
  apply sI_inj
  have hs := sI_length s
  rw [sI_pad, sI_append, sI_zS, List.take_append, List.take_of_length_le (by omega), List.take_replicate, hs]
  congr 2
  omega
theorem cat_pad {d : Dk} {a : Nat} {s : ByteArray} : ∀ {k : Nat}, (∀ j, j < k → EqB (d.now (a + j)) (padF (s.extract (512 * j) s.size))) → catB d a k = ofI ((List.range (512 * k)).map (padF s))
  | 0, _ => rfl
  | k + 1, h => by
    rw [catB, cat_pad (k := k) fun j hj => h j (by omega), EqB.blk (h k (by omega)), show 512 * (k + 1) = 512 * k + 512 by omega, List.range_add, List.map_append, ofI_append]
    refine congrArg (fun z => ofI ((List.range (512 * k)).map (padF s)) ++ z) ?_
    rw [List.map_map]
    exact congrArg ofI (List.map_congr_left fun m _ => padF_ext s _ _)

/-! ## Numbers -/

def numL (n : Int) : List Int := [n / 72057594037927936 % 256, n / 281474976710656 % 256, n / 1099511627776 % 256, n / 4294967296 % 256, n / 16777216 % 256, n / 65536 % 256, n / 256 % 256, n / 1 % 256]
theorem sh_lit {x : Int} {n : Nat} (h : n ≤ 64) : sHr .u64 x (n : Int) = x / 2 ^ n := shr_div (k := .u64) h
theorem sI_numB (n : Int) : sI (numB n) = numL n := by
  have e : ∀ (k : Nat) (h : k ≤ 64), IntKind.u8.wrap (sHr .u64 n (k : Int)) = n / 2 ^ k % 256 := fun k h => by rw [wu8, sh_lit h]
  have e7 : IntKind.u8.wrap (sHr .u64 n 56) = n / 72057594037927936 % 256 := by
    have h := e 56 (by decide)
    rw [show ((2 : Int) ^ 56) = 72057594037927936 from by decide] at h
    exact h
  have e6 : IntKind.u8.wrap (sHr .u64 n 48) = n / 281474976710656 % 256 := by
    have h := e 48 (by decide)
    rw [show ((2 : Int) ^ 48) = 281474976710656 from by decide] at h
    exact h
  have e5 : IntKind.u8.wrap (sHr .u64 n 40) = n / 1099511627776 % 256 := by
    have h := e 40 (by decide)
    rw [show ((2 : Int) ^ 40) = 1099511627776 from by decide] at h
    exact h
  have e4 : IntKind.u8.wrap (sHr .u64 n 32) = n / 4294967296 % 256 := by
    have h := e 32 (by decide)
    rw [show ((2 : Int) ^ 32) = 4294967296 from by decide] at h
    exact h
  have e3 : IntKind.u8.wrap (sHr .u64 n 24) = n / 16777216 % 256 := by
    have h := e 24 (by decide)
    rw [show ((2 : Int) ^ 24) = 16777216 from by decide] at h
    exact h
  have e2 : IntKind.u8.wrap (sHr .u64 n 16) = n / 65536 % 256 := by
    have h := e 16 (by decide)
    rw [show ((2 : Int) ^ 16) = 65536 from by decide] at h
    exact h
  have e1 : IntKind.u8.wrap (sHr .u64 n 8) = n / 256 % 256 := by
    have h := e 8 (by decide)
    rw [show ((2 : Int) ^ 8) = 256 from by decide] at h
    exact h
  have e0 : IntKind.u8.wrap (sHr .u64 n 0) = n / 1 % 256 := by
    have h := e 0 (by decide)
    rw [show ((2 : Int) ^ 0) = 1 from by decide] at h
    exact h
  have hl : numB n = ofI (numL n) := by
    unfold numB numL
    congr 1
    rw [e7, e6, e5, e4, e3, e2, e1, e0]
  rw [hl, sI_ofI]
  intro x hx
  simp only [numL, List.mem_cons, List.not_mem_nil, or_false] at hx
  omega
theorem bt_nth {u : ByteArray} {L : List Int} (h : sI u = L) (k : Nat) (x : Int) (hx : L[k]? = some x) : bt u (k : Int) = x := by
  have h2 : k < u.size := by
    rw [← sI_length u, h]
    exact (List.getElem?_eq_some_iff.1 hx).1
  have h3 := bt_sI u h2
  rw [h, hx] at h3
  exact (Option.some.inj h3).symm
theorem back_list {u : ByteArray} {n : Int} {rest : List Int} (h : sI u = numL n ++ rest) (h0 : 0 ≤ n) (h1 : n < 18446744073709551616) : backF u = n := by
  have b0 : bt u 0 = n / 72057594037927936 % 256 := bt_nth h 0 _ rfl
  have b1 : bt u 1 = n / 281474976710656 % 256 := bt_nth h 1 _ rfl
  have b2 : bt u 2 = n / 1099511627776 % 256 := bt_nth h 2 _ rfl
  have b3 : bt u 3 = n / 4294967296 % 256 := bt_nth h 3 _ rfl
  have b4 : bt u 4 = n / 16777216 % 256 := bt_nth h 4 _ rfl
  have b5 : bt u 5 = n / 65536 % 256 := bt_nth h 5 _ rfl
  have b6 : bt u 6 = n / 256 % 256 := bt_nth h 6 _ rfl
  have b7 : bt u 7 = n / 1 % 256 := bt_nth h 7 _ rfl
  unfold backF
  have w : ∀ j, IntKind.u64.wrap (bt u j) = bt u j := fun j => wrapU (bt_bd u j).1 (by have := bt_bd u j; omega)
  simp only [w]
  have s0 : bOr .u64 0 (bt u 0) = n / 72057594037927936 := by
    rw [bOr_nn (by omega) (by decide) (by omega) (by show _ < (2 : Int) ^ 64; omega)]
    rw [show (0 : Int).toNat = 0 from rfl, Nat.zero_or, wrapU (by omega) (by omega)]
    omega
  have s1 : bOr .u64 (sHl .u64 (n / 72057594037927936) 8) (bt u 1) = n / 281474976710656 := by rw [b1, push8u] <;> omega
  have s2 : bOr .u64 (sHl .u64 (n / 281474976710656) 8) (bt u 2) = n / 1099511627776 := by rw [b2, push8u] <;> omega
  have s3 : bOr .u64 (sHl .u64 (n / 1099511627776) 8) (bt u 3) = n / 4294967296 := by rw [b3, push8u] <;> omega
  have s4 : bOr .u64 (sHl .u64 (n / 4294967296) 8) (bt u 4) = n / 16777216 := by rw [b4, push8u] <;> omega
  have s5 : bOr .u64 (sHl .u64 (n / 16777216) 8) (bt u 5) = n / 65536 := by rw [b5, push8u] <;> omega
  have s6 : bOr .u64 (sHl .u64 (n / 65536) 8) (bt u 6) = n / 256 := by rw [b6, push8u] <;> omega
  have s7 : bOr .u64 (sHl .u64 (n / 256) 8) (bt u 7) = n / 1 := by rw [b7, push8u] <;> omega
  rw [s0, s1, s2, s3, s4, s5, s6, s7, Int.ediv_one]

/-! ## Marks -/

theorem sI_markT (a b c e : Int) : ∃ r, sI (markT a b c e) = [79, 80, 77, 75] ++ (numL a ++ (numL b ++ (numL c ++ (numL e ++ r)))) := by
  refine ⟨sI (sh32 (joinB [markS a b c e]) ++ numB a), ?_⟩
  unfold markT
  rw [ByteArray.append_assoc, sI_append]
  unfold markS
  simp only [sI_append, sI_numB, List.append_assoc]
  rfl
theorem sI_blk {f : Nat → Int} {s : ByteArray} (h : EqB f (padF s)) : sI (blkS f) = (sI s ++ List.replicate 512 0).take 512 := by
  rw [h.blk]; exact sI_pad s 512
theorem drop_all (u : ByteArray) (i : Nat) : sI (u.extract i u.size) = (sI u).drop i := by
  rw [sI_extract, List.take_of_length_le (by rw [sI_length]; omega)]
theorem blk_mark {f : Nat → Int} {a b c e : Int} (h : EqB f (padF (markT a b c e))) : ∃ r, sI (blkS f) = [79, 80, 77, 75] ++ (numL a ++ (numL b ++ (numL c ++ (numL e ++ r)))) := by
  obtain ⟨r, hr⟩ := sI_markT a b c e
  refine ⟨(r ++ List.replicate 512 0).take 476, ?_⟩
  rw [sI_blk h, hr]
  rfl
theorem mk_rd {f : Nat → Int} {a b c e : Int} (h : EqB f (padF (markT a b c e))) (ha : 0 ≤ a ∧ a < 18446744073709551616) (hb : 0 ≤ b ∧ b < 18446744073709551616) (hc : 0 ≤ c ∧ c < 18446744073709551616) (he : 0 ≤ e ∧ e < 18446744073709551616) :
    mkN f = a ∧ mkG f = b ∧ mkH f = c ∧ mkC f = e := by
  obtain ⟨r, hr⟩ := blk_mark h
  refine ⟨back_list (rest := numL b ++ (numL c ++ (numL e ++ r))) ?_ ha.1 ha.2, back_list (rest := numL c ++ (numL e ++ r)) ?_ hb.1 hb.2, back_list (rest := numL e ++ r) ?_ hc.1 hc.2, back_list (rest := r) ?_ he.1 he.2⟩ <;>
    (rw [drop_all, hr]; rfl)
theorem mk_ok {f : Nat → Int} {a b c e : Int} (h : EqB f (padF (markT a b c e))) (ha : 0 < a ∧ a < 18446744073709551616) (hb : 0 ≤ b ∧ b < 18446744073709551616) (hc : 0 ≤ c ∧ c < 2) (he : 0 ≤ e ∧ e < 18446744073709551616) : markOK f = true := by
  obtain ⟨h1, h2, h3, h4⟩ := mk_rd h ⟨by omega, ha.2⟩ hb ⟨hc.1, by omega⟩ he
  unfold markOK markEq
  rw [h1, h2, h3, h4, decide_eq_true hc.2, decide_eq_true ha.1, vEq_z h.sy]
  rfl
theorem mk_no {f : Nat → Int} (h : EqB f (fun _ => 0)) : markOK f = false := by
  have h1 : markEq f = false := by
    cases hm : markEq f with
    | false => rfl
    | true =>
      exfalso
      unfold markEq at hm
      rw [List.toList_toArray, List.toList_toArray] at hm
      have h2 := vEq_blk.1 hm 0 (by decide)
      rw [h 0 (by decide)] at h2
      obtain ⟨r, hr⟩ := sI_markT (mkN f) (mkG f) (mkH f) (mkC f)
      have h3 : bt (markT (mkN f) (mkG f) (mkH f) (mkC f)) ((0 : Nat) : Int) = 79 := bt_nth hr 0 79 rfl
      unfold padF at h2
      rw [if_pos (by rw [markT_size]; decide), h3] at h2
      cases h2
  unfold markOK
  rw [h1]; rfl

/-! ## Frames -/

theorem sI_frameT (g n : Int) (t : ByteArray) : ∃ r, sI (frameT g n t) = [79, 80, 70, 82] ++ (numL g ++ (numL n ++ (numL (t.size : Int) ++ r))) := by
  refine ⟨sI (sh32 (joinB [frameS g n (t.size : Int), t]) ++ t), ?_⟩
  unfold frameT
  rw [ByteArray.append_assoc, sI_append]
  unfold frameS
  simp only [sI_append, sI_numB, List.append_assoc]
  rfl
theorem fr_first {d : Dk} {a : Nat} {g n : Int} {t : ByteArray} (h : EqB (d.now a) (padF (frameT g n t))) (ht : t.size ≤ 1000000000) :
    (catB d a (Int.toNat 1)).extract 0 (Int.toNat 4) = (⟨#[79, 80, 70, 82]⟩ : ByteArray) ∧ backF ((catB d a (Int.toNat 1)).extract (Int.toNat 20) (catB d a (Int.toNat 1)).size) = (t.size : Int) := by
  have hc : catB d a (Int.toNat 1) = ofI ((List.range 512).map (padF (frameT g n t))) := by
    have := cat_pad (d := d) (a := a) (s := frameT g n t) (k := 1) fun j hj => by
      have : j = 0 := by omega
      subst this
      rw [Nat.mul_zero, ByteArray.extract_zero_size]; exact h
    exact this
  obtain ⟨r, hr⟩ := sI_frameT g n t
  have hl : sI (catB d a (Int.toNat 1)) = [79, 80, 70, 82] ++ (numL g ++ (numL n ++ (numL (t.size : Int) ++ (r ++ List.replicate 512 0).take 484))) := by
    rw [hc, sI_pad, hr]; rfl
  constructor
  · apply sI_inj
    rw [sI_extract, hl]
    rfl
  · refine back_list (rest := (r ++ List.replicate 512 0).take 484) ?_ (by omega) (by omega)
    rw [drop_all, hl]
    rfl
theorem fr_text {g n : Int} {t : ByteArray} (k : Nat) : (frameT g n t ++ zS k).extract (Int.toNat 60) (Int.toNat (60 + (t.size : Int))) = t := by
  apply sI_inj
  have h1 : (frameS g n (t.size : Int) ++ sh32 (joinB [frameS g n (t.size : Int), t])).size = 60 := by rw [ByteArray.size_append, frameS_size, sh32_size]
  rw [sI_extract, sI_append]
  unfold frameT
  rw [sI_append]
  have h2 : (sI (frameS g n (t.size : Int) ++ sh32 (joinB [frameS g n (t.size : Int), t]))).length = 60 := by rw [sI_length, h1]
  rw [show Int.toNat 60 = 60 from rfl, show Int.toNat (60 + (t.size : Int)) = 60 + t.size by omega, List.append_assoc, List.take_append, List.take_of_length_le (by omega), h2,
    show 60 + t.size - 60 = t.size by omega, List.take_append, List.take_of_length_le (l := sI t) (by rw [sI_length]; omega), sI_length, Nat.sub_self, List.take_zero, List.append_nil,
    List.drop_append, List.drop_of_length_le (by omega), h2]
  rfl

/-! ## What is laid -/

theorem layD_now {d : Dk} {a : Nat} {s : ByteArray} (q : Nat) : ∀ k, (layD d a s k).now q = if a ≤ q ∧ q < a + k then padF (s.extract (512 * (q - a)) s.size) else d.now q
  | 0 => by rw [if_neg (by omega)]; rfl
  | k + 1 => by
    show (((layD d a s k).setNow (a + k) _).setWaits (a + k) true).now q = _
    rw [write_now, layD_now q k]
    by_cases h : q = a + k
    · rw [if_pos h, if_pos (by omega), h, show a + k - a = k by omega]
    · rw [if_neg h]
      by_cases h2 : a ≤ q ∧ q < a + k
      · rw [if_pos h2, if_pos (by omega)]
      · rw [if_neg h2, if_neg (by omega)]
theorem layD_calm {d : Dk} {a : Nat} {s : ByteArray} (h : Calm d) : ∀ k, Calm (layD d a s k)
  | 0 => h
  | k + 1 => (layD_calm h k).write
theorem mrk_calm {n : Nat} {d : Dk} {i : Nat} {s : ByteArray} (h : Calm d) : Calm (mrkD n d i s) := h.write.calm
theorem mrk_now {n : Nat} {d : Dk} {i : Nat} {s : ByteArray} (h : Calm d) (q : Nat) : EqB ((mrkD n d i s).now q) (if q = i then padF s else d.now q) := by
  have h1 := calm_now (n := n) (h.write (i := i) (b := padF s)) q
  rw [write_now] at h1
  exact h1
section
variable {n : Nat} {d : Dk} {xn xg xh xc pa : Int} {t : ByteArray}
theorem tm_even (h : 0 ≤ xn) (he : xn % 2 = 0) : Int.toNat (Int.tmod (xn + 1) 2) = 1 ∧ Int.toNat (Int.tmod (xn + 1 + 1) 2) = 0 := by
  have h1 := tmod2 (xn + 1) (by omega)
  have h2 := tmod2 (xn + 1 + 1) (by omega)
  omega
theorem layE_zero (h : Calm d) (hx : 0 ≤ xn) (he : xn % 2 = 0) : EqB ((layE n d xn xg xh xc pa t).now 0) (padF (markT (xn + 1 + 1) xg xh xc)) := by
  unfold layE
  rw [(tm_even hx he).1, (tm_even hx he).2]
  have := mrk_now (n := n) (i := 0) (s := markT (xn + 1 + 1) xg xh xc) (mrk_calm (n := n) (i := 1) (s := markT (xn + 1) xg xh xc) ((layD_calm (a := Int.toNat (stI n xh + pa)) (s := frameT xg (xc - 1) t) h (Int.toNat (needI (t.size : Int)))).calm (n := n))) 0
  rw [if_pos rfl] at this
  exact this
theorem layE_one (h : Calm d) (hx : 0 ≤ xn) (he : xn % 2 = 0) : EqB ((layE n d xn xg xh xc pa t).now 1) (padF (markT (xn + 1) xg xh xc)) := by
  unfold layE
  rw [(tm_even hx he).1, (tm_even hx he).2]
  have hc := (layD_calm (a := Int.toNat (stI n xh + pa)) (s := frameT xg (xc - 1) t) h (Int.toNat (needI (t.size : Int)))).calm (n := n)
  have h1 := mrk_now (n := n) (i := 0) (s := markT (xn + 1 + 1) xg xh xc) (mrk_calm (n := n) (i := 1) (s := markT (xn + 1) xg xh xc) hc) 1
  have h2 := mrk_now (n := n) (i := 1) (s := markT (xn + 1) xg xh xc) hc 1
  rw [if_neg (by decide)] at h1
  rw [if_pos rfl] at h2
  exact h1.tr h2
theorem layE_now (h : Calm d) (hx : 0 ≤ xn) (he : xn % 2 = 0) {q : Nat} (hq : 2 ≤ q) : EqB ((layE n d xn xg xh xc pa t).now q)
    (if Int.toNat (stI n xh + pa) ≤ q ∧ q < Int.toNat (stI n xh + pa) + Int.toNat (needI (t.size : Int)) then padF ((frameT xg (xc - 1) t).extract (512 * (q - Int.toNat (stI n xh + pa))) (frameT xg (xc - 1) t).size) else d.now q) := by
  unfold layE
  rw [(tm_even hx he).1, (tm_even hx he).2]
  have hd := layD_calm (a := Int.toNat (stI n xh + pa)) (s := frameT xg (xc - 1) t) h (Int.toNat (needI (t.size : Int)))
  have hc := hd.calm (n := n)
  have h1 := mrk_now (n := n) (i := 0) (s := markT (xn + 1 + 1) xg xh xc) (mrk_calm (n := n) (i := 1) (s := markT (xn + 1) xg xh xc) hc) q
  have h2 := mrk_now (n := n) (i := 1) (s := markT (xn + 1) xg xh xc) hc q
  rw [if_neg (by omega)] at h1
  rw [if_neg (by omega)] at h2
  have h3 := calm_now (n := n) hd q
  rw [layD_now] at h3
  exact (h1.tr h2).tr h3
end
end Go.Proofs.YtlfhlbhgmgkbpaaGreat
