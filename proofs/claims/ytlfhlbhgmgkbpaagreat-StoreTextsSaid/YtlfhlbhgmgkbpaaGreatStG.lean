import Derived.Test.YtlfhlbhgmgkbpaaGreatStF
namespace Go.Proofs.YtlfhlbhgmgkbpaaGreat
open Vc Go
set_option linter.unusedVariables false
set_option linter.unusedSimpArgs false

theorem twoB_hdr (k : ByteArray) (h : k.size ≤ 100000) : twoB (k.size : Int) = hdrB k := by
  have h2 : sHr .i64 (k.size : Int) 8 = (k.size : Int) / 256 := by
    have h3 := shr_div (k := .i64) (x := (k.size : Int)) (n := 8) (by decide)
    rw [show ((2 : Int) ^ 8) = 256 from by decide] at h3
    exact h3
  unfold twoB hdrB
  rw [Int.tdiv_eq_ediv_of_nonneg (by omega), h2]
theorem ba_ext' {a b : ByteArray} (h : a.data.toList = b.data.toList) : a = b := by
  cases a; cases b; congr; exact Array.ext' h
theorem ba_app (a b : ByteArray) : (a ++ b).data.toList = a.data.toList ++ b.data.toList := by
  rw [ByteArray.data_append, Array.toList_append]
theorem rtx_list (l : List Chg) (hb : ∀ x ∈ l, x.key.size ≤ 100000 ∧ x.val.size ≤ 100000) : ∀ i, i ≤ l.length → (rtx (⟨#[97]⟩ : ByteArray) l i).data.toList = textL 97 (chs l) i
  | 0, _ => rfl
  | i + 1, h => by
    have hm := hb _ (chs_mem (l := l) (i := i) (by omega))
    rw [rtx, textL_succ]
    simp only [ba_app, rtx_list l hb i (by omega), List.append_assoc]
    refine congrArg (textL 97 (chs l) i ++ ·) ?_
    rw [twoB_hdr _ hm.1, twoB_hdr _ hm.2]
    unfold chgL cntL cntB
    simp only [ba_app, List.append_assoc]
    cases (chs l i).gone <;> rfl
theorem rtx_text (l : List Chg) (hb : ∀ x ∈ l, x.key.size ≤ 100000 ∧ x.val.size ≤ 100000) : rtx (⟨#[97]⟩ : ByteArray) l l.length = textB 97 l := by
  apply ba_ext'
  rw [rtx_list l hb _ (Nat.le_refl _)]
  unfold textB
  simp
theorem chl_chs (xs : Nat → Chg) (n : Nat) : ∀ i, i < n → chs (chl xs n) i = xs i := fun i h => by
  have key : ∀ k, i < k → (chl xs k)[i]? = some (xs i) := by
    intro k
    induction k with
    | zero => intro h; omega
    | succ k ih =>
      intro h
      rw [chl]
      by_cases h2 : i < k
      · rw [List.getElem?_append_left (by rw [chl_len]; exact h2)]; exact ih h2
      · have : i = k := by omega
        subst this
        rw [List.getElem?_append_right (by rw [chl_len]; omega), chl_len, Nat.sub_self]; rfl
  unfold chs
  rw [List.getD_eq_getElem?_getD, key n h]; rfl
theorem textL_congr {k : UInt8} {xs ys : Nat → Chg} : ∀ n, (∀ i, i < n → xs i = ys i) → textL k xs n = textL k ys n
  | 0, _ => rfl
  | n + 1, h => by rw [textL_succ, textL_succ, textL_congr n (fun i hi => h i (by omega)), h n (by omega)]
theorem chl_mem {xs : Nat → Chg} {p : Chg → Prop} : ∀ n, (∀ i, i < n → p (xs i)) → ∀ x ∈ chl xs n, p x
  | 0, _, x, hx => by cases hx
  | n + 1, h, x, hx => by
    rw [chl] at hx
    rcases List.mem_append.1 hx with h1 | h1
    · exact chl_mem n (fun i hi => h i (by omega)) x h1
    · rw [List.mem_singleton] at h1; subst h1; exact h n (by omega)
theorem text_ro (takes : Option Addr) (tn tc B O : Nat) (xs : Nat → Chg) (R : RO) (hx : ∀ j, j < tn → takes = some ⟨B, O, none⟩ ∧ R.cells B (O + j * 3) [.string (xs j).key, .string (xs j).val, .bool (xs j).gone]) (hn : tn ≤ 1000) (hs : ∀ j, j < tn → (xs j).key.size ≤ 1000000 ∧ (xs j).val.size ≤ 1000000) :
    Gives Tryz.prog 32 [.int .u8 (97 : Int), .slice takes tn tc] R [] (.ret (.string (textB 97 (chl xs tn)))) [] := by
  intro Rx w hR hsat
  refine (text_walk 97 takes tn tc B O xs w (fun j hj => ⟨(hx j hj).1, ?_⟩) (by omega) hs).mono ?_
  · obtain ⟨c, t, fr, h1, h2⟩ := (hx j hj).2
    have h3 := hsat.ro _ _ (hR.mem _ _ h1)
    have hc : ∀ i, i < 3 → w.cell? ⟨B, O + j * 3 + i, none⟩ = ([.string (xs j).key, .string (xs j).val, .bool (xs j).gone] : List Value)[i]? := fun i hi => by
      rw [← h2, List.getElem?_take_of_lt (by simpa using hi), List.getElem?_drop, Array.getElem?_toList]
      simp [World.cell?, h3]
    exact ⟨hc 0 (by omega), hc 1 (by omega), hc 2 (by omega)⟩
  · rintro e w' ⟨rfl, hb⟩
    refine ⟨.ret (.string (textB 97 (chl xs tn))), R, [], Rx, ?_, ⟨rfl, rfl, rfl⟩, .refl hR, hsat.below hb⟩
    show Ending.returned _ = Ending.returned _
    unfold textB
    rw [chl_len, textL_congr tn (fun i hi => (chl_chs xs tn i hi).symm)]

noncomputable def light_ok_L7_inv (takes : Option Addr) (tn tc B O SB : Nat) (xs : Nat → Chg)  : Nat × (Nat → Value) → St := fun zx => ⟨[.slice (some ⟨SB, 0, none⟩) 1 1, .int .i64 1, undef, undef, (zx.2 4), undef, .slice takes tn tc, undef, (zx.2 8), .slice (some ⟨SB, 0, none⟩) 1 1, .int .i64 1, .int .i64 0, .bool true, .pointer (some ⟨SB, 0, none⟩), .slice takes tn tc, .slice (some ⟨SB, 0, none⟩) 1 1, .int .i64 1, .int .i64 1, .bool false, .bool false, .slice takes tn tc, .int .i64 ((tn : Nat) : Int), .bool (decide (((tn : Nat) : Int) > 8)), .bool false, .slice takes tn tc, .int .i64 ((tn : Nat) : Int), .int .i64 ((zx.1 : Nat) : Int), (zx.2 27), (zx.2 28), (zx.2 29), (zx.2 30), (zx.2 31), (zx.2 32), (zx.2 33), (zx.2 34), (zx.2 35), (zx.2 36), (zx.2 37), (zx.2 38), (zx.2 39), (zx.2 40), undef], [], [some (SB, .row [.slice takes tn tc] 22 1)]⟩
def light_ok_L7_I (takes : Option Addr) (tn tc B O SB : Nat) (xs : Nat → Chg)  (R : RO) : Nat × (Nat → Value) → RO → Prop := fun zx G => G = R ∧ (True)
def light_ok_L7_mu (takes : Option Addr) (tn tc B O SB : Nat) (xs : Nat → Chg)  : Nat × (Nat → Value) → Nat := fun zx => tn - zx.1
noncomputable def light_ok_L7_K (takes : Option Addr) (tn tc B O SB : Nat) (xs : Nat → Chg)  (R : RO) : Exit' → St → RO → Prop := altPost R (.alt (Nat × (Nat → Value)) (fun zx => True) (fun zx => (.exit 2, ((light_ok_L7_inv takes tn tc B O SB xs zx).up [] [some (SB, .row [.slice takes tn tc] 22 1)]))) (fun _ => .altn) (.alt (Nat × (Nat → Value)) (fun zx => True) (fun zx => (.ret, ((light_ok_L7_inv takes tn tc B O SB xs zx).up [(4, .bool false)] [some (SB, .row [.slice takes tn tc] 22 1)]))) (fun _ => .altn) .altn))
set_option maxRecDepth 100000 in
set_option maxHeartbeats 4000000 in
theorem light_ok_L7_body (takes : Option Addr) (tn tc B O SB : Nat) (xs : Nat → Chg)  (R : RO) (hn : tn ≤ 8) (hx : ∀ j, j < tn → takes = some ⟨B, O, none⟩ ∧ R.cells B (O + j * 3) [.string (xs j).key, .string (xs j).val, .bool (xs j).gone]) (j : Nat) (u0 : Nat → Value) (hI : True) : CT Tryz.prog (sub (bodyOf Tryz.f6) [1, 0, 1, 0, 0, 1, 1, 0, 0, 1, 1, 1, 0, 0]) (light_ok_L7_inv takes tn tc B O SB xs (j, u0)) R (LK (light_ok_L7_inv takes tn tc B O SB xs) (light_ok_L7_I takes tn tc B O SB xs R) (light_ok_L7_mu takes tn tc B O SB xs) (light_ok_L7_K takes tn tc B O SB xs R) (j, u0)) :=
  CT.of_wp_eq (VC := (let z10 : Option Addr := (some ⟨B, O + Int.toNat ((j : Nat) : Int) * 3, none⟩); let z8 := (light_ok_L7_mu takes tn tc B O SB xs); let z6 := (light_ok_L7_K takes tn tc B O SB xs R); let z5 := (light_ok_L7_I takes tn tc B O SB xs R); let z4 := (light_ok_L7_inv takes tn tc B O SB xs); let z3 := (light_ok_L7_inv takes tn tc B O SB xs (j, u0)); let z0 := (xs (Int.toNat ((j : Nat) : Int))); let z9 : Array Value := #[.string (z0.key), .string (z0.val), .bool (z0.gone)]; let z7 := (decide (((z0.val).size : Int) > 5000)); let z2 := (decide (((z0.key).size : Int) > 100)); ((decide (((j : Nat) : Int) < ((tn : Nat) : Int))) = true → (takes = some ⟨B, O, none⟩ ∧ 0 ≤ ((j : Nat) : Int) ∧ ((j : Nat) : Int) < ((tn : Nat) : Int)) ∧ (R.cells B (O + Int.toNat ((j : Nat) : Int) * 3) [.string (z0.key), .string (z0.val), .bool (z0.gone)]) ∧ ∀ a52 : Nat, let z1 : Hp := [some (SB, .row [.slice takes tn tc] 22 1), some (a52, .row [.string (z0.key), .string (z0.val), .bool (z0.gone)] 27 3)]; (a52 = a52) ∧ (a52 = a52) ∧ (z2 = true → LK z4 z5 z8 z6 (j, u0) (.ret) (z3.up [(4, .bool false), (8, .pointer (some ⟨a52, 0, none⟩)), (27, .bool true), (28, .pointer z10), (29, .agg z9), (30, .pointer (some ⟨a52, 0, none⟩)), (31, .string (z0.key)), (32, .int .i64 ((z0.key).size : Int)), (33, .bool z2), (34, .bool true), (35, undef), (36, undef), (37, undef), (38, undef), (39, .bool true)] z1) R) ∧ (z2 = false → (a52 = a52) ∧ (z7 = true → LK z4 z5 z8 z6 (j, u0) (.ret) (z3.up [(4, .bool false), (8, .pointer (some ⟨a52, 0, none⟩)), (27, .bool true), (28, .pointer z10), (29, .agg z9), (30, .pointer (some ⟨a52, 0, none⟩)), (31, .string (z0.key)), (32, .int .i64 ((z0.key).size : Int)), (33, .bool z2), (34, .bool false), (35, .pointer (some ⟨a52, 1, none⟩)), (36, .string (z0.val)), (37, .int .i64 ((z0.val).size : Int)), (38, .bool z7), (39, .bool true)] z1) R) ∧ (z7 = false → (IntKind.i64 = IntKind.i64 ∧ IntKind.i64.wrap (((j : Nat) : Int) + 1) = ((j : Nat) : Int) + 1) ∧ LK z4 z5 z8 z6 (j, u0) .normal (z3.up [(8, .pointer (some ⟨a52, 0, none⟩)), (26, .int .i64 (((j : Nat) : Int) + 1)), (27, .bool true), (28, .pointer z10), (29, .agg z9), (30, .pointer (some ⟨a52, 0, none⟩)), (31, .string (z0.key)), (32, .int .i64 ((z0.key).size : Int)), (33, .bool z2), (34, .bool false), (35, .pointer (some ⟨a52, 1, none⟩)), (36, .string (z0.val)), (37, .int .i64 ((z0.val).size : Int)), (38, .bool z7), (39, .bool false), (40, .int .i64 (((j : Nat) : Int) + 1))] z1) R))) ∧ ((decide (((j : Nat) : Int) < ((tn : Nat) : Int))) = false → LK z4 z5 z8 z6 (j, u0) (.exit 2) (z3.up [(27, .bool false)] [some (SB, .row [.slice takes tn tc] 22 1)]) R))) (ops [.d] (.sp 27 (ops [.ib B O, .ro (fun v => [.string ((xs (Int.toNat ((j : Nat) : Int))).key), .string ((xs (Int.toNat ((j : Nat) : Int))).val), .bool ((xs (Int.toNat ((j : Nat) : Int))).gone)])] (.opn 1 (fun a52 => (ops [.p 1, .d, .p 1, .d, .d, .d] (.sp 34 (ops [.d, .d] (.fin [] [])) (ops [.d, .p 1, .d, .d, .d] (.sp 39 (ops [.d] (.fin [] [])) (ops [.nw, .d] (.fin [] []))))))))) (.fin [] []))) (by kernel_rfl)
    (⟨fun h51 => ⟨⟨(hx j (by have := (of_decide_eq_true h51); omega)).1, by omega, (of_decide_eq_true h51)⟩, ⟨(hx j (by have := (of_decide_eq_true h51); omega)).2, fun a52 => ⟨rfl, ⟨rfl, ⟨fun h53 => Or.inr (altA (fun zw => (j, zw)) ⟨(show True from trivial), (by show _ = _; kernel_rfl), ⟨(by show _ = _; kernel_rfl), (by show _ = _; kernel_rfl), (by show _ = _; kernel_rfl)⟩⟩), fun h53 => ⟨rfl, ⟨fun h54 => Or.inr (altA (fun zw => (j, zw)) ⟨(show True from trivial), (by show _ = _; kernel_rfl), ⟨(by show _ = _; kernel_rfl), (by show _ = _; kernel_rfl), (by show _ = _; kernel_rfl)⟩⟩), fun h54 => ⟨⟨rfl, (wrapI (by omega) (by have := (of_decide_eq_true h51); omega))⟩, LKn (fun zw => ((j + 1), zw)) ⟨⟨rfl, (show True from trivial)⟩, (show tn - (j + 1) < tn - j from (by have := (of_decide_eq_true h51); omega)), ⟨(by show _ = _; kernel_rfl), rfl, rfl⟩⟩⟩⟩⟩⟩⟩⟩⟩⟩, fun h51 => altA (fun zw => (j, zw)) ⟨(show True from trivial), (by show _ = _; kernel_rfl), ⟨(by show _ = _; kernel_rfl), (by show _ = _; kernel_rfl), (by show _ = _; kernel_rfl)⟩⟩⟩)
theorem light_ok_L7_ct (takes : Option Addr) (tn tc B O SB : Nat) (xs : Nat → Chg)  (R : RO) (hn : tn ≤ 8) (hx : ∀ j, j < tn → takes = some ⟨B, O, none⟩ ∧ R.cells B (O + j * 3) [.string (xs j).key, .string (xs j).val, .bool (xs j).gone])  : CT Tryz.prog (sub (bodyOf Tryz.f6) [1, 0, 1, 0, 0, 1, 1, 0, 0, 1, 1, 1, 0]) ⟨[.slice (some ⟨SB, 0, none⟩) 1 1, .int .i64 1, undef, undef, .bool false, undef, .slice takes tn tc, undef, undef, .slice (some ⟨SB, 0, none⟩) 1 1, .int .i64 1, .int .i64 0, .bool true, .pointer (some ⟨SB, 0, none⟩), .slice takes tn tc, .slice (some ⟨SB, 0, none⟩) 1 1, .int .i64 1, .int .i64 1, .bool false, .bool false, .slice takes tn tc, .int .i64 ((tn : Nat) : Int), .bool (decide (((tn : Nat) : Int) > 8)), .bool false, .slice takes tn tc, .int .i64 ((tn : Nat) : Int), .int .i64 0, undef, undef, undef, undef, undef, undef, undef, undef, undef, undef, undef, undef, undef, undef, undef], [], [some (SB, .row [.slice takes tn tc] 22 1)]⟩ R (light_ok_L7_K takes tn tc B O SB xs R) :=
  CT.loop_eqs (light_ok_L7_inv takes tn tc B O SB xs) (light_ok_L7_I takes tn tc B O SB xs R) (light_ok_L7_mu takes tn tc B O SB xs) (fun zw => (0, zw)) (by kernel_rfl) (by kernel_rfl) ⟨rfl, (show True from trivial)⟩
    (by
      rintro ⟨j, u0⟩ G hG ⟨rfl, hI⟩
      exact light_ok_L7_body takes tn tc B O SB xs _ hn hx j u0 hI)
set_option maxRecDepth 100000 in
set_option maxHeartbeats 4000000 in
theorem light_ok (takes : Option Addr) (tn tc B O SB : Nat) (xs : Nat → Chg) (R : RO) (hn : tn ≤ 8) (hx : ∀ j, j < tn → takes = some ⟨B, O, none⟩ ∧ R.cells B (O + j * 3) [.string (xs j).key, .string (xs j).val, .bool (xs j).gone]) : GivesX Tryz.prog 6 [.slice (some ⟨SB, 0, none⟩) 1 1, .int .i64 1] R [some (SB, .row [.slice takes tn tc] 22 1)] (Bool) (fun w => (.bool w, [some (SB, .row [.slice takes tn tc] 22 1)])) :=
  Does.of_wp_eq (VC := (let z0 : Hp := [some (SB, .row [.slice takes tn tc] 22 1)]; (SB = SB) ∧ (decide (((tn : Nat) : Int) > 8)) = false ∧ (CT Tryz.prog (sub (bodyOf Tryz.f6) [1, 0, 1, 0, 0, 1, 1, 0, 0, 1, 1, 1, 0]) ⟨[.slice (some ⟨SB, 0, none⟩) 1 1, .int .i64 1, undef, undef, .bool false, undef, .slice takes tn tc, undef, undef, .slice (some ⟨SB, 0, none⟩) 1 1, .int .i64 1, .int .i64 0, .bool true, .pointer (some ⟨SB, 0, none⟩), .slice takes tn tc, .slice (some ⟨SB, 0, none⟩) 1 1, .int .i64 1, .int .i64 1, .bool false, .bool false, .slice takes tn tc, .int .i64 ((tn : Nat) : Int), .bool (decide (((tn : Nat) : Int) > 8)), .bool false, .slice takes tn tc, .int .i64 ((tn : Nat) : Int), .int .i64 0, undef, undef, undef, undef, undef, undef, undef, undef, undef, undef, undef, undef, undef, undef, undef], [], z0⟩ R (light_ok_L7_K takes tn tc B O SB xs R)) ∧ (∀ x1 : Nat × (Nat → Value), (True) → GX R (Bool) (fun w => (.bool w, z0)) (.ret (.bool true)) R z0) ∧ ((∀ x2 : Nat × (Nat → Value), (True) → GX R (Bool) (fun w => (.bool w, z0)) (.ret (.bool false)) R z0) ∧ True))) (ops [.d, .d, .d, .d] (.un 2 (ops [.d, .d, .p 0, .d, .d, .d, .d, .d, .d, .d, .d, .d, .d] (.br 23 false (ops [.d, .d, .d] (.alt (Nat × (Nat → Value)) (fun zx => True) (fun zx => (.exit 2, ((light_ok_L7_inv takes tn tc B O SB xs zx).up [] [some (SB, .row [.slice takes tn tc] 22 1)]))) (fun x1 => (ops [.d, .d, .d, .d] (.fin [0] []))) (.alt (Nat × (Nat → Value)) (fun zx => True) (fun zx => (.ret, ((light_ok_L7_inv takes tn tc B O SB xs zx).up [(4, .bool false)] [some (SB, .row [.slice takes tn tc] 22 1)]))) (fun x2 => (.fin [0] [])) .altn))))))) Tryz.func6 (by kernel_rfl) (by kernel_rfl)
    (⟨rfl, ⟨(decide_eq_false (by omega)), ⟨light_ok_L7_ct takes tn tc B O SB xs R hn hx, ⟨fun x1 qx1 => ⟨rfl, true, (by rfl), (by rfl)⟩, ⟨fun x2 qx2 => ⟨rfl, false, (by rfl), (by rfl)⟩, trivial⟩⟩⟩⟩⟩)

end Go.Proofs.YtlfhlbhgmgkbpaaGreat
