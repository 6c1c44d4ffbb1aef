/- What is proved: DiskTears: behind a crash each byte is what lasted, or what was written last; first those that were written. For at most 40 writes, 100 fates (the statement's own guards). -/
import Derived.Test.YtclpjkeppfpeoaaDskC
import Derived.Test.YtclpjkeppfpeoaaVcL
import Derived.Test.YtclpjkeppfpeoaaRows
namespace Go.Proofs.Ytclpjkeppfpeoaa
open Vc Go
set_option linter.unusedVariables false
set_option linter.unusedSimpArgs false

structure ActC where
  do_ : Int
  at_ : Int
  pl : Int
  b : Int
  kb : Option Addr
  kn : Nat
  kc : Nat
instance : Inhabited ActC := ⟨⟨0, 0, 0, 0, none, 0, 0⟩⟩
def ActC.cells (x : ActC) : List Value := [.int .i64 x.do_, .int .i64 x.at_, .int .i64 x.pl, .int .u8 x.b, .slice x.kb x.kn x.kc]
structure ActC.Ok (R : RO) (x : ActC) : Prop where
  d0 : -9223372036854775808 ≤ x.do_
  d1 : x.do_ ≤ 9223372036854775807
  a0 : -9223372036854775808 ≤ x.at_
  a1 : x.at_ ≤ 9223372036854775807
  p0 : -9223372036854775808 ≤ x.pl
  p1 : x.pl ≤ 9223372036854775807
  b0 : 0 ≤ x.b
  b1 : x.b ≤ 255
  kc : x.kn ≤ x.kc
  km : x.kc ≤ maxLen
  kl : Lies Try.prog R 3 x.kb x.kn

abbrev MP (β : Type) := List (Int × β × Nat)
theorem wrF_idle (i : Int) (n : Nat) : wrF false i n (-1) = -1 := by unfold wrF; rw [if_neg (by decide)]; split <;> rfl
theorem wrD_idle (i : Int) (n : Nat) : wrD false i n (-1) = false := by unfold wrD; rw [if_neg (by decide)]; split <;> rfl
theorem aget_put {β : Type} {m : MP β} {k j : Int} {v : β} {c : Nat} : aget (aput m k v c) j = if j = k then some v else aget m j := by
  induction m with
  | nil => simp [aput, aget]
  | cons y m ih =>
    simp only [aput]
    split
    · rename_i h
      simp only [aget, h]
      split
      · rfl
      · rfl
    · rename_i h
      simp only [aget, ih]
      split
      · rename_i h2
        rw [if_neg (fun he => h (by rw [← he, h2]))]
      · rfl
theorem stE_m1 : stE (-1) = 0 := rfl
theorem wrK_idle (d : Dk) (i : Int) (n : Nat) (b : Nat → Int) : wrK d false i n (-1) b = if inR i n = true then (d.setNow (Int.toNat i) b).setWaits (Int.toNat i) true else d := by
  unfold wrK
  rw [if_neg (by decide), stE_m1]
  rfl
theorem wrE_idle (i : Int) (n : Nat) : (wrE false i n (-1) == 0) = inR i n := by
  unfold wrE
  rw [if_neg (by decide), stE_m1]
  cases inR i n <;> rfl
/-- Ahead of the first barrier: nothing lasts, each sector shows one byte. -/
structure TA (d : Dk) : Prop where
  sure : ∀ i k, d.sure i k = 0
  now : ∀ i, ∃ c, ∀ k, d.now i k = c
theorem TA.zero : TA Dk.zero := ⟨fun i k => rfl, fun i => ⟨0, fun k => rfl⟩⟩
theorem TA.wr {d : Dk} (h : TA d) (i x : Int) : TA (wrK d false i 32 (-1) (fun _ => x)) := by
  rw [wrK_idle]
  split
  · refine ⟨h.sure, fun j => ?_⟩
    simp only [Dk.setNow, Dk.setWaits, upd]
    split
    · exact ⟨x, fun k => rfl⟩
    · exact h.now j
  · exact h
/-- Behind it each sector lasts with one byte, and none waits. -/
structure TB (D : Dk) : Prop where
  sure : ∀ i k, k < 512 → D.sure i k = D.sure i 0
  waits : ∀ i, i < 32 → D.waits i = false
theorem TA.bar {d : Dk} (h : TA d) : TB (baK d false 0 32 (-1)) := by
  have e : baK d false 0 32 (-1) = setl d (fun _ => 512) 32 := by
    unfold baK
    rw [if_neg (by decide), if_pos (by decide), stE_m1]
    rfl
  rw [e]
  have key : ∀ i k, k < 512 → ∃ c, stl d i 512 k = c ∧ stl d i 512 0 = c := fun i k hk => by
    unfold stl
    split
    · obtain ⟨c, hc⟩ := h.now i
      have h1 : Int.toNat (mn (mx 512 0) 512) = 512 := by decide
      simp only [cut, h1, if_pos hk, if_pos (show 0 < 512 by omega)]
      exact ⟨c, hc k, hc 0⟩
    · exact ⟨0, h.sure i k, h.sure i 0⟩
  refine ⟨fun i k hk => ?_, fun i hi => by simp [setl, hi]⟩
  show (if i < 32 then stl d i 512 else d.sure i) k = (if i < 32 then stl d i 512 else d.sure i) 0
  split
  · obtain ⟨c, h1, h2⟩ := key i k hk
    rw [h1, h2]
  · rw [h.sure, h.sure]
def PW (w : MP Int) (D : Dk) (j : Nat) : Prop := ∀ k : Nat, k < j → aget w (k : Int) = some (D.sure k 0)
theorem lsB_in {d : Dk} {i n : Nat} (h : i < n) : lsB d (i : Int) n = d.sure i := by
  unfold lsB
  rw [if_pos (inR_of (by omega) (by omega))]
  rfl
theorem PW.step {w : MP Int} {D : Dk} {j c : Nat} (h : PW w D j) (hj : j < 32) : PW (aput w (j : Int) (lsB D (j : Int) 32 0) c) D (j + 1) := fun k hk => by
  rw [aget_put]
  by_cases he : (k : Int) = (j : Int)
  · rw [if_pos he, lsB_in hj, show k = j by omega]
  · rw [if_neg he]; exact h k (by omega)
structure TJ (D d : Dk) (m : MP Int) : Prop where
  sure : ∀ i, i < 32 → d.sure i = D.sure i
  yes : ∀ i : Nat, i < 32 → d.waits i = true → ∃ x, aget m (i : Int) = some x ∧ ∀ k, d.now i k = x
  no : ∀ i : Nat, i < 32 → d.waits i = false → aget m (i : Int) = none
theorem TJ.nil {D : Dk} (h : TB D) : TJ D D [] := ⟨fun i hi => rfl, fun i hi hw => (by rw [h.waits i hi] at hw; cases hw), fun i hi hw => rfl⟩
theorem TJ.step {D d : Dk} {m : MP Int} {i x : Int} {c : Nat} (h : TJ D d m) (hi : inR i 32 = true) : TJ D (wrK d false i 32 (-1) (fun _ => x)) (aput m i x c) := by
  rw [wrK_idle, if_pos hi]
  have hr := inR_t hi
  refine ⟨h.sure, fun j hj hw => ?_, fun j hj hw => ?_⟩
  · rw [aget_put]
    by_cases he : j = Int.toNat i
    · rw [if_pos (by omega)]
      exact ⟨x, rfl, fun k => by simp [Dk.setNow, Dk.setWaits, upd, he]⟩
    · rw [if_neg (by omega)]
      have hw' : d.waits j = true := by simpa [Dk.setNow, Dk.setWaits, upd, he] using hw
      obtain ⟨y, h1, h2⟩ := h.yes j hj hw'
      exact ⟨y, h1, fun k => by simpa [Dk.setNow, Dk.setWaits, upd, he] using h2 k⟩
  · rw [aget_put]
    by_cases he : j = Int.toNat i
    · simp [Dk.setNow, Dk.setWaits, upd, he] at hw
    · rw [if_neg (by omega)]
      exact h.no j hj (by simpa [Dk.setNow, Dk.setWaits, upd, he] using hw)
theorem TJ.same {D d : Dk} {m : MP Int} {i x : Int} (h : TJ D d m) (hi : inR i 32 = false) : TJ D (wrK d false i 32 (-1) (fun _ => x)) m := by
  rw [wrK_idle, if_neg (by rw [hi]; decide)]; exact h
/-- What a sector lasts with behind the crash. -/
structure TS (f : Nat → Int) (o : Option Int) (s : Int) : Prop where
  no : o = none → ∀ k, k < 512 → f k = s
  yes : ∀ x, o = some x → ∃ m, ∀ k, k < 512 → f k = if k < m then x else s
theorem TJ.crash {D d : Dk} {m : MP Int} (h : TJ D d m) (hD : TB D) (kf : Nat → Int) {j : Nat} (hj : j < 32) : TS (lsB (setl d kf 32) (j : Int) 32) (aget m (j : Int)) (D.sure j 0) := by
  rw [lsB_in hj]
  have e : (setl d kf 32).sure j = stl d j (kf j) := by show (if j < 32 then _ else _) = _; rw [if_pos hj]
  rw [e]
  cases hw : d.waits j with
  | false =>
    rw [stl, if_neg (by rw [hw]; decide), h.no j hj hw, h.sure j hj]
    exact ⟨fun _ k hk => hD.sure j k hk, fun x hx => (by cases hx)⟩
  | true =>
    obtain ⟨y, h1, h2⟩ := h.yes j hj hw
    rw [stl, if_pos hw, h1]
    refine ⟨fun hn => (by cases hn), fun x hx => ⟨Int.toNat (mn (mx (kf j) 0) 512), fun k hk => ?_⟩⟩
    cases hx
    unfold cut
    split
    · exact h2 k
    · rw [h.sure j hj]; exact hD.sure j k hk
theorem wl_none (d : Dk) (kf : Nat → Int) (n : Nat) : ∀ j, j ≤ n → wl (setl d kf n) j = []
  | 0, _ => rfl
  | j + 1, h => by
    simp only [wl]
    rw [if_neg (by show ¬ (if j < n then false else d.waits j) = true; rw [if_pos (by omega)]; decide)]
    exact wl_none d kf n j (by omega)
theorem TS.noE {f : Nat → Int} {o : Option Int} {s : Int} (h : TS f o s) (ho : o.isSome = false) (n : Int) : ∀ k, Int.toNat n ≤ k → k < 512 → f k = s := fun k _ hk => h.no (by cases o <;> simp_all) k hk
theorem TS.same {f : Nat → Int} {o : Option Int} {s : Int} (h : TS f o s) (ho : o.isSome = true) (hs : (o.getD 0 != s) = false) (n : Int) : ∀ k, Int.toNat n ≤ k → k < 512 → f k = s := fun k _ hk => by
  cases o with
  | none => simp at ho
  | some x =>
    obtain ⟨m, hm⟩ := h.yes x rfl
    have : x = s := by simpa using hs
    rw [hm k hk, this]; simp
theorem TS.stop {f : Nat → Int} {o : Option Int} {s : Int} (h : TS f o s) (ho : o.isSome = true) {n : Int} (hf : (f (Int.toNat n) == o.getD 0) = false) (hn : Int.toNat n < 512) : ∀ k, Int.toNat n ≤ k → k < 512 → f k = s := fun k h1 hk => by
  cases o with
  | none => simp at ho
  | some x =>
    obtain ⟨m, hm⟩ := h.yes x rfl
    have h2 := hm _ hn
    have h3 : f (Int.toNat n) ≠ x := by simpa using hf
    by_cases h4 : Int.toNat n < m
    · rw [if_pos h4] at h2; exact absurd h2 h3
    · rw [hm k hk, if_neg (by omega)]
def ksL (ks : Nat → Int) : Nat → List Int
  | 0 => []
  | n + 1 => ksL ks n ++ [ks n]
theorem ksL_len (ks : Nat → Int) : ∀ n, (ksL ks n).length = n
  | 0 => rfl
  | n + 1 => by simp [ksL, ksL_len ks n]

theorem fill_step (x : Int) (j : Nat) : upd (fun k => if k < j then x else 0) j x = fun k => if k < j + 1 then x else 0 := by
  funext k
  unfold upd
  by_cases h : k = j
  · rw [if_pos h, if_pos (by omega)]
  · rw [if_neg h]
    show (if k < j then x else 0) = _
    by_cases h2 : k < j
    · rw [if_pos h2, if_pos (by omega)]
    · rw [if_neg h2, if_neg (by omega)]

noncomputable def fill_law_L3_inv (x : Int) (a0 : Nat) (a1 : Nat)  : Nat × (Nat → Value) → St := fun zx => ⟨[.int .u8 x, undef, .pointer (some ⟨a0, 0, none⟩), .pointer (some ⟨a1, 0, none⟩), (zx.2 4), .int .i64 ((zx.1 : Nat) : Int), (zx.2 6), (zx.2 7), (zx.2 8), (zx.2 9), (zx.2 10), (zx.2 11), undef], [], [some (a0, .row (blkL (fun _ => 0)) 34 ((blkL (fun _ => 0)).length)), some (a1, .row (blkL (fun k => if k < zx.1 then x else 0)) 34 ((blkL (fun _ => 0)).length))]⟩
def fill_law_L3_I (x : Int) (a0 : Nat) (a1 : Nat)  (R : RO) : Nat × (Nat → Value) → RO → Prop := fun zx G => G = R ∧ (zx.1 ≤ 512)
def fill_law_L3_mu (x : Int) (a0 : Nat) (a1 : Nat)  : Nat × (Nat → Value) → Nat := fun zx => 512 - zx.1
noncomputable def fill_law_L3_K (x : Int) (a0 : Nat) (a1 : Nat)  (R : RO) : Exit' → St → RO → Prop := altPost R (.alt (Nat × (Nat → Value)) (fun zx => True) (fun zx => (.exit 0, ⟨[.int .u8 x, undef, .pointer (some ⟨a0, 0, none⟩), .pointer (some ⟨a1, 0, none⟩), (zx.2 4), .int .i64 ((zx.1 : Nat) : Int), (zx.2 6), (zx.2 7), (zx.2 8), (zx.2 9), (zx.2 10), (zx.2 11), undef], [], [some (a0, .row (blkL (fun _ => 0)) 34 ((blkL (fun _ => 0)).length)), some (a1, .row (blkL (fun k => if k < 512 then x else 0)) 34 ((blkL (fun _ => 0)).length))]⟩)) (fun _ => .altn) .altn)
set_option maxRecDepth 100000 in
theorem fill_law_L3_body (x : Int) (a0 : Nat) (a1 : Nat)  (R : RO)  (j : Nat) (u2 : Nat → Value) (hI : j ≤ 512) : CT Try.prog (sub (bodyOf Try.f12) [1, 1, 0, 1, 0, 0]) (fill_law_L3_inv x a0 a1 (j, u2)) R (LK (fill_law_L3_inv x a0 a1) (fill_law_L3_I x a0 a1 R) (fill_law_L3_mu x a0 a1) (fill_law_L3_K x a0 a1 R) (j, u2)) :=
  CT.of_wp_eq (VC := (((decide (((j : Nat) : Int) < 512)) = true → ((0 : Int) ≤ ((j : Nat) : Int) ∧ (((j : Nat) : Int) : Int) < ((512 : Nat) : Int)) ∧ (a1 = a1 ∧ writeVar Try.prog 5 (blkL (fun k => if k < j then x else 0)) (0 + Int.toNat ((j : Nat) : Int) * 1) (.int .u8 x) = some (blkL (upd (fun k => if k < j then x else 0) (Int.toNat ((j : Nat) : Int)) x))) ∧ (IntKind.i64 = IntKind.i64 ∧ IntKind.i64.wrap (((j : Nat) : Int) + 1) = ((j : Nat) : Int) + 1) ∧ LK (fill_law_L3_inv x a0 a1) (fill_law_L3_I x a0 a1 R) (fill_law_L3_mu x a0 a1) (fill_law_L3_K x a0 a1 R) (j, u2) .normal ⟨[.int .u8 x, undef, .pointer (some ⟨a0, 0, none⟩), .pointer (some ⟨a1, 0, none⟩), .int .i64 ((j : Nat) : Int), .int .i64 (((j : Nat) : Int) + 1), .bool true, .int .i64 ((j : Nat) : Int), .int .i64 ((j : Nat) : Int), .int .u8 x, .pointer (some ⟨a1, 0 + Int.toNat ((j : Nat) : Int) * 1, none⟩), .int .i64 (((j : Nat) : Int) + 1), undef], [], [some (a0, .row (blkL (fun _ => 0)) 34 ((blkL (fun _ => 0)).length)), some (a1, .row (blkL (upd (fun k => if k < j then x else 0) (Int.toNat ((j : Nat) : Int)) x)) 34 ((blkL (fun _ => 0)).length))]⟩ R) ∧ ((decide (((j : Nat) : Int) < 512)) = false → LK (fill_law_L3_inv x a0 a1) (fill_law_L3_I x a0 a1 R) (fill_law_L3_mu x a0 a1) (fill_law_L3_K x a0 a1 R) (j, u2) (.exit 0) ⟨[.int .u8 x, undef, .pointer (some ⟨a0, 0, none⟩), .pointer (some ⟨a1, 0, none⟩), (u2 4), .int .i64 ((j : Nat) : Int), .bool false, (u2 7), (u2 8), (u2 9), (u2 10), (u2 11), undef], [], [some (a0, .row (blkL (fun _ => 0)) 34 ((blkL (fun _ => 0)).length)), some (a1, .row (blkL (fun k => if k < j then x else 0)) 34 ((blkL (fun _ => 0)).length))]⟩ R))) (ops [.d] (.sp 6 (ops [.d, .d, .d, .d, .ia, .sq 1 (fun e v => blkL (upd (fun k => if k < j then x else 0) (Int.toNat ((j : Nat) : Int)) x)), .nw, .d] (.fin [] [])) (.fin [] []))) (by kernel_rfl)
    (⟨fun h53 => ⟨(by have := (of_decide_eq_true h53); omega), ⟨⟨rfl, (write_blk1 (by kernel_rfl) _ _ (k := (Int.toNat ((j : Nat) : Int))) (by have := (of_decide_eq_true h53); omega) (by omega))⟩, ⟨⟨rfl, (wrapI (by omega) (by have := (of_decide_eq_true h53); omega))⟩, ⟨((j + 1), tget [.int .u8 x, undef, .pointer (some ⟨a0, 0, none⟩), .pointer (some ⟨a1, 0, none⟩), .int .i64 ((j : Nat) : Int), .int .i64 (((j : Nat) : Int) + 1), .bool true, .int .i64 ((j : Nat) : Int), .int .i64 ((j : Nat) : Int), .int .u8 x, .pointer (some ⟨a1, 0 + Int.toNat ((j : Nat) : Int) * 1, none⟩), .int .i64 (((j : Nat) : Int) + 1), undef]), ⟨rfl, (show (j + 1) ≤ 512 from (by have := (of_decide_eq_true h53); omega))⟩, (show 512 - (j + 1) < 512 - j from (by have := (of_decide_eq_true h53); omega)), ⟨rfl, rfl, (show ([some (a0, .row (blkL (fun _ => 0)) 34 ((blkL (fun _ => 0)).length)), some (a1, .row (blkL (upd (fun k => if k < j then x else 0) (Int.toNat ((j : Nat) : Int)) x)) 34 ((blkL (fun _ => 0)).length))] : Hp) = [some (a0, .row (blkL (fun _ => 0)) 34 ((blkL (fun _ => 0)).length)), some (a1, .row (blkL (fun k => if k < (j + 1) then x else 0)) 34 ((blkL (fun _ => 0)).length))] from by rw [show upd (fun k => if k < j then x else 0) (Int.toNat ((j : Nat) : Int)) x = (fun k => if k < (j + 1) then x else 0) from fill_step x j])⟩⟩⟩⟩⟩, fun h53 => Or.inl ⟨rfl, (j, tget [.int .u8 x, undef, .pointer (some ⟨a0, 0, none⟩), .pointer (some ⟨a1, 0, none⟩), (u2 4), .int .i64 ((j : Nat) : Int), .bool false, (u2 7), (u2 8), (u2 9), (u2 10), (u2 11), undef]), (show True from trivial), rfl, ⟨rfl, rfl, (by have : j = 512 := (by have := of_decide_eq_false h53; omega); subst this; rfl)⟩⟩⟩)
theorem fill_law_L3_ct (x : Int) (a0 : Nat) (a1 : Nat)  (R : RO)   : CT Try.prog (sub (bodyOf Try.f12) [1, 1, 0, 1, 0]) ⟨[.int .u8 x, undef, .pointer (some ⟨a0, 0, none⟩), .pointer (some ⟨a1, 0, none⟩), undef, .int .i64 0, undef, undef, undef, undef, undef, undef, undef], [], [some (a0, .row (blkL (fun _ => 0)) 34 ((blkL (fun _ => 0)).length)), some (a1, .row (blkL (fun _ => 0)) 34 ((blkL (fun _ => 0)).length))]⟩ R (fill_law_L3_K x a0 a1 R) :=
  CT.loop_eq (fill_law_L3_inv x a0 a1) (fill_law_L3_I x a0 a1 R) (fill_law_L3_mu x a0 a1) (0, tget [.int .u8 x, undef, .pointer (some ⟨a0, 0, none⟩), .pointer (some ⟨a1, 0, none⟩), undef, .int .i64 0, undef, undef, undef, undef, undef, undef, undef]) (by kernel_rfl) (by kernel_rfl) ⟨rfl, (show 0 ≤ 512 from (Nat.zero_le _))⟩
    (by
      rintro ⟨j, u2⟩ G hG ⟨rfl, hI⟩
      exact fill_law_L3_body x a0 a1 _  j u2 hI)
set_option maxRecDepth 100000 in
theorem fill_law (x : Int) (R : RO)  : Gives Try.prog 12 [.int .u8 x] R [] (.ret (.agg ((blkL (fun k => if k < 512 then x else 0)).toArray))) [] :=
  Does.of_wp_eq (VC := (∀ a0 : Nat, ∀ a1 : Nat, (CT Try.prog (sub (bodyOf Try.f12) [1, 1, 0, 1, 0]) ⟨[.int .u8 x, undef, .pointer (some ⟨a0, 0, none⟩), .pointer (some ⟨a1, 0, none⟩), undef, .int .i64 0, undef, undef, undef, undef, undef, undef, undef], [], [some (a0, .row (blkL (fun _ => 0)) 34 ((blkL (fun _ => 0)).length)), some (a1, .row (blkL (fun _ => 0)) 34 ((blkL (fun _ => 0)).length))]⟩ R (fill_law_L3_K x a0 a1 R)) ∧ (∀ x3 : Nat × (Nat → Value), (True) → (a1 = a1 ∧ readVar Try.prog 34 (blkL (fun k => if k < 512 then x else 0)) 0 = some (.agg ((blkL (fun k => if k < 512 then x else 0)).toArray))) ∧ (a0 = a0 ∧ writeVar Try.prog 34 (blkL (fun _ => 0)) 0 (.agg ((blkL (fun k => if k < 512 then x else 0)).toArray)) = some (blkL (fun k => if k < 512 then x else 0))) ∧ (a0 = a0 ∧ readVar Try.prog 34 (blkL (fun k => if k < 512 then x else 0)) 0 = some (.agg ((blkL (fun k => if k < 512 then x else 0)).toArray))) ∧ GQ R (.ret (.agg ((blkL (fun k => if k < 512 then x else 0)).toArray))) [] (.ret (.agg ((blkL (fun k => if k < 512 then x else 0)).toArray))) R []) ∧ True)) (.opn 0 (fun a0 => (.opn 1 (fun a1 => (ops [.d] (.alt (Nat × (Nat → Value)) (fun zx => True) (fun zx => (.exit 0, ⟨[.int .u8 x, undef, .pointer (some ⟨a0, 0, none⟩), .pointer (some ⟨a1, 0, none⟩), (zx.2 4), .int .i64 ((zx.1 : Nat) : Int), (zx.2 6), (zx.2 7), (zx.2 8), (zx.2 9), (zx.2 10), (zx.2 11), undef], [], [some (a0, .row (blkL (fun _ => 0)) 34 ((blkL (fun _ => 0)).length)), some (a1, .row (blkL (fun k => if k < 512 then x else 0)) 34 ((blkL (fun _ => 0)).length))]⟩)) (fun x3 => (ops [.q 1 (fun e v => .agg ((blkL (fun k => if k < 512 then x else 0)).toArray)), .sq 0 (fun e v => blkL (fun k => if k < 512 then x else 0))] (.fin [] [(0, some (.agg ((blkL (fun k => if k < 512 then x else 0)).toArray)))]))) .altn)))))) Try.func12 (by kernel_rfl) (by kernel_rfl)
    (fun a0 => fun a1 => ⟨fill_law_L3_ct x a0 a1 R , ⟨fun x3 qx3 => ⟨⟨rfl, (read_blk (by kernel_rfl) _)⟩, ⟨⟨rfl, (write_blk (by kernel_rfl) (blkL_len _) _)⟩, ⟨⟨rfl, (read_blk (by kernel_rfl) _)⟩, ⟨rfl, (by rfl), (by rfl)⟩⟩⟩⟩, trivial⟩⟩)

theorem fill_ok (x : Int) (R : RO) : Gives Try.prog 12 [.int .u8 x] R [] (.ret (.agg ((blkL (fun _ => x)).toArray))) [] := by
  have := fill_law x R
  rwa [show blkL (fun k => if k < 512 then x else 0) = blkL (fun _ => x) from blkL_congr fun k hk => if_pos hk] at this

noncomputable def fates_ok_L3_inv  (keeps : Option Addr) (kn kc KB KO : Nat) (ks : Nat → Int)  : Nat × (Option Nat) × Nat × (Nat → Value) → St := fun zx => ⟨[.slice keeps kn kc, undef, .slice none 0 0, gsv zx.2.1 zx.1 zx.2.2.1, undef, (zx.2.2.2 5), .slice keeps kn kc, .int .i64 ((kn : Nat) : Int), .int .i64 ((zx.1 : Nat) : Int), (zx.2.2.2 9), (zx.2.2.2 10), (zx.2.2.2 11), (zx.2.2.2 12), (zx.2.2.2 13), (zx.2.2.2 14), (zx.2.2.2 15), (zx.2.2.2 16), (zx.2.2.2 17), undef], [], [gsb zx.2.1 (intl (ksL ks zx.1)) 52 (zx.2.2.1 * 1)]⟩
def fates_ok_L3_I  (keeps : Option Addr) (kn kc KB KO : Nat) (ks : Nat → Int)  (R : RO) : Nat × (Option Nat) × Nat × (Nat → Value) → RO → Prop := fun zx G => G = R ∧ (zx.1 ≤ kn ∧ (zx.2.1 = none → zx.2.2.1 = 0) ∧ zx.1 ≤ zx.2.2.1 ∧ zx.2.2.1 ≤ maxLen)
def fates_ok_L3_mu  (keeps : Option Addr) (kn kc KB KO : Nat) (ks : Nat → Int)  : Nat × (Option Nat) × Nat × (Nat → Value) → Nat := fun zx => kn - zx.1
noncomputable def fates_ok_L3_K  (keeps : Option Addr) (kn kc KB KO : Nat) (ks : Nat → Int)  (R : RO) : Exit' → St → RO → Prop := altPost R (.alt (Nat × (Option Nat) × Nat × (Nat → Value)) (fun zx => zx.1 = kn ∧ (zx.2.1 = none → zx.2.2.1 = 0) ∧ zx.1 ≤ zx.2.2.1 ∧ zx.2.2.1 ≤ maxLen) (fun zx => (.exit 0, ⟨[.slice keeps kn kc, undef, .slice none 0 0, gsv zx.2.1 ((ksL ks kn).length) zx.2.2.1, undef, (zx.2.2.2 5), .slice keeps kn kc, .int .i64 ((kn : Nat) : Int), .int .i64 ((zx.1 : Nat) : Int), (zx.2.2.2 9), (zx.2.2.2 10), (zx.2.2.2 11), (zx.2.2.2 12), (zx.2.2.2 13), (zx.2.2.2 14), (zx.2.2.2 15), (zx.2.2.2 16), (zx.2.2.2 17), undef], [], [gsb zx.2.1 (intl (ksL ks kn)) 52 (zx.2.2.1 * 1)]⟩)) (fun _ => .altn) .altn)
set_option maxRecDepth 100000 in
theorem fates_ok_L3_body  (keeps : Option Addr) (kn kc KB KO : Nat) (ks : Nat → Int)  (R : RO) (hkn : ((kn : Nat) : Int) ≤ 1000) (hk : ∀ j, j < kn → keeps = some ⟨KB, KO, none⟩ ∧ R.cells KB (KO + j * 1) [.int .i64 (ks j)]) (j : Nat) (b : Option Nat) (cap : Nat) (u0 : Nat → Value) (hI : j ≤ kn ∧ (b = none → cap = 0) ∧ j ≤ cap ∧ cap ≤ maxLen) : CT Try.prog (sub (bodyOf Try.f16) [1, 1, 0, 1, 0, 0]) (fates_ok_L3_inv keeps kn kc KB KO ks (j, b, cap, u0)) R (LK (fates_ok_L3_inv keeps kn kc KB KO ks) (fates_ok_L3_I keeps kn kc KB KO ks R) (fates_ok_L3_mu keeps kn kc KB KO ks) (fates_ok_L3_K keeps kn kc KB KO ks R) (j, b, cap, u0)) :=
  CT.of_wp_eq (VC := (((decide (((j : Nat) : Int) < ((kn : Nat) : Int))) = true → (keeps = some ⟨KB, KO, none⟩ ∧ 0 ≤ ((j : Nat) : Int) ∧ ((j : Nat) : Int) < ((kn : Nat) : Int)) ∧ (R.cells KB (KO + Int.toNat ((j : Nat) : Int) * 1) [.int .i64 (ks (Int.toNat ((j : Nat) : Int)))]) ∧ ∀ a52 : Nat, (PrimOK Try.prog (.app 44 44 44 (gsv b j cap) (.slice (some ⟨a52, 0, none⟩) 1 1)) R [gsb b (intl (ksL ks j)) 52 (cap * 1), some (a52, .row [.int .i64 (ks (Int.toNat ((j : Nat) : Int)))] 52 1)] (Nat × Nat) (fun y53 => j + 1 ≤ y53.2 ∧ y53.2 ≤ maxLen) (fun y53 => (.slice (some ⟨y53.1, 0, none⟩) (j + 1) y53.2, [some (y53.1, .row ((intl (ksL ks j)) ++ ([.int .i64 (ks (Int.toNat ((j : Nat) : Int)))] : List Value)) 52 (y53.2 * 1)), some (a52, .row [.int .i64 (ks (Int.toNat ((j : Nat) : Int)))] 52 1)]))) ∧ ∀ y53 : Nat × Nat, (j + 1 ≤ y53.2 ∧ y53.2 ≤ maxLen) → (IntKind.i64 = IntKind.i64 ∧ IntKind.i64.wrap (((j : Nat) : Int) + 1) = ((j : Nat) : Int) + 1) ∧ LK (fates_ok_L3_inv keeps kn kc KB KO ks) (fates_ok_L3_I keeps kn kc KB KO ks R) (fates_ok_L3_mu keeps kn kc KB KO ks) (fates_ok_L3_K keeps kn kc KB KO ks R) (j, b, cap, u0) .normal ⟨[.slice keeps kn kc, undef, .slice none 0 0, .slice (some ⟨y53.1, 0, none⟩) (j + 1) y53.2, undef, .int .i64 (ks (Int.toNat ((j : Nat) : Int))), .slice keeps kn kc, .int .i64 ((kn : Nat) : Int), .int .i64 (((j : Nat) : Int) + 1), .bool true, .pointer (some ⟨KB, KO + Int.toNat ((j : Nat) : Int) * 1, none⟩), .int .i64 (ks (Int.toNat ((j : Nat) : Int))), gsv b j cap, .int .i64 (ks (Int.toNat ((j : Nat) : Int))), .agg #[.int .i64 (ks (Int.toNat ((j : Nat) : Int)))], .slice (some ⟨a52, 0, none⟩) 1 1, .slice (some ⟨y53.1, 0, none⟩) (j + 1) y53.2, .int .i64 (((j : Nat) : Int) + 1), undef], [], [some (y53.1, .row ((intl (ksL ks j)) ++ ([.int .i64 (ks (Int.toNat ((j : Nat) : Int)))] : List Value)) 52 (y53.2 * 1)), some (a52, .row [.int .i64 (ks (Int.toNat ((j : Nat) : Int)))] 52 1)]⟩ R) ∧ ((decide (((j : Nat) : Int) < ((kn : Nat) : Int))) = false → LK (fates_ok_L3_inv keeps kn kc KB KO ks) (fates_ok_L3_I keeps kn kc KB KO ks R) (fates_ok_L3_mu keeps kn kc KB KO ks) (fates_ok_L3_K keeps kn kc KB KO ks R) (j, b, cap, u0) (.exit 0) ⟨[.slice keeps kn kc, undef, .slice none 0 0, gsv b j cap, undef, (u0 5), .slice keeps kn kc, .int .i64 ((kn : Nat) : Int), .int .i64 ((j : Nat) : Int), .bool false, (u0 10), (u0 11), (u0 12), (u0 13), (u0 14), (u0 15), (u0 16), (u0 17), undef], [], [gsb b (intl (ksL ks j)) 52 (cap * 1)]⟩ R))) (ops [.d] (.sp 9 (ops [.ib KB KO, .ro (fun v => [.int .i64 (ks (Int.toNat ((j : Nat) : Int)))]), .d, .d, .d, .d] (.opn 1 (fun a52 => (.opp [0, 1] [] (Nat × Nat) (fun y53 => j + 1 ≤ y53.2 ∧ y53.2 ≤ maxLen) (fun y53 => (.slice (some ⟨y53.1, 0, none⟩) (j + 1) y53.2, [some (y53.1, .row ((intl (ksL ks j)) ++ ([.int .i64 (ks (Int.toNat ((j : Nat) : Int)))] : List Value)) 52 (y53.2 * 1)), some (a52, .row [.int .i64 (ks (Int.toNat ((j : Nat) : Int)))] 52 1)])) (fun y53 => (ops [.d, .nw, .d] (.fin [] []))))))) (.fin [] []))) (by kernel_rfl)
    (⟨fun h51 => ⟨⟨(hk j (by have := (of_decide_eq_true h51); omega)).1, by omega, (of_decide_eq_true h51)⟩, ⟨(hk j (by have := (of_decide_eq_true h51); omega)).2, fun a52 => ⟨(app1_ok (e := 52) (e' := 52) (z := 1) (by' := 8) (zc := [.int .i64 0]) (b := b) (len := j) (cap := cap) (n := 1) (cs := intl (ksL ks j)) (new := [.int .i64 (ks (Int.toNat ((j : Nat) : Int)))]) (by kernel_rfl) (.inl (by kernel_rfl)) (by kernel_rfl) rfl (by rw [intl_len, ksL_len, Nat.mul_one]) hI.2.2.1 hI.2.2.2 hI.2.1 ⟨rfl, .inr (.inr ⟨_, _, _, rfl, .inl ⟨1, _, _, _, rfl, rfl⟩⟩)⟩ (ones_spec rfl) (by have := (of_decide_eq_true h51); omega) (by have := (of_decide_eq_true h51); simp only [maxLen]; omega) (by omega)), fun y53 qy53 => ⟨⟨rfl, (wrapI (by omega) (by have := (of_decide_eq_true h51); omega))⟩, ⟨((j + 1), (some y53.1), y53.2, tget [.slice keeps kn kc, undef, .slice none 0 0, .slice (some ⟨y53.1, 0, none⟩) (j + 1) y53.2, undef, .int .i64 (ks (Int.toNat ((j : Nat) : Int))), .slice keeps kn kc, .int .i64 ((kn : Nat) : Int), .int .i64 (((j : Nat) : Int) + 1), .bool true, .pointer (some ⟨KB, KO + Int.toNat ((j : Nat) : Int) * 1, none⟩), .int .i64 (ks (Int.toNat ((j : Nat) : Int))), gsv b j cap, .int .i64 (ks (Int.toNat ((j : Nat) : Int))), .agg #[.int .i64 (ks (Int.toNat ((j : Nat) : Int)))], .slice (some ⟨a52, 0, none⟩) 1 1, .slice (some ⟨y53.1, 0, none⟩) (j + 1) y53.2, .int .i64 (((j : Nat) : Int) + 1), undef]), ⟨rfl, (show (j + 1) ≤ kn ∧ ((some y53.1) = none → y53.2 = 0) ∧ (j + 1) ≤ y53.2 ∧ y53.2 ≤ maxLen from ⟨(by have := (of_decide_eq_true h51); omega), (fun h => by cases h), qy53.1, qy53.2⟩)⟩, (show kn - (j + 1) < kn - j from (by have := (of_decide_eq_true h51); omega)), ⟨rfl, rfl, (show ([some (y53.1, .row ((intl (ksL ks j)) ++ ([.int .i64 (ks (Int.toNat ((j : Nat) : Int)))] : List Value)) 52 (y53.2 * 1))] : Hp) = [gsb (some y53.1) (intl (ksL ks (j + 1))) 52 (y53.2 * 1)] from by rw [show intl (ksL ks (j + 1)) = intl (ksL ks j) ++ [.int .i64 (ks j)] from by simp [ksL, intl]]; rfl)⟩⟩⟩⟩⟩⟩, fun h51 => Or.inl ⟨rfl, (j, b, cap, tget [.slice keeps kn kc, undef, .slice none 0 0, gsv b j cap, undef, (u0 5), .slice keeps kn kc, .int .i64 ((kn : Nat) : Int), .int .i64 ((j : Nat) : Int), .bool false, (u0 10), (u0 11), (u0 12), (u0 13), (u0 14), (u0 15), (u0 16), (u0 17), undef]), (show j = kn ∧ (b = none → cap = 0) ∧ j ≤ cap ∧ cap ≤ maxLen from ⟨(by have := of_decide_eq_false h51; omega), hI.2⟩), rfl, ⟨(by have : j = kn := (by have := of_decide_eq_false h51; omega); subst this; rw [ksL_len]; rfl), rfl, (by have : j = kn := (by have := of_decide_eq_false h51; omega); subst this; rfl)⟩⟩⟩)
theorem fates_ok_L3_ct  (keeps : Option Addr) (kn kc KB KO : Nat) (ks : Nat → Int)  (R : RO) (hkn : ((kn : Nat) : Int) ≤ 1000) (hk : ∀ j, j < kn → keeps = some ⟨KB, KO, none⟩ ∧ R.cells KB (KO + j * 1) [.int .i64 (ks j)])  : CT Try.prog (sub (bodyOf Try.f16) [1, 1, 0, 1, 0]) ⟨[.slice keeps kn kc, undef, .slice none 0 0, .slice none 0 0, undef, undef, .slice keeps kn kc, .int .i64 ((kn : Nat) : Int), .int .i64 0, undef, undef, undef, undef, undef, undef, undef, undef, undef, undef], [], []⟩ R (fates_ok_L3_K keeps kn kc KB KO ks R) :=
  CT.pad 1 <| CT.loop_eq (fates_ok_L3_inv keeps kn kc KB KO ks) (fates_ok_L3_I keeps kn kc KB KO ks R) (fates_ok_L3_mu keeps kn kc KB KO ks) (0, (none : Option Nat), 0, tget [.slice keeps kn kc, undef, .slice none 0 0, .slice none 0 0, undef, undef, .slice keeps kn kc, .int .i64 ((kn : Nat) : Int), .int .i64 0, undef, undef, undef, undef, undef, undef, undef, undef, undef, undef]) (by kernel_rfl) (by kernel_rfl) ⟨rfl, (show 0 ≤ kn ∧ ((none : Option Nat) = none → 0 = 0) ∧ 0 ≤ 0 ∧ 0 ≤ maxLen from ⟨Nat.zero_le _, fun _ => rfl, Nat.le_refl _, by decide⟩)⟩
    (by
      rintro ⟨j, b, cap, u0⟩ G hG ⟨rfl, hI⟩
      exact fates_ok_L3_body keeps kn kc KB KO ks _ hkn hk j b cap u0 hI)
set_option maxRecDepth 100000 in
theorem fates_ok  (keeps : Option Addr) (kn kc KB KO : Nat) (ks : Nat → Int) (R : RO) (hkn : ((kn : Nat) : Int) ≤ 1000) (hk : ∀ j, j < kn → keeps = some ⟨KB, KO, none⟩ ∧ R.cells KB (KO + j * 1) [.int .i64 (ks j)]) : GivesX Try.prog 16 [.slice keeps kn kc] R [] ({y : Option Nat × Nat // y.1 = none → ksL ks kn = []}) (fun w => (gsv w.1.1 ((ksL ks kn).length) w.1.2, [gsb w.1.1 (intl (ksL ks kn)) 52 (w.1.2 * 1)])) :=
  Does.of_wp_eq (VC := ((CT Try.prog (sub (bodyOf Try.f16) [1, 1, 0, 1, 0]) ⟨[.slice keeps kn kc, undef, .slice none 0 0, .slice none 0 0, undef, undef, .slice keeps kn kc, .int .i64 ((kn : Nat) : Int), .int .i64 0, undef, undef, undef, undef, undef, undef, undef, undef, undef, undef], [], []⟩ R (fates_ok_L3_K keeps kn kc KB KO ks R)) ∧ (∀ x1 : Nat × (Option Nat) × Nat × (Nat → Value), (x1.1 = kn ∧ (x1.2.1 = none → x1.2.2.1 = 0) ∧ x1.1 ≤ x1.2.2.1 ∧ x1.2.2.1 ≤ maxLen) → GX R ({y : Option Nat × Nat // y.1 = none → ksL ks kn = []}) (fun w => (gsv w.1.1 ((ksL ks kn).length) w.1.2, [gsb w.1.1 (intl (ksL ks kn)) 52 (w.1.2 * 1)])) (.ret (gsv x1.2.1 ((ksL ks kn).length) x1.2.2.1)) R [gsb x1.2.1 (intl (ksL ks kn)) 52 (x1.2.2.1 * 1)]) ∧ True)) (ops [.d, .d, .d, .d, .d] (.alt (Nat × (Option Nat) × Nat × (Nat → Value)) (fun zx => zx.1 = kn ∧ (zx.2.1 = none → zx.2.2.1 = 0) ∧ zx.1 ≤ zx.2.2.1 ∧ zx.2.2.1 ≤ maxLen) (fun zx => (.exit 0, ⟨[.slice keeps kn kc, undef, .slice none 0 0, gsv zx.2.1 ((ksL ks kn).length) zx.2.2.1, undef, (zx.2.2.2 5), .slice keeps kn kc, .int .i64 ((kn : Nat) : Int), .int .i64 ((zx.1 : Nat) : Int), (zx.2.2.2 9), (zx.2.2.2 10), (zx.2.2.2 11), (zx.2.2.2 12), (zx.2.2.2 13), (zx.2.2.2 14), (zx.2.2.2 15), (zx.2.2.2 16), (zx.2.2.2 17), undef], [], [gsb zx.2.1 (intl (ksL ks kn)) 52 (zx.2.2.1 * 1)]⟩)) (fun x1 => (ops [.d, .d] (.fin [0] []))) .altn)) Try.func16 (by kernel_rfl) (by kernel_rfl)
    (⟨fates_ok_L3_ct keeps kn kc KB KO ks R hkn hk, ⟨fun x1 qx1 => ⟨rfl, ⟨(x1.2.1, x1.2.2.1), (fun h => (by have h1 := qx1.2.1 h; have h2 := qx1.2.2.1; rw [qx1.1] at h2; exact List.eq_nil_of_length_eq_zero (by rw [ksL_len]; omega)))⟩, (by rfl), (by rfl)⟩, trivial⟩⟩)

end Go.Proofs.Ytclpjkeppfpeoaa