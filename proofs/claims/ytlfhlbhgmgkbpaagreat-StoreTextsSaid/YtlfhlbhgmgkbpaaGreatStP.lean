import Derived.Test.YtlfhlbhgmgkbpaaGreatStO
namespace Go.Proofs.YtlfhlbhgmgkbpaaGreat
open Vc Go
set_option linter.unusedVariables false
set_option linter.unusedSimpArgs false

/-! ## The order of texts -/

theorem less_tri : ∀ x y : List UInt8, (Go.Op.bytesLess x y = true) ↔ (Go.Op.bytesLess y x = false ∧ x ≠ y)
  | [], [] => by simp [Go.Op.bytesLess]
  | [], b :: y => by simp [Go.Op.bytesLess]
  | a :: x, [] => by simp [Go.Op.bytesLess]
  | a :: x, b :: y => by
    have ih := less_tri x y
    unfold Go.Op.bytesLess
    rcases Nat.lt_trichotomy a.toNat b.toNat with h | h | h
    · have h1 : a < b := h
      have h2 : ¬ b < a := fun h3 => absurd (show b.toNat < a.toNat from h3) (by omega)
      have h3 : ¬ b = a := fun he => by subst he; omega
      have h4 : ¬ a = b := fun he => h3 he.symm
      simp [h1, h2, h3, h4]
    · have he : a = b := UInt8.toNat_inj.1 h
      subst he
      have h2 : ¬ a < a := fun h3 => absurd (show a.toNat < a.toNat from h3) (by omega)
      simp only [h2, decide_false, Bool.false_or, beq_self_eq_true, Bool.true_and, ne_eq, List.cons.injEq, true_and]
      exact ih
    · have h1 : ¬ a < b := fun h3 => absurd (show a.toNat < b.toNat from h3) (by omega)
      have h2 : b < a := h
      have h4 : ¬ a = b := fun he => by subst he; omega
      simp [h1, h2, h4]
theorem wc_iff {t : ByteArray} {N : Nat} : (SortedP (lS t N) ∧ ∀ k, k < N → WQ t k) ↔ ∀ j, j < N → WC t j := by
  constructor
  · rintro ⟨h1, h2⟩ j hj
    have hq := h2 j hj
    refine ⟨hq.g, ?_⟩
    rcases hq.l with h | h
    · exact .inl h
    · by_cases h0 : j = 0
      · exact .inl h0
      · right
        have h3 := h1 (j - 1) (by rw [lS_len]; omega)
        rw [show j - 1 + 1 = j by omega, lS_get t N j hj, lS_get t N (j - 1) (by omega)] at h3
        refine (less_tri _ _).2 ⟨h3, fun he => h ?_⟩
        rw [ByteArray.toList_eq, ByteArray.toList_eq] at he
        exact ba_ext' he
  · intro h
    refine ⟨fun k hk => ?_, fun k hk => ⟨(h k hk).g, ?_⟩⟩
    · rw [lS_len] at hk
      rw [lS_get t N (k + 1) hk, lS_get t N k (by omega)]
      have h2 := (h (k + 1) hk).l.resolve_left (by omega)
      rw [show k + 1 - 1 = k by omega] at h2
      exact ((less_tri _ _).1 h2).1
    · rcases (h k hk).l with h2 | h2
      · exact .inl h2
      · right
        intro he
        have h3 := ((less_tri _ _).1 h2).2
        rw [he] at h3
        exact h3 rfl
theorem least_W (t : ByteArray) : ∀ n, (∀ j, j < n → WC t j) ∨ ∃ j, j < n ∧ ¬ WC t j ∧ ∀ i, i < j → WC t i
  | 0 => .inl fun j hj => by omega
  | n + 1 => by
    rcases least_W t n with h | ⟨j, h1, h2⟩
    · by_cases hc : WC t n
      · refine .inl fun j hj => ?_
        by_cases he : j = n
        · subst he; exact hc
        · exact h j (by omega)
      · exact .inr ⟨n, by omega, hc, h⟩
    · exact .inr ⟨j, by omega, h2⟩

/-! ## When a text is one -/

def K0 (t : ByteArray) : Int := bt t ((0 : Nat) : Int)
structure Good (t : ByteArray) (N : Nat) : Prop where
  s : 1 ≤ t.size
  r : Run t N
  e : kS t N = t.size
structure Bad (t : ByteArray) : Prop where
  p : ∀ R : RO, Gives Tryz.prog 7 [.string t] R [] (.ret (.tuple #[.slice none 0 0, .bool false, .int .i64 4])) []
  q : ∀ R : RO, Gives Tryz.prog 8 [.string t] R [] (.ret (.tuple #[.slice none 0 0, .bool false, .bool false])) []
theorem good_or (t : ByteArray) (hsz : t.size ≤ 6000) : (∃ N, Good t N ∧ K0 t = 97) ∨ (∃ N, Good t N ∧ K0 t = 119 ∧ ∀ j, j < N → WC t j) ∨ Bad t := by
  by_cases h1 : 1 ≤ t.size
  · obtain ⟨N, hR, h⟩ := run_end t h1
    by_cases ka : K0 t = 97
    · rcases h with hE | ⟨hL, hF⟩
      · exact .inl ⟨N, ⟨h1, hR, hE⟩, ka⟩
      · exact .inr (.inr ⟨fun R => p_f t N R hsz h1 hR hL hF, fun R => rparse_ba t N R hsz h1 ka hL hF⟩)
    · by_cases kb : K0 t = 119
      · rcases h with hE | ⟨hL, hF⟩
        · by_cases hS : SortedP (lS t N) ∧ ∀ k, k < N → WQ t k
          · exact .inr (.inl ⟨N, ⟨h1, hR, hE⟩, kb, wc_iff.1 hS⟩)
          · rcases least_W t N with hw | ⟨M, hM, hn, _⟩
            · exact (hS (wc_iff.2 hw)).elim
            · exact .inr (.inr ⟨fun R => p_nr t N R hsz h1 hR hE kb hS, fun R => rparse_bw t M R hsz h1 kb (hR M hM).1 fun h => hn h.2⟩)
        · exact .inr (.inr ⟨fun R => p_f t N R hsz h1 hR hL hF, fun R => rparse_bw t N R hsz h1 kb hL fun h => hF h.1⟩)
      · refine .inr (.inr ⟨fun R => ?_, fun R => rparse_k t R h1 ka kb⟩)
        rcases h with hE | ⟨hL, hF⟩
        · exact p_k t N R hsz h1 hR hE ka kb
        · exact p_f t N R hsz h1 hR hL hF
  · exact .inr (.inr ⟨fun R => p_e t R h1, fun R => rparse_e t R (by omega)⟩)

/-! ## What is given back -/

theorem p_none {t : ByteArray} {N : Nat} {fid ty : Nat} {v2 v3 : Value} {R : RO} (h0 : N = 0)
    (h : GivesX Tryz.prog fid [.string t] R [] ({y : Option Nat × Nat // (y.1 = none ↔ N = 0) ∧ N ≤ y.2 ∧ y.2 ≤ maxLen}) (fun w => (.tuple #[gsv w.1.1 N w.1.2, v2, v3], [gsb w.1.1 (rowOf (lS t N)) ty (w.1.2 * 3)]))) :
    GivesX Tryz.prog fid [.string t] R [] Nat (fun w => (.tuple #[.slice none 0 w, v2, v3], [none])) := by
  subst h0
  refine Does.mono h ?_
  rintro o G H' _ ⟨rfl, ⟨⟨b, cap⟩, hb, _⟩, rfl, rfl⟩
  have hb2 : b = none := hb.2 rfl
  subst hb2
  exact ⟨rfl, cap, rfl, rfl⟩
theorem p_some {t : ByteArray} {N : Nat} {fid ty : Nat} {v2 v3 : Value} {R : RO} (h0 : 0 < N)
    (h : GivesX Tryz.prog fid [.string t] R [] ({y : Option Nat × Nat // (y.1 = none ↔ N = 0) ∧ N ≤ y.2 ∧ y.2 ≤ maxLen}) (fun w => (.tuple #[gsv w.1.1 N w.1.2, v2, v3], [gsb w.1.1 (rowOf (lS t N)) ty (w.1.2 * 3)]))) :
    GivesX Tryz.prog fid [.string t] R [] {y : Nat × Nat // N ≤ y.2 ∧ y.2 ≤ maxLen} (fun w => (.tuple #[.slice (some ⟨w.1.1, 0, none⟩) N w.1.2, v2, v3], [some (w.1.1, .row (rowOf (lS t N)) ty (w.1.2 * 3))])) := by
  refine Does.mono h ?_
  rintro o G H' _ ⟨rfl, ⟨⟨b, cap⟩, hb, h2⟩, rfl, rfl⟩
  cases b with
  | none => have := hb.1 rfl; omega
  | some a => exact ⟨rfl, ⟨(a, cap), h2⟩, rfl, rfl⟩

/-! ## The text of what a text is -/

theorem take_ext (s : ByteArray) {a b : Nat} (h : a ≤ b) : s.data.toList.take b = s.data.toList.take a ++ (s.extract a b).data.toList := by
  rw [ext_list]
  conv => lhs; rw [← List.take_append_drop a (s.data.toList.take b)]
  rw [List.take_take, Nat.min_eq_left h]
theorem sI_two {x : ByteArray} (h : x.size = 2) : sI x = [bt x 0, bt x 1] := by
  have h0 := bt_sI x (i := 0) (by omega)
  have h1 := bt_sI x (i := 1) (by omega)
  have hl := sI_length x
  rw [h] at hl
  match sI x, hl, h0, h1 with
  | [a, b], _, h0, h1 =>
    simp only [List.getElem?_cons_zero, List.getElem?_cons_succ, Option.some.injEq] at h0 h1
    rw [h0, h1]; rfl
theorem hdr_ext {t : ByteArray} {k : Nat} (h : nx t k ≤ t.size) : hdrB (t.extract (k + 2) (nx t k)) = t.extract k (k + 2) := by
  have hg := nx_ge t k
  have hb := tw_bd t k
  have hs : (t.extract (k + 2) (nx t k)).size = Int.toNat (tw t k) := by rw [ByteArray.size_extract]; unfold nx; unfold nx at h; omega
  rw [← twoB_hdr _ (by omega)]
  unfold twoB
  rw [hs, show ((Int.toNat (tw t k) : Nat) : Int) = tw t k by omega, ← ofI_sI (t.extract k (k + 2)), sI_two (by rw [ByteArray.size_extract]; omega)]
  have e0 : bt (t.extract k (k + 2)) 0 = bt t (k : Int) := bt_ext (m := 0) (by omega) (by omega)
  have e1 : bt (t.extract k (k + 2)) 1 = bt t ((k + 1 : Nat) : Int) := bt_ext (m := 1) (by omega) (by omega)
  rw [e0, e1]
  have b0 := bt_bd t (k : Int)
  have b1 := bt_bd t ((k + 1 : Nat) : Int)
  have h1 : Int.tdiv (tw t k) 256 = bt t (k : Int) := by
    rw [Int.tdiv_eq_ediv_of_nonneg hb.1]; unfold tw; omega
  rw [h1]
  have h2 : IntKind.u8.wrap (bt t (k : Int)) = bt t (k : Int) := (by rw [wu8]; omega)
  have h3 : IntKind.u8.wrap (tw t k) = bt t ((k + 1 : Nat) : Int) := by
    rw [wu8]; unfold tw; omega
  rw [h2, h3]
theorem cnt_take {t : ByteArray} {k : Nat} (h : nx t k ≤ t.size) : t.data.toList.take (nx t k) = t.data.toList.take k ++ cntL (t.extract (k + 2) (nx t k)) := by
  have hg := nx_ge t k
  rw [take_ext t hg, take_ext t (show k ≤ k + 2 by omega)]
  unfold cntL cntB
  rw [hdr_ext h, ba_app, List.append_assoc]
theorem gone_take {t : ByteArray} {q : Nat} (h : q + 1 ≤ t.size) (hg : bt t (q : Int) ≤ 1) : (t.extract q (q + 1)).data.toList = [if (bt t (q : Int) == 1) = true then (1 : UInt8) else 0] := by
  rw [ext_list]
  have h2 : q < t.data.toList.length := by rw [len_size]; omega
  have h3 : q < t.data.size := h
  have e : (t.data.toList.take (q + 1)).drop q = [t.data.toList[q]] := by
    rw [List.take_succ_eq_append_getElem h2, List.drop_append_of_le_length (by rw [List.length_take]; omega), List.drop_eq_nil_of_le (by rw [List.length_take]; omega)]
    rfl
  rw [e]
  have hb : bt t (q : Int) = ((t.data.toList[q]).toNat : Int) := by
    simp [bt, Array.getElem?_eq_getElem h3]
  rw [hb] at hg ⊢
  generalize t.data.toList[q] = x at hg ⊢
  congr 1
  apply UInt8.toNat_inj.1
  split
  · next h4 => simp only [beq_iff_eq] at h4; show _ = 1; omega
  · next h4 => simp only [beq_iff_eq] at h4; show _ = 0; omega
theorem take_run {t : ByteArray} {N : Nat} (hR : Run t N) (h1 : 1 ≤ t.size) (hk : K0 t = 97) : ∀ i, i ≤ N → t.data.toList.take (kS t i) = textL 97 (chs (lS t N)) i
  | 0, _ => by
    have h2 : 0 < t.data.toList.length := by rw [len_size]; omega
    have h3 : 0 < t.data.size := h1
    show t.data.toList.take 1 = [97]
    have e : t.data.toList.take 1 = [t.data.toList[0]] := by rw [List.take_succ_eq_append_getElem h2]; rfl
    rw [e]
    have hb : K0 t = ((t.data.toList[0]).toNat : Int) := by simp [K0, bt, Array.getElem?_eq_getElem h3]
    rw [hb] at hk
    congr 1
    apply UInt8.toNat_inj.1
    show _ = 97
    omega
  | i + 1, hi => by
    have ho := (hR i (by omega)).2
    rw [textL_succ, ← take_run hR h1 hk i (by omega), lS_get t N i (by omega), kS]
    have n1 := nx_ge t (kS t i)
    have n2 := nx_ge t (nx t (kS t i))
    unfold enC
    rw [take_ext t (show nx t (nx t (kS t i)) ≤ nx t (nx t (kS t i)) + 1 by omega), cnt_take (t := t) (k := nx t (kS t i)) (by have := ho.nx2; omega), cnt_take (t := t) (k := kS t i) ho.nx1, gone_take ho.nx2 ho.g]
    unfold chgL atC
    simp only [List.append_assoc]
theorem text_good {t : ByteArray} {N : Nat} (h : Good t N) (hk : K0 t = 97) : textB 97 (lS t N) = t := by
  apply ba_ext'
  unfold textB
  rw [lS_len, ← take_run h.r h.s hk N (Nat.le_refl _), h.e]
  simp only [List.toList_toArray]
  rw [List.take_of_length_le (by rw [len_size]; omega)]
theorem lS_sz {t : ByteArray} {N : Nat} (hsz : t.size ≤ 6000) : ∀ x ∈ lS t N, x.key.size ≤ 1000000 ∧ x.val.size ≤ 1000000 := by
  induction N with
  | zero => intro x hx; cases hx
  | succ N ih =>
    intro x hx
    rw [lS] at hx
    rcases List.mem_append.1 hx with h | h
    · exact ih x h
    · rw [List.mem_singleton] at h
      subst h
      unfold atC
      simp only [ByteArray.size_extract]
      omega

theorem text_cap (k : UInt8) (l : List Chg) (A cap tb m : Nat) (R : RO) (hn : l.length ≤ 1000000) (hs : ∀ x ∈ l, x.key.size ≤ 1000000 ∧ x.val.size ≤ 1000000) :
    Gives Tryz.prog 32 [.int .u8 (k.toNat : Int), .slice (some ⟨A, 0, none⟩) l.length cap] R [some (A, .row (rowOf l) tb m)] (.ret (.string (textB k l))) [some (A, .row (rowOf l) tb m)] := by
  intro Rx w hR hsat
  have hA : (Blk.row (rowOf l) tb m).at w A := hsat.own 0 A _ rfl
  refine (text_walk k (some ⟨A, 0, none⟩) l.length cap A 0 (chs l) w (fun j hj => ⟨rfl, ?_⟩) hn (fun j hj => ?_)).mono ?_
  · obtain ⟨h0, h1, h2⟩ := rowOf_get l j hj
    rw [Nat.zero_add]
    exact ⟨Blk.cells hA _ _ h0, Blk.cells hA _ _ h1, Blk.cells hA _ _ h2⟩
  · unfold chs
    rw [List.getD_eq_getElem?_getD, List.getElem?_eq_getElem hj]
    exact hs _ (List.getElem_mem hj)
  · rintro e w' ⟨rfl, hb⟩
    exact ⟨.ret (.string (textB k l)), R, _, Rx, rfl, ⟨rfl, rfl, rfl⟩, .refl hR, hsat.below hb⟩
theorem text_lS {t : ByteArray} {N : Nat} (A cap : Nat) (R : RO) (hsz : t.size ≤ 6000) (h : Good t N) (hk : K0 t = 97) :
    Gives Tryz.prog 32 [.int .u8 (97 : Int), .slice (some ⟨A, 0, none⟩) N cap] R [some (A, .row (rowOf (lS t N)) 27 (cap * 3))] (.ret (.string t)) [some (A, .row (rowOf (lS t N)) 27 (cap * 3))] := by
  have h2 := text_cap 97 (lS t N) A cap 27 (cap * 3) R (by rw [lS_len]; have := kS_ge t N; have := h.e; omega) (lS_sz hsz)
  rw [text_good h hk, lS_len] at h2
  exact h2
theorem text_nil {t : ByteArray} (cap : Nat) (R : RO) (h : Good t 0) (hk : K0 t = 97) :
    Gives Tryz.prog 32 [.int .u8 (97 : Int), .slice none 0 cap] R [] (.ret (.string t)) [] := by
  have h2 := text_ro none 0 cap 0 0 (fun _ => default) R (fun j hj => by omega) (by omega) (fun j hj => by omega)
  have h3 : textB 97 (lS t 0) = t := text_good h hk
  rw [show (chl (fun _ => (default : Chg)) 0) = lS t 0 from rfl, h3] at h2
  exact h2
set_option maxRecDepth 100000 in
set_option maxHeartbeats 4000000 in
theorem rtext_none2 (cap : Nat) (kd : ByteArray) (R : RO)  : Gives Tryz.prog 10 [.string kd, .slice none 0 cap] R [none] (.ret (.string kd)) [none] :=
  Does.of_wp_eq (VC := (GQ R (.ret (.string kd)) [none] (.ret (.string kd)) R [none])) (ops [.d, .d, .d, .d, .d, .d] (.un 1 (ops [.d, .d, .d] (.fin [0] [])))) Tryz.func10 (by kernel_rfl) (by kernel_rfl)
    (⟨rfl, (by rfl), (by rfl)⟩)

theorem rtext_gs (b : Option Nat) (cap : Nat) (l : List Chg) (R : RO) (hn : l.length ≤ 1000) (hb : ∀ x ∈ l, x.key.size ≤ 100000 ∧ x.val.size ≤ 100000) (h0 : b = none → l = []) :
    Gives Tryz.prog 10 [.string ⟨#[97]⟩, gsv b l.length cap] R [gsb b (rowOf l) 37 (cap * 3)] (.ret (.string (textB 97 l))) [gsb b (rowOf l) 37 (cap * 3)] := by
  rw [← rtx_text l hb]
  cases b with
  | some a => exact rtext_some a cap _ l R hn hb (by decide)
  | none =>
    have hl := h0 rfl
    subst hl
    refine Does.mono (rtext_none2 cap _ R) ?_
    rintro o G H' _ ⟨rfl, rfl, rfl⟩
    exact ⟨rfl, rfl, rfl⟩

/-! ## A slice's front, whatever it lies on -/

theorem slc_opt {P : Program} {R : RO} {H : Hp} {t e : TypeId} {a : Option Addr} {n cap z : Nat} {h : Int} (ht : P.underlying t = some (.slice e)) (hz : pureV P (Go.sizeOf e) = some z) (h0 : 0 ≤ h) (h1 : h ≤ (cap : Int)) :
    Prim0 P (.slc t (.slice a n cap) none (some (.int .i64 h)) none) R H (.slice a (Int.toNat h) cap) H := by
  intro Rx w hR hs
  refine ⟨w, ?_, hs⟩
  simp only [PC.sem, Instr.sliceAt, Instr.slice, Sem.run_bind, run_underlying ht, Result.andThen_ok, Instr.sliceBounds, Sem.run_pure, Option.map_none, Option.map_some, Option.isSome, Bool.false_eq_true, if_false, if_true,
    Vc.run_sliceBound h0 h1, pureV_run hz w]
  cases a <;> simp [Addr.add]

end Go.Proofs.YtlfhlbhgmgkbpaaGreat
