import Derived.Test.YtlfhlbhgmgkbpaaGreatHex
import Derived.Test.YtlfhlbhgmgkbpaaGreatStA
import Derived.Shelf.Strings.BuilderK
namespace Go.Proofs.YtlfhlbhgmgkbpaaGreat
open Go Go.RowKit Go.Proofs Vc
theorem keep_row {e : TypeId} {B n : Nat} {v : Value} {xs : List Value} {W W' : World} (h : W.ownsRowF B e 1 v n xs) (hb : Below W.heap.size W W') : W'.ownsRowF B e 1 v n xs := by
  refine ⟨h.1, ?_⟩
  rcases h.2 with h | ⟨g, cap, cur, fz, hv, hB, hg, r⟩
  · exact .inl h
  · exact .inr ⟨g, cap, cur, fz, hv, hB, (hb.block g (Array.getElem?_eq_some_iff.1 hg).1).trans hg, r⟩
theorem keep_at {T e : TypeId} {B b : Nat} {p : Value} {bs : List Value} {W W' : World} (h : Lib.BuilderAtF T e B b p bs W) (hb : Below W.heap.size W W') : Lib.BuilderAtF T e B b p bs W' := by
  obtain ⟨hB, v, hk, hown, hne⟩ := h
  exact ⟨hB, v, (hb.block b (Array.getElem?_eq_some_iff.1 hk).1).trans hk, keep_row hown hb, hne⟩
theorem keep_b {T e : TypeId} {B b : Nat} {bs : List Value} {W W' : World} (h : Lib.IsBuilderF T e B b bs W) (hb : Below W.heap.size W W') : Lib.IsBuilderF T e B b bs W' :=
  h.imp (fun h => keep_at h hb) (fun h => keep_at h hb)
theorem b_lt {T e : TypeId} {B b : Nat} {bs : List Value} {W : World} (h : Lib.IsBuilderF T e B b bs W) : b < W.heap.size := by
  rcases h with h | h
  · exact h.lt
  · exact h.lt
theorem all_cells {w : World} {b off : Nat} {c : Array Value} {t : TypeId} {fr : Nat × Nat} {cs : List Value} (h : w.heap[b]? = some (.cells c t fr)) (h2 : (c.toList.drop off).take cs.length = cs) : (RO.all w).cells b off cs := ⟨c, t, fr, h, h2⟩
theorem two_new (wr : World) (c1 c2 : Array Value) (t1 t2 : TypeId) : ((wr.alloc (.cells c1 t1)).alloc (.cells c2 t2)).heap[wr.heap.size + 1]? = some (.cells c2 t2 (0, 0)) ∧
    ((wr.alloc (.cells c1 t1)).alloc (.cells c2 t2)).heap[wr.heap.size]? = some (.cells c1 t1 (0, 0)) ∧ ((wr.alloc (.cells c1 t1)).alloc (.cells c2 t2)).heap.size = wr.heap.size + 2 ∧
    Below wr.heap.size wr ((wr.alloc (.cells c1 t1)).alloc (.cells c2 t2)) := by
  refine ⟨by show ((wr.heap.push _).push _)[_]? = _; rw [Array.getElem?_push, if_pos (by simp)], by show ((wr.heap.push _).push _)[_]? = _; simp [Array.getElem?_push], by show ((wr.heap.push _).push _).size = _; simp, ?_⟩
  exact ((Below.refl _ wr).alloc (Nat.le_refl _) _).alloc (by show _ ≤ (wr.heap.push _).size; simp) _
structure Chg where
  key : ByteArray
  val : ByteArray
  gone : Bool
def cntL (s : ByteArray) : List UInt8 := (cntB s).data.toList
def chgL (x : Chg) : List UInt8 := cntL x.key ++ cntL x.val ++ [if x.gone then 1 else 0]
def textL (kind : UInt8) (xs : Nat → Chg) (k : Nat) : List UInt8 := kind :: (List.range k).flatMap (fun i => chgL (xs i))
theorem textL_succ (kind : UInt8) (xs : Nat → Chg) (k : Nat) : textL kind xs (k + 1) = textL kind xs k ++ chgL (xs k) := by
  unfold textL
  rw [List.range_succ, List.flatMap_append]
  simp
theorem cntB_size (k : ByteArray) : (cntB k).size = 2 + k.size := by unfold cntB hdrB; rw [ByteArray.size_append, ofI_size]; rfl
theorem chgL_len (x : Chg) : (chgL x).length = 5 + x.key.size + x.val.size := by
  have h : ∀ s : ByteArray, s.data.toList.length = s.size := fun s => by rw [Array.length_toList]; rfl
  unfold chgL cntL
  simp only [List.length_append, h, cntB_size, List.length_cons, List.length_nil]
  omega
theorem textL_len {kind : UInt8} {xs : Nat → Chg} {n : Nat} (hs : ∀ j, j < n → (xs j).key.size ≤ 1000000 ∧ (xs j).val.size ≤ 1000000) : ∀ k, k ≤ n → (textL kind xs k).length ≤ 1 + k * 2000005
  | 0, _ => by simp [textL]
  | k + 1, h => by
    rw [textL_succ, List.length_append, chgL_len]
    have := textL_len (kind := kind) hs k (by omega)
    have := hs k (by omega)
    omega
def ChgAt (w : World) (b o : Nat) (x : Chg) : Prop :=
  w.cell? ⟨b, o, none⟩ = some (.string x.key) ∧ w.cell? ⟨b, o + 1, none⟩ = some (.string x.val) ∧ w.cell? ⟨b, o + 2, none⟩ = some (.bool x.gone)
set_option maxHeartbeats 4000000 in
set_option maxRecDepth 1000000 in
theorem text_walk (kind : UInt8) (a : Option Addr) (n cap b o : Nat) (xs : Nat → Chg) (w : World) (hx : ∀ j, j < n → a = some ⟨b, o, none⟩ ∧ ChgAt w b (o + j * 3) (xs j)) (hn : n ≤ 1000000) (hs : ∀ j, j < n → (xs j).key.size ≤ 1000000 ∧ (xs j).val.size ≤ 1000000) :
    Calls Tryz.prog 32 #[.int .u8 kind.toNat, .slice a n cap] w fun e w' => e = .returned (.string ⟨(textL kind xs n).toArray⟩) ∧ Below w.heap.size w w' := by
  go_enter Tryz.func32, Tryz.ntmps32
  go_wp2_with fail
  refine (Any.Builder_WriteByte_k lays167 extra167 w.heap.size w.heap.size [] _ _ (Lib.IsBuilderF.of (Lib.fresh_isBuilder 93 5 w)) (by decide) (by simp)).mono ?_
  rintro e w1 ⟨rfl, h1, hb1, _⟩
  have H1 := Any.hidJ (Or.inr h1 : Lib.IsBuilderF 93 5 w.heap.size w.heap.size _ w1)
  have Hb1 := Any.hidJ (((Below.refl _ w).alloc (Nat.le_refl _) _).trans hb1)
  clear h1 hb1
  go_wp2
  go_loopw [12] (fun i wr => ∃ k : Nat, k ≤ n ∧ i = .int .i64 k ∧ Hid (Lib.IsBuilderF 93 5 w.heap.size w.heap.size (Lib.byteCells (textL kind xs k)) wr) ∧ Hid (Below w.heap.size w wr)) (fun i wr => n - (intOf i).toNat)
  case atStart =>
    refine ⟨0, Nat.zero_le _, rfl, ?_, ?_⟩
    · have := H1.out
      exact this
    · exact Hb1.out
  case round =>
    obtain ⟨k, hk', rfl, HB, HW⟩ := hrel
    by_cases hkr : k < n
    · obtain ⟨ha, hc⟩ := hx k hkr
      subst ha
      have hBw : w.heap.size ≤ wr.heap.size := HW.out.size
      have hlt : b < w.heap.size := by
        rcases Nat.lt_or_ge b w.heap.size with h' | h'
        · exact h'
        · have := hc.1
          simp [World.cell?, Array.getElem?_eq_none h'] at this
      have hcell : ∀ j, wr.cell? ⟨b, j, none⟩ = w.cell? ⟨b, j, none⟩ := fun j => by
        simp only [World.cell?, HW.out.block b hlt]
      have c0 : wr.cell? ⟨b, o + k * 3, none⟩ = some (.string (xs k).key) := (hcell _).trans hc.1
      have c1 : wr.cell? ⟨b, o + k * 3 + 1, none⟩ = some (.string (xs k).val) := (hcell _).trans hc.2.1
      have c2 : wr.cell? ⟨b, o + k * 3 + 2, none⟩ = some (.bool (xs k).gone) := (hcell _).trans hc.2.2
      clear hcell hc
      go_wp2_with fail
      obtain ⟨n1, n2, n3, n4⟩ := two_new wr #[.string (xs k).key, .string (xs k).val, .bool (xs k).gone] #[.string (xs k).key, .string (xs k).val] 27 9
      have hsk := hs k hkr
      refine (gives_calls (counted_ok (R := RO.all _) (wr.heap.size + 1) (xs k).key (xs k).val (all_cells n1 rfl) (all_cells n1 rfl) (by omega) (by omega))).mono ?_
      rintro e w2 ⟨rfl, hb2⟩
      have hA : Below wr.heap.size wr w2 := n4.trans (hb2.mono (by rw [n3]; omega))
      have H2 := Any.hidJ (keep_b HB.out hA)
      have Hb2 := Any.hidJ (HW.out.trans (hA.mono hBw))
      have hBw2 : w.heap.size ≤ w2.heap.size := Hb2.out.size
      have hlen := textL_len (kind := kind) hs k (by omega)
      have g2 : w2.heap[wr.heap.size]? = some (.cells #[.string (xs k).key, .string (xs k).val, .bool (xs k).gone] 27 (0, 0)) := (hb2.block wr.heap.size (by rw [n3]; omega)).trans n2
      have Hn := Any.hidJ g2
      clear g2 hb2 n1 n2 n3 n4 hA
      go_wp2_with fail
      refine (Any.Builder_WriteString_k (ρ := Tryz.lays156_ren) { Tryz.lays156 with } Tryz.Builder_Extra_156 w.heap.size w.heap.size _ _ w2 H2.out (by rw [Lib.byteCells_length, ByteArray.size_append, cntB_size, cntB_size]; omega) hBw2).mono ?_
      rintro e w3 ⟨rfl, h3, hb3, hk3⟩
      have hw1 := b_lt HB.out
      have g3 : w3.cell? ⟨wr.heap.size, 2, none⟩ = some (.bool (xs k).gone) := by
        have h5 := hk3 wr.heap.size _ Hn.out (by simp; omega) (fun c fz he => by cases he)
        simp only [World.cell?, h5]
        rfl
      have H3 := Any.hidJ (Or.inr h3 : Lib.IsBuilderF 93 5 w.heap.size w.heap.size _ w3)
      have Hb3 := Any.hidJ (Hb2.out.trans hb3)
      have hBw3 : w.heap.size ≤ w3.heap.size := Hb3.out.size
      clear h3 hb3 hk3 Hn
      have hl3 : (Lib.byteCells (textL kind xs k) ++ Lib.strCells (cntB (xs k).key ++ cntB (xs k).val)).length + 1 ≤ 140737488355328 := by
        rw [List.length_append, Lib.byteCells_length, Lib.strCells_length, ByteArray.size_append, cntB_size, cntB_size]; omega
      have hcells : ∀ g : UInt8, (if (xs k).gone = true then (1 : UInt8) else 0) = g → Lib.byteCells (textL kind xs k) ++ Lib.strCells (cntB (xs k).key ++ cntB (xs k).val) ++ [Value.int .u8 (g.toNat : Int)] = Lib.byteCells (textL kind xs (k + 1)) := fun g hg => by
        rw [textL_succ, Lib.byteCells_append, List.append_assoc]
        refine congrArg (Lib.byteCells (textL kind xs k) ++ ·) ?_
        unfold chgL cntL
        rw [hg, Lib.byteCells_append, Lib.strCells_eq, ByteArray.data_append, Array.toList_append]
        rfl
      cases hgn : (xs k).gone with
      | true =>
        rw [hgn] at g3
        have hc1 := hcells 1 (by rw [hgn]; rfl)
        clear hcells hgn
        go_wp2_with fail
        refine (Any.Builder_WriteByte_k lays167 extra167 w.heap.size w.heap.size _ _ w3 H3.out hl3 hBw3).mono ?_
        rintro e w4 ⟨rfl, h4, hb4, hk4⟩
        have H4 := Any.hidJ ((hc1 ▸ Or.inr h4) : Lib.IsBuilderF 93 5 w.heap.size w.heap.size (Lib.byteCells (textL kind xs (k + 1))) w4)
        have Hb4 := Any.hidJ (Hb3.out.trans hb4)
        clear h4 hb4 hk4 hc1 hl3 H3 Hb3 hBw3 g3 hsk hlen
        go_wp2
        exact ⟨⟨k + 1, by omega, by go_num, H4, Hb4⟩, by simp [intOf]; omega⟩
      | false =>
        rw [hgn] at g3
        have hc1 := hcells 0 (by rw [hgn]; rfl)
        clear hcells hgn
        go_wp2_with fail
        refine (Any.Builder_WriteByte_k lays167 extra167 w.heap.size w.heap.size _ _ w3 H3.out hl3 hBw3).mono ?_
        rintro e w4 ⟨rfl, h4, hb4, hk4⟩
        have H4 := Any.hidJ ((hc1 ▸ Or.inr h4) : Lib.IsBuilderF 93 5 w.heap.size w.heap.size (Lib.byteCells (textL kind xs (k + 1))) w4)
        have Hb4 := Any.hidJ (Hb3.out.trans hb4)
        clear h4 hb4 hk4 hc1 hl3 H3 Hb3 hBw3 g3 hsk hlen
        go_wp2
        exact ⟨⟨k + 1, by omega, by go_num, H4, Hb4⟩, by simp [intOf]; omega⟩
    · have hke : k = n := by omega
      subst hke
      have hBw : w.heap.size ≤ wr.heap.size := HW.out.size
      have HB2 := HB.out
      go_wp2_with fail
      refine (Any.Builder_String_any_k Tryz.lays169 Tryz.Builder_Extra_169 w.heap.size w.heap.size _ wr HB2 hBw).mono ?_
      rintro e w5 ⟨rfl, _, hb5, _⟩
      have Hb5 := Any.hidJ (HW.out.trans hb5)
      clear hb5 HB2 HB
      go_wp2
      go_ret
      exact ⟨rfl, Hb5.out⟩
end Go.Proofs.YtlfhlbhgmgkbpaaGreat
