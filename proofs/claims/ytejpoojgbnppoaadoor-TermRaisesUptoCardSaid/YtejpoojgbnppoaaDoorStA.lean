import Derived.Test.YtejpoojgbnppoaaDoorTmG
import Derived.Test.YtejpoojgbnppoaaDoorVcW
import Derived.Test.YtejpoojgbnppoaaDoorHex
import Derived.Test.YtejpoojgbnppoaaDoorFmt
namespace Go.Proofs.YtejpoojgbnppoaaDoor
open Vc Go
set_option linter.unusedVariables false
set_option linter.unusedSimpArgs false

/-- The table that strconv reads. -/
def TabR (R : RO) : Prop := ∃ t fr, R.mem 0 = some (.cells (Lib.pow10Tab.map fun z => Value.int .u64 z).toArray t fr)
theorem tab_mono {R S : RO} (h : R.le S) : TabR R → TabR S := fun ⟨t, fr, h1⟩ => ⟨t, fr, h.mem _ _ h1⟩
theorem tab_is {R Rx : RO} {w : World} (h : TabR R) (hR : R.le Rx) (hs : Sat w Rx []) : Lib.TabIs Tryd.prog w "internal/strconv.uint64pow10" .u64 Lib.pow10Tab := by
  obtain ⟨t, fr, h1⟩ := h
  have h2 := hs.ro _ _ (hR.mem _ _ h1)
  have hg : Tryd.prog.globalNamed "internal/strconv.uint64pow10" = some 0 := by kernel_rfl
  unfold Lib.TabIs World.var?
  rw [hg]
  simp only [Option.bind_some, h2]
theorem below_grow (w : World) (k : Nat) (os : Array Obj) : Go.RowKit.Below w.heap.size w (Go.Sort.grow (w.drewN k) os) := by
  have hh : (w.drewN k).heap = w.heap := rfl
  refine ⟨rfl, rfl, rfl, ?_, fun i hi => ?_⟩
  · show _ ≤ ((w.drewN k).heap ++ os).size
    rw [hh, Array.size_append]; omega
  · show ((w.drewN k).heap ++ os)[i]? = _
    rw [hh, Array.getElem?_append_left hi]
def hexB (s : ByteArray) : ByteArray := ⟨(hexL s.data.toList).toArray⟩
def decB (u : Int) : ByteArray := ⟨(Lib.decDigits u.toNat).toArray⟩
def itoB (n : Int) : ByteArray := ⟨(Lib.itoa n).toArray⟩
def joinC (xs : List ByteArray) : ByteArray := ⟨(Lib.join (xs.map (·.data.toList)) [44]).toArray⟩
theorem hex_ok (s : ByteArray) (R : RO) (hs : s.size ≤ 35184372088832) : Gives Tryd.prog 69 [.string s] R [] (.ret (.string (hexB s))) [] := by
  intro Rx w hR hsat
  refine (hex_walk s w hs).mono ?_
  rintro e w' ⟨rfl, hb⟩
  exact ⟨.ret (.string (hexB s)), R, _, Rx, rfl, ⟨rfl, rfl, rfl⟩, .refl hR, hsat.below hb⟩
theorem fmi_ok (u : Int) (R : RO) (h0 : 0 ≤ u) (h1 : u ≤ 18446744073709551615) (hT : TabR R) : Gives Tryd.prog 68 [.int .u64 u, .int .i64 10] R [] (.ret (.string (decB u))) [] := by
  intro Rx w hR hsat
  have := fmtu_walk u.toNat (by omega) w (tab_is hT hR hsat)
  rw [show ((u.toNat : Nat) : Int) = u by omega] at this
  refine this.mono ?_
  rintro e w' ⟨rfl, k, os, rfl⟩
  exact ⟨.ret (.string (decB u)), R, _, Rx, rfl, ⟨rfl, rfl, rfl⟩, .refl hR, hsat.below (below_grow w k os)⟩
theorem itoa_ok (n : Int) (R : RO) (h0 : -9223372036854775808 ≤ n) (h1 : n ≤ 9223372036854775807) (hT : TabR R) : Gives Tryd.prog 49 [.int .i64 n] R [] (.ret (.string (itoB n))) [] := by
  intro Rx w hR hsat
  refine (Go.Proofs.Any.strconv_Itoa Go.Proofs.Tryd.lays171 n h0 h1 w (tab_is hT hR hsat)).mono ?_
  rintro e w' ⟨rfl, k, os, rfl⟩
  exact ⟨.ret (.string (itoB n)), R, _, Rx, rfl, ⟨rfl, rfl, rfl⟩, .refl hR, hsat.below (below_grow w k os)⟩
theorem join_ok (b : Option Nat) (c : Nat) (xs : List ByteArray) (R : RO) (hb : b = none → c = 0) (hl : xs.length ≤ 1000000) (hc : xs.length ≤ c) (hs : (joinC xs).size ≤ 140737488355328) :
    Gives Tryd.prog 48 [gsv b xs.length c, .string (⟨#[44]⟩ : ByteArray)] R [gsb b (strl xs) 9 (c * 1)] (.ret (.string (joinC xs))) [gsb b (strl xs) 9 (c * 1)] := by
  cases b with
  | none =>
    have : c = 0 := hb rfl
    have : xs = [] := List.length_eq_zero_iff.1 (by omega)
    subst this
    intro Rx w hR hsat
    refine (Go.Proofs.Any.strings_Join_none Go.Proofs.Tryd.lays156 Go.Proofs.Tryd.Builder_Extra_156 none c (⟨#[44]⟩ : ByteArray) w).mono ?_
    rintro e w' ⟨rfl, rfl⟩
    exact ⟨.ret (.string (joinC [])), R, _, Rx, rfl, ⟨rfl, rfl, rfl⟩, .refl hR, hsat⟩
  | some B =>
    intro Rx w hR hsat
    have hB : (Blk.row (strl xs) 9 (c * 1)).at w B := hsat.own 0 B _ rfl
    have := Go.Proofs.Any.strings_Join Go.Proofs.Tryd.lays156 Go.Proofs.Tryd.Builder_Extra_156 B 0 c xs (⟨#[44]⟩ : ByteArray) w
      (fun j x hj => by rw [Nat.zero_add]; exact Blk.cells hB j _ (by simp [strl, hj])) (Blk.at_lt hB) (by omega) hc (by simpa [joinC, ByteArray.size] using hs)
    refine this.mono ?_
    rintro e w' ⟨rfl, hb⟩
    exact ⟨.ret (.string (joinC xs)), R, _, Rx, rfl, ⟨rfl, rfl, rfl⟩, .refl hR, hsat.below hb⟩
def quotB (s : ByteArray) : ByteArray := (⟨#[34]⟩ : ByteArray) ++ hexB s ++ (⟨#[34]⟩ : ByteArray)
theorem hexB_size (s : ByteArray) : (hexB s).size = 2 * s.size := by
  show (hexL s.data.toList).toArray.size = _
  rw [List.size_toArray, hexL_len, Array.length_toList]; rfl
theorem quotB_size (s : ByteArray) : (quotB s).size = 2 * s.size + 2 := by
  unfold quotB
  rw [ByteArray.size_append, ByteArray.size_append, hexB_size]
  show 1 + _ + 1 = _
  omega
theorem nDig_le : ∀ (k u : Nat), u < 10 ^ k → 0 < k → Lib.nDigits u ≤ k
  | 0, u, h, h0 => by omega
  | k + 1, u, h, _ => by
    unfold Lib.nDigits
    split
    · omega
    · rename_i hu
      have h1 : u / 10 < 10 ^ k := by rw [Nat.pow_succ] at h; omega
      rcases Nat.eq_zero_or_pos k with hk | hk
      · subst hk; simp at h1; omega
      · have := nDig_le k (u / 10) h1 hk; omega
theorem decB_size {u : Int} (h0 : 0 ≤ u) (h1 : u ≤ 4294967295) : (decB u).size ≤ 10 := by
  show (Lib.decDigits u.toNat).toArray.size ≤ _
  rw [List.size_toArray, Lib.decDigits_length]
  exact nDig_le 10 _ (by omega) (by omega)
theorem itoB_size {n : Int} (h0 : -9223372036854775808 ≤ n) (h1 : n ≤ 9223372036854775807) : (itoB n).size ≤ 20 := by
  show (Lib.itoa n).toArray.size ≤ _
  rw [List.size_toArray]
  unfold Lib.itoa
  split
  · rw [List.length_cons, Lib.decDigits_length]
    have := nDig_le 19 n.natAbs (by omega) (by omega); omega
  · rw [Lib.decDigits_length]
    have := nDig_le 19 n.toNat (by omega) (by omega); omega

set_option maxRecDepth 100000 in
set_option maxHeartbeats 4000000 in
theorem fmu_ok (u : Int) (R : RO) (h0 : 0 ≤ u) (h1 : u ≤ 18446744073709551615) (hT : TabR R) : Gives Tryd.prog 46 [.int .u64 u, .int .i64 10] R [] (.ret (.string (decB u))) [] :=
  Does.of_wp_eq (VC := ((Gives Tryd.prog 68 [.int .u64 u, .int .i64 10] R [] (.ret (.string (decB u))) []) ∧ GQ R (.ret (.string (decB u))) [] (.ret (.string (decB u))) R [])) (ops [.d, .d, .d, .call0 [] [] (fun e v => .ret (.string (decB u))) (fun e v => []), .d] (.fin [] [])) Tryd.func46 (by kernel_rfl) (by kernel_rfl)
    (⟨(fmi_ok u R (by omega) (by omega) hT), ⟨rfl, (by rfl), (by rfl)⟩⟩)

set_option maxRecDepth 100000 in
set_option maxHeartbeats 4000000 in
theorem quoted_ok (s : ByteArray) (R : RO) (hs : s.size ≤ 1000000) : Gives Tryd.prog 47 [.string s] R [] (.ret (.string (quotB s))) [] :=
  Does.of_wp_eq (VC := ((Gives Tryd.prog 69 [.string s] R [] (.ret (.string (hexB s))) []) ∧ ((⟨#[34]⟩ : ByteArray).size + (hexB s).size ≤ 9223372036854775807) ∧ (((⟨#[34]⟩ : ByteArray) ++ (hexB s)).size + (⟨#[34]⟩ : ByteArray).size ≤ 9223372036854775807) ∧ GQ R (.ret (.string (quotB s))) [] (.ret (.string (((⟨#[34]⟩ : ByteArray) ++ (hexB s)) ++ (⟨#[34]⟩ : ByteArray)))) R [])) (ops [.d, .d, .call0 [] [] (fun e v => .ret (.string (hexB s))) (fun e v => []), .cat, .cat, .d] (.fin [] [])) Tryd.func47 (by kernel_rfl) (by kernel_rfl)
    (⟨(hex_ok s R (by omega)), ⟨(by have h9 := hexB_size s; have h8 : (⟨#[34]⟩ : ByteArray).size = 1 := rfl; (try rw [ByteArray.size_append]); omega), ⟨(by have h9 := hexB_size s; have h8 : (⟨#[34]⟩ : ByteArray).size = 1 := rfl; (try rw [ByteArray.size_append]); omega), ⟨rfl, (by rfl), (by rfl)⟩⟩⟩⟩)
end Go.Proofs.YtejpoojgbnppoaaDoor
