import Derived.Test.YtlfhlbhgmgkbpaaGreatDskC
import Derived.Test.YtlfhlbhgmgkbpaaGreatAw2
namespace Go.Proofs.YtlfhlbhgmgkbpaaGreat
open Vc Go
set_option linter.unusedVariables false
set_option linter.unusedSimpArgs false

def numB (n : Int) : ByteArray := ofI [IntKind.u8.wrap (sHr .u64 n 56), IntKind.u8.wrap (sHr .u64 n 48), IntKind.u8.wrap (sHr .u64 n 40), IntKind.u8.wrap (sHr .u64 n 32), IntKind.u8.wrap (sHr .u64 n 24), IntKind.u8.wrap (sHr .u64 n 16), IntKind.u8.wrap (sHr .u64 n 8), IntKind.u8.wrap (sHr .u64 n 0)]
def backF (s : ByteArray) : Int := bOr .u64 (sHl .u64 (bOr .u64 (sHl .u64 (bOr .u64 (sHl .u64 (bOr .u64 (sHl .u64 (bOr .u64 (sHl .u64 (bOr .u64 (sHl .u64 (bOr .u64 (sHl .u64 (bOr .u64 0 (IntKind.u64.wrap (bt s 0))) 8) (IntKind.u64.wrap (bt s 1))) 8) (IntKind.u64.wrap (bt s 2))) 8) (IntKind.u64.wrap (bt s 3))) 8) (IntKind.u64.wrap (bt s 4))) 8) (IntKind.u64.wrap (bt s 5))) 8) (IntKind.u64.wrap (bt s 6))) 8) (IntKind.u64.wrap (bt s 7))
def padF (s : ByteArray) : Nat → Int := fun k => if k < s.size then bt s k else 0
def blkS (f : Nat → Int) : ByteArray := ofI ((List.range 512).map f)
def EqB (f h : Nat → Int) : Prop := ∀ k, k < 512 → f k = h k
def markS (a b c e : Int) : ByteArray := (⟨#[79, 80, 77, 75]⟩ : ByteArray) ++ numB a ++ numB b ++ numB c ++ numB e
def markT (a b c e : Int) : ByteArray := markS a b c e ++ sh32 (joinB [markS a b c e]) ++ numB a
def frameS (x n l : Int) : ByteArray := (⟨#[79, 80, 70, 82]⟩ : ByteArray) ++ numB x ++ numB n ++ numB l
def frameT (x n : Int) (t : ByteArray) : ByteArray := frameS x n (t.size : Int) ++ sh32 (joinB [frameS x n (t.size : Int), t]) ++ t
theorem numB_size (n : Int) : (numB n).size = 8 := rfl
theorem sh32_size (s : ByteArray) : (sh32 s).size = 32 := rfl
theorem markS_size (a b c e : Int) : (markS a b c e).size = 36 := by
  simp only [markS, ByteArray.size_append, numB_size]; rfl
theorem frameS_size (x n l : Int) : (frameS x n l).size = 28 := by
  simp only [frameS, ByteArray.size_append, numB_size]; rfl
theorem markT_size (a b c e : Int) : (markT a b c e).size = 76 := by
  simp only [markT, ByteArray.size_append, markS_size, numB_size, sh32_size]
theorem frameT_size (x n : Int) (t : ByteArray) : (frameT x n t).size = 60 + t.size := by
  simp only [frameT, ByteArray.size_append, frameS_size, sh32_size]
theorem blkS_size (f : Nat → Int) : (blkS f).size = 512 := by unfold blkS; rw [ofI_size]; simp
def needI (k : Int) : Int := Int.tdiv (60 + mx k 0 + 512 - 1) 512

set_option maxRecDepth 100000 in
set_option maxHeartbeats 4000000 in
theorem num_ok (n : Int) (R : RO)  : Gives Tryz.prog 88 [.int .u64 n] R [] (.ret (.string (numB n))) [] :=
  Does.of_wp_eq (VC := (let z1 := (ofI [IntKind.u8.wrap (sHr .u64 n 56), IntKind.u8.wrap (sHr .u64 n 48), IntKind.u8.wrap (sHr .u64 n 40), IntKind.u8.wrap (sHr .u64 n 32), IntKind.u8.wrap (sHr .u64 n 24), IntKind.u8.wrap (sHr .u64 n 16), IntKind.u8.wrap (sHr .u64 n 8), IntKind.u8.wrap (sHr .u64 n 0)]); (PrimOK Tryz.prog (.mks 91 (.int .i64 8) (.int .i64 8)) R [] (Nat) (fun y0 => True) (fun y0 => (.slice (some ⟨y0, 0, none⟩) 8 8, [some (y0, .row [.int .u8 0, .int .u8 0, .int .u8 0, .int .u8 0, .int .u8 0, .int .u8 0, .int .u8 0, .int .u8 0] 5 8)]))) ∧ ∀ y0 : Nat, let z0 : Hp := [some (y0, .row [.int .u8 (IntKind.u8.wrap (sHr .u64 n 56)), .int .u8 (IntKind.u8.wrap (sHr .u64 n 48)), .int .u8 (IntKind.u8.wrap (sHr .u64 n 40)), .int .u8 (IntKind.u8.wrap (sHr .u64 n 32)), .int .u8 (IntKind.u8.wrap (sHr .u64 n 24)), .int .u8 (IntKind.u8.wrap (sHr .u64 n 16)), .int .u8 (IntKind.u8.wrap (sHr .u64 n 8)), .int .u8 (IntKind.u8.wrap (sHr .u64 n 0))] 5 8)]; (True) → (y0 = y0) ∧ (y0 = y0) ∧ (y0 = y0) ∧ (y0 = y0) ∧ (y0 = y0) ∧ (y0 = y0) ∧ (y0 = y0) ∧ (y0 = y0) ∧ (Prim0 Tryz.prog (.cnv 91 9 (.slice (some ⟨y0, 0, none⟩) 8 8)) R z0 (.string z1) z0) ∧ GQ R (.ret (.string (numB n))) [] (.ret (.string z1)) R [])) (ops [.d] (.opp [] [0] (Nat) (fun y0 => True) (fun y0 => (.slice (some ⟨y0, 0, none⟩) 8 8, [some (y0, .row [.int .u8 0, .int .u8 0, .int .u8 0, .int .u8 0, .int .u8 0, .int .u8 0, .int .u8 0, .int .u8 0] 5 8)])) (fun y0 => (ops [.d, .d, .d, .d] (.un 9 (ops [.d, .d, .d, .d, .d, .d, .d, .d, .d, .d, .d, .d, .p 0, .d, .d, .d, .d, .d, .d, .d, .d, .d, .d, .d, .d, .d, .d, .p 0, .d, .d, .d, .d, .d, .d, .d, .d, .d, .d, .d, .d, .d, .d, .p 0, .d, .d, .d, .d, .d, .d, .d, .d, .d, .d, .d, .d, .d, .d, .p 0, .d, .d, .d, .d, .d, .d, .d, .d, .d, .d, .d, .d, .d, .d, .p 0, .d, .d, .d, .d, .d, .d, .d, .d, .d, .d, .d, .d, .d, .d, .p 0, .d, .d, .d, .d, .d, .d, .d, .d, .d, .d, .d, .d, .d, .d, .p 0, .d, .d, .d, .d, .d, .d, .d, .d, .d, .d, .d, .d, .d, .d, .p 0, .d, .d, .d, .d, .pr0 [0] [] (fun e v => .string (ofI [IntKind.u8.wrap (sHr .u64 n 56), IntKind.u8.wrap (sHr .u64 n 48), IntKind.u8.wrap (sHr .u64 n 40), IntKind.u8.wrap (sHr .u64 n 32), IntKind.u8.wrap (sHr .u64 n 24), IntKind.u8.wrap (sHr .u64 n 16), IntKind.u8.wrap (sHr .u64 n 8), IntKind.u8.wrap (sHr .u64 n 0)])) (fun e v => [some (y0, .row [.int .u8 (IntKind.u8.wrap (sHr .u64 n 56)), .int .u8 (IntKind.u8.wrap (sHr .u64 n 48)), .int .u8 (IntKind.u8.wrap (sHr .u64 n 40)), .int .u8 (IntKind.u8.wrap (sHr .u64 n 32)), .int .u8 (IntKind.u8.wrap (sHr .u64 n 24)), .int .u8 (IntKind.u8.wrap (sHr .u64 n 16)), .int .u8 (IntKind.u8.wrap (sHr .u64 n 8)), .int .u8 (IntKind.u8.wrap (sHr .u64 n 0))] 5 8)]), .d] (.fin [] []))))))) Tryz.func88 (by kernel_rfl) (by kernel_rfl)
    (⟨(mks_ok (e := 5) (by' := 1) (zc := .int .u8 0) (by kernel_rfl) (by kernel_rfl) (by decide) (by decide) (by decide) (by decide)), fun y0 qy0 => ⟨rfl, ⟨rfl, ⟨rfl, ⟨rfl, ⟨rfl, ⟨rfl, ⟨rfl, ⟨rfl, ⟨(b2s_ok (e := 5) (ns := [IntKind.u8.wrap (sHr .u64 n 56), IntKind.u8.wrap (sHr .u64 n 48), IntKind.u8.wrap (sHr .u64 n 40), IntKind.u8.wrap (sHr .u64 n 32), IntKind.u8.wrap (sHr .u64 n 24), IntKind.u8.wrap (sHr .u64 n 16), IntKind.u8.wrap (sHr .u64 n 8), IntKind.u8.wrap (sHr .u64 n 0)]) (by kernel_rfl) (by kernel_rfl) (by kernel_rfl) ⟨rfl, .inr (.inr ⟨_, _, _, rfl, .inl ⟨0, _, _, _, rfl, rfl⟩⟩)⟩ (by simp)), ⟨rfl, (by rfl), (by rfl)⟩⟩⟩⟩⟩⟩⟩⟩⟩⟩⟩)

set_option maxRecDepth 100000 in
set_option maxHeartbeats 4000000 in
theorem back_ok (s : ByteArray) (R : RO) (hs : 8 ≤ s.size) : Gives Tryz.prog 72 [.string s] R [] (.ret (.int .u64 (backF s))) [] :=
  Does.of_wp_eq (VC := (((0 : Int) ≤ 0 ∧ (0 : Int) < (s.size : Int)) ∧ ((0 : Int) ≤ 1 ∧ (1 : Int) < (s.size : Int)) ∧ ((0 : Int) ≤ 2 ∧ (2 : Int) < (s.size : Int)) ∧ ((0 : Int) ≤ 3 ∧ (3 : Int) < (s.size : Int)) ∧ ((0 : Int) ≤ 4 ∧ (4 : Int) < (s.size : Int)) ∧ ((0 : Int) ≤ 5 ∧ (5 : Int) < (s.size : Int)) ∧ ((0 : Int) ≤ 6 ∧ (6 : Int) < (s.size : Int)) ∧ ((0 : Int) ≤ 7 ∧ (7 : Int) < (s.size : Int)) ∧ GQ R (.ret (.int .u64 (backF s))) [] (.ret (.int .u64 (bOr .u64 (sHl .u64 (bOr .u64 (sHl .u64 (bOr .u64 (sHl .u64 (bOr .u64 (sHl .u64 (bOr .u64 (sHl .u64 (bOr .u64 (sHl .u64 (bOr .u64 (sHl .u64 (bOr .u64 0 (IntKind.u64.wrap (bt s 0))) 8) (IntKind.u64.wrap (bt s 1))) 8) (IntKind.u64.wrap (bt s 2))) 8) (IntKind.u64.wrap (bt s 3))) 8) (IntKind.u64.wrap (bt s 4))) 8) (IntKind.u64.wrap (bt s 5))) 8) (IntKind.u64.wrap (bt s 6))) 8) (IntKind.u64.wrap (bt s 7))))) R [])) (ops [.d, .d, .d] (.un 9 (ops [.d, .d, .d, .d, .d, .d, .d, .ix, .d, .d, .d, .d, .d, .d, .d, .d, .d, .d, .d, .d, .ix, .d, .d, .d, .d, .d, .d, .d, .d, .d, .d, .d, .d, .ix, .d, .d, .d, .d, .d, .d, .d, .d, .d, .d, .d, .d, .ix, .d, .d, .d, .d, .d, .d, .d, .d, .d, .d, .d, .d, .ix, .d, .d, .d, .d, .d, .d, .d, .d, .d, .d, .d, .d, .ix, .d, .d, .d, .d, .d, .d, .d, .d, .d, .d, .d, .d, .ix, .d, .d, .d, .d, .d, .d, .d, .d, .d, .d, .d, .d, .ix, .d, .d, .d, .d, .d, .d, .d, .d] (.fin [] [])))) Tryz.func72 (by kernel_rfl) (by kernel_rfl)
    (⟨(by omega), ⟨(by omega), ⟨(by omega), ⟨(by omega), ⟨(by omega), ⟨(by omega), ⟨(by omega), ⟨(by omega), ⟨rfl, (by rfl), (by rfl)⟩⟩⟩⟩⟩⟩⟩⟩⟩)

set_option maxRecDepth 100000 in
set_option maxHeartbeats 4000000 in
theorem text_ok (ma mb mc md : Int) (R : RO)  : Gives Tryz.prog 87 [.agg #[.int .u64 ma, .int .u64 mb, .int .u64 mc, .int .u64 md]] R [] (.ret (.string (markT ma mb mc md))) [] :=
  Does.of_wp_eq (VC := (let z3 := (Gives Tryz.prog 88 [.int .u64 ma] R [] (.ret (.string (numB ma))) []); let z1 := ((⟨#[79, 80, 77, 75]⟩ : ByteArray) ++ (numB ma)); let z0 := ((z1 ++ (numB mb)) ++ (numB mc)); let z2 := (sh32 (joinB [z0 ++ (numB md)])); ∀ a0 : Nat, (a0 = a0) ∧ z3 ∧ ((⟨#[79, 80, 77, 75]⟩ : ByteArray).size + (numB ma).size ≤ 9223372036854775807) ∧ (a0 = a0) ∧ (Gives Tryz.prog 88 [.int .u64 mb] R [] (.ret (.string (numB mb))) []) ∧ (z1.size + (numB mb).size ≤ 9223372036854775807) ∧ (a0 = a0) ∧ (Gives Tryz.prog 88 [.int .u64 mc] R [] (.ret (.string (numB mc))) []) ∧ ((z1 ++ (numB mb)).size + (numB mc).size ≤ 9223372036854775807) ∧ (a0 = a0) ∧ (Gives Tryz.prog 88 [.int .u64 md] R [] (.ret (.string (numB md))) []) ∧ (z0.size + (numB md).size ≤ 9223372036854775807) ∧ ∀ a1 : Nat, (Gives Tryz.prog 89 [.int .i64 32, .slice (some ⟨a1, 0, none⟩) 1 1] R [some (a1, .row [.string (z0 ++ (numB md))] 9 1)] (.ret (.string z2)) [some (a1, .row [.string (z0 ++ (numB md))] 9 1)]) ∧ ((z0 ++ (numB md)).size + z2.size ≤ 9223372036854775807) ∧ (a0 = a0) ∧ z3 ∧ (((z0 ++ (numB md)) ++ z2).size + (numB ma).size ≤ 9223372036854775807) ∧ GQ R (.ret (.string (markT ma mb mc md))) [] (.ret (.string (((z0 ++ (numB md)) ++ z2) ++ (numB ma)))) R [])) (.opn 0 (fun a0 => (ops [.d] (.dr [some (.d), some (.p 0), some (.call0 [] [] (fun e v => .ret (.string (numB ma))) (fun e v => [])), some (.cat), some (.d), some (.p 0), some (.call0 [] [] (fun e v => .ret (.string (numB mb))) (fun e v => [])), some (.cat), some (.d), some (.p 0), some (.call0 [] [] (fun e v => .ret (.string (numB mc))) (fun e v => [])), some (.cat), some (.d), some (.p 0), some (.call0 [] [] (fun e v => .ret (.string (numB md))) (fun e v => [])), some (.cat), some (.d)] (.dr [some (.d), some (.d), some (.n 1), some (.callR [1] (fun e v => .ret (.string (sh32 (joinB [((((⟨#[79, 80, 77, 75]⟩ : ByteArray) ++ (numB ma)) ++ (numB mb)) ++ (numB mc)) ++ (numB md)]))))), some (.cat), some (.d), some (.p 0), some (.call0 [] [] (fun e v => .ret (.string (numB ma))) (fun e v => [])), some (.cat), some (.d)] (.fin [] [])))))) Tryz.func87 (by kernel_rfl) (by kernel_rfl)
    (fun a0 => ⟨rfl, ⟨(num_ok ma R), ⟨(by simp only [ByteArray.size_append, numB_size, sh32_size]; decide), ⟨rfl, ⟨(num_ok mb R), ⟨(by simp only [ByteArray.size_append, numB_size, sh32_size]; decide), ⟨rfl, ⟨(num_ok mc R), ⟨(by simp only [ByteArray.size_append, numB_size, sh32_size]; decide), ⟨rfl, ⟨(num_ok md R), ⟨(by simp only [ByteArray.size_append, numB_size, sh32_size]; decide), fun a1 => ⟨(short_32 a1 1 1 [((((⟨#[79, 80, 77, 75]⟩ : ByteArray) ++ (numB ma)) ++ (numB mb)) ++ (numB mc)) ++ (numB md)] R (show 1 ≤ 1000 by decide) (show 1 ≤ 1 by decide) (by rw [joinB_one]; simp only [ByteArray.size_append, numB_size]; decide)), ⟨(by simp only [ByteArray.size_append, numB_size, sh32_size]; decide), ⟨rfl, ⟨(num_ok ma R), ⟨(by simp only [ByteArray.size_append, numB_size, sh32_size]; decide), ⟨rfl, (by rfl), (by rfl)⟩⟩⟩⟩⟩⟩⟩⟩⟩⟩⟩⟩⟩⟩⟩⟩⟩⟩)

theorem bt_get {s : ByteArray} {k : Nat} (h : k < s.size) : (ints (sI s))[k]? = some (.int .u8 (bt s k)) := by
  have h2 : k < s.data.toList.length := by rw [Array.length_toList]; exact h
  have h3 : k < s.data.size := h
  simp only [ints, sI, List.getElem?_map, List.getElem?_eq_getElem h2, Option.map_some]
  unfold bt
  rw [show s.data[(Int.toNat ((k : Nat) : Int))]? = some s.data[k] from Array.getElem?_eq_getElem h3]
  rfl
theorem cpy_pad {P : Program} {R : RO} {t u ty e by' tb mm g : Nat} {zc : List Value} (s : ByteArray) (ht : P.underlying t = some (.slice e)) (hi : tyI P e = some (1, by', zc)) :
    Prim0 P (.cpy t u ty (.slice (some ⟨g, 0, none⟩) 512 512) (.string s)) R [some (g, .row (blkL (fun _ => 0)) tb mm)] (.int .i64 ((Nat.min s.size 512 : Nat) : Int)) [some (g, .row (blkL (padF s)) tb mm)] := by
  have h := cpy_ok (P := P) (R := R) (t := t) (u := u) (ty := ty) (e := e) (z := 1) (by' := by') (zc := zc) (g := g) (off := 0) (dl := 512) (dc := 512) (n := s.size) (m := mm) (tb := tb) (x := .string s) (cs := blkL (fun _ => 0)) (full := ints (sI s)) (T := [])
    ht hi (Src.string R _ s) (fun v hv => by
      simp only [ints, List.mem_map] at hv
      obtain ⟨x, _, rfl⟩ := hv; rfl) rfl (by rw [blkL_len]; show 0 + min s.size 512 * 1 ≤ 512; omega)
  have he : (blkL (fun _ => 0)).take 0 ++ (ints (sI s)).take (Nat.min s.size 512 * 1) ++ (blkL (fun _ => 0)).drop (0 + Nat.min s.size 512 * 1) = blkL (padF s) := by
    have hm : Nat.min s.size 512 = min s.size 512 := rfl
    have hl : (ints (sI s)).length = s.size := by rw [ints_length, sI_length]
    rw [hm, List.take_zero, List.nil_append, Nat.mul_one, Nat.zero_add]
    apply List.ext_getElem?
    intro k
    by_cases h1 : k < min s.size 512
    · rw [List.getElem?_append_left (by rw [List.length_take, hl]; omega), List.getElem?_take_of_lt h1, bt_get (by omega), blkL_get (by omega)]
      unfold padF; rw [if_pos (by omega)]
    · rw [List.getElem?_append_right (by rw [List.length_take, hl]; omega), List.length_take, hl, List.getElem?_drop]
      by_cases h2 : k < 512
      · rw [blkL_get (by omega), blkL_get h2]
        unfold padF; rw [if_neg (by omega)]
      · rw [List.getElem?_eq_none (by rw [blkL_len]; omega), List.getElem?_eq_none (by rw [blkL_len]; omega)]
  rw [he] at h
  exact h

set_option maxRecDepth 100000 in
set_option maxHeartbeats 4000000 in
theorem block_ok (s : ByteArray) (R : RO)  : Gives Tryz.prog 86 [.string s] R [] (.ret (.agg ((blkL (padF s)).toArray))) [] :=
  Does.of_wp_eq (VC := (∀ a0 : Nat, ∀ a1 : Nat, (Prim0 Tryz.prog (.cpy 91 9 3 (.slice (some ⟨a1, 0, none⟩) 512 512) (.string s)) R [some (a1, .row (blkL (fun _ => 0)) 116 ((blkL (fun _ => 0)).length))] (.int .i64 ((Nat.min s.size 512 : Nat) : Int)) [some (a1, .row (blkL (padF s)) 116 ((blkL (fun _ => 0)).length))]) ∧ (a1 = a1 ∧ readVar Tryz.prog 116 (blkL (padF s)) 0 = some (.agg ((blkL (padF s)).toArray))) ∧ (a0 = a0 ∧ writeVar Tryz.prog 116 (blkL (fun _ => 0)) 0 (.agg ((blkL (padF s)).toArray)) = some (blkL (padF s))) ∧ (a0 = a0 ∧ readVar Tryz.prog 116 (blkL (padF s)) 0 = some (.agg ((blkL (padF s)).toArray))) ∧ GQ R (.ret (.agg ((blkL (padF s)).toArray))) [] (.ret (.agg ((blkL (padF s)).toArray))) R [])) (.opn 0 (fun a0 => (.opn 1 (fun a1 => (ops [.sl0, .d, .pr0 [1] [] (fun e v => .int .i64 ((Nat.min s.size 512 : Nat) : Int)) (fun e v => [some (a1, .row (blkL (padF s)) 116 ((blkL (fun _ => 0)).length))]), .q 1 (fun e v => .agg ((blkL (padF s)).toArray)), .sq 0 (fun e v => blkL (padF s))] (.fin [] [(0, some (.agg ((blkL (padF s)).toArray)))])))))) Tryz.func86 (by kernel_rfl) (by kernel_rfl)
    (fun a0 => fun a1 => ⟨(cpy_pad (e := 5) (by' := 1) (zc := [.int .u8 0]) s (by kernel_rfl) (by kernel_rfl)), ⟨⟨rfl, (read_blk (by kernel_rfl) _)⟩, ⟨⟨rfl, (write_blk (by kernel_rfl) (blkL_len _) _)⟩, ⟨⟨rfl, (read_blk (by kernel_rfl) _)⟩, ⟨rfl, (by rfl), (by rfl)⟩⟩⟩⟩⟩)

theorem tdiv_rng (x : Int) (h : 0 ≤ x) : 0 ≤ Int.tdiv x 512 ∧ Int.tdiv x 512 ≤ x ∧ Int.tdiv x 512 = x / 512 := by
  rw [Int.tdiv_eq_ediv_of_nonneg h]; omega
theorem needI_eq {k : Int} (h : 0 ≤ k) : needI k = (k + 571) / 512 := by
  have := mx_max k 0
  unfold needI
  rw [(tdiv_rng _ (by omega)).2.2, this]
  congr 1
  omega

set_option maxRecDepth 100000 in
set_option maxHeartbeats 4000000 in
theorem need_ok (k : Int) (R : RO) (h0 : -4611686018427387904 ≤ k) (h1 : k ≤ 4611686018427387904) : Gives Tryz.prog 56 [.int .i64 k] R [] (.ret (.int .i64 (needI k))) [] :=
  Does.of_wp_eq (VC := ((IntKind.i64 = IntKind.i64 ∧ IntKind.i64.wrap (60 + (mx k 0)) = 60 + (mx k 0)) ∧ (IntKind.i64 = IntKind.i64 ∧ IntKind.i64.wrap ((60 + (mx k 0)) + 512) = (60 + (mx k 0)) + 512) ∧ (IntKind.i64 = IntKind.i64 ∧ IntKind.i64.wrap (((60 + (mx k 0)) + 512) - 1) = ((60 + (mx k 0)) + 512) - 1) ∧ GQ R (.ret (.int .i64 (needI k))) [] (.ret (.int .i64 (IntKind.i64.wrap (Int.tdiv (((60 + (mx k 0)) + 512) - 1) 512)))) R [])) (ops [.d, .d, .d, .nw, .nw, .nw, .d, .d] (.fin [] [])) Tryz.func56 (by kernel_rfl) (by kernel_rfl)
    (⟨⟨rfl, (wrapI (by have := mx_max k 0; omega) (by have := mx_max k 0; omega))⟩, ⟨⟨rfl, (wrapI (by have := mx_max k 0; omega) (by have := mx_max k 0; omega))⟩, ⟨⟨rfl, (wrapI (by have := mx_max k 0; omega) (by have := mx_max k 0; omega))⟩, ⟨rfl, (by first | rfl | (simp only [needI]; rw [wrapI (by have := mx_max k 0; have := tdiv_rng (60 + mx k 0 + 512 - 1) (by omega); omega) (by have := mx_max k 0; have := tdiv_rng (60 + mx k 0 + 512 - 1) (by omega); omega)])), (by rfl)⟩⟩⟩⟩)

set_option maxRecDepth 100000 in
set_option maxHeartbeats 4000000 in
theorem frame_ok (x n : Int) (t : ByteArray) (R : RO) (ht : t.size ≤ 1000000000) : Gives Tryz.prog 73 [.int .u64 x, .int .u64 n, .string t] R [] (.ret (.string (frameT x n t))) [] :=
  Does.of_wp_eq (VC := (let z3 := (⟨#[79, 80, 70, 82]⟩ : ByteArray); let z0 := ((z3 ++ (numB x)) ++ (numB n)); let z2 := (z0 ++ (numB (t.size : Int))); let z1 := (sh32 (joinB [z0 ++ (numB (t.size : Int)), t])); (Gives Tryz.prog 88 [.int .u64 x] R [] (.ret (.string (numB x))) []) ∧ (z3.size + (numB x).size ≤ 9223372036854775807) ∧ (Gives Tryz.prog 88 [.int .u64 n] R [] (.ret (.string (numB n))) []) ∧ ((z3 ++ (numB x)).size + (numB n).size ≤ 9223372036854775807) ∧ (IntKind.u64.wrap (t.size : Int) = (t.size : Int)) ∧ (Gives Tryz.prog 88 [.int .u64 (t.size : Int)] R [] (.ret (.string (numB (t.size : Int)))) []) ∧ (z0.size + (numB (t.size : Int)).size ≤ 9223372036854775807) ∧ ∀ a0 : Nat, (Gives Tryz.prog 89 [.int .i64 32, .slice (some ⟨a0, 0, none⟩) 2 2] R [some (a0, .row [.string z2, .string t] 9 2)] (.ret (.string z1)) [some (a0, .row [.string z2, .string t] 9 2)]) ∧ (z2.size + z1.size ≤ 9223372036854775807) ∧ ((z2 ++ z1).size + t.size ≤ 9223372036854775807) ∧ GQ R (.ret (.string (frameT x n t))) [] (.ret (.string ((z2 ++ z1) ++ t))) R [])) (ops [.d, .d, .call0 [] [] (fun e v => .ret (.string (numB x))) (fun e v => []), .cat, .d, .call0 [] [] (fun e v => .ret (.string (numB n))) (fun e v => []), .cat, .d, .d, .nw, .call0 [] [] (fun e v => .ret (.string (numB (t.size : Int)))) (fun e v => []), .cat, .d, .d, .d, .d] (.opn 0 (fun a0 => (ops [.call0 [0] [] (fun e v => .ret (.string (sh32 (joinB [(((⟨#[79, 80, 70, 82]⟩ : ByteArray) ++ (numB x)) ++ (numB n)) ++ (numB (t.size : Int)), t])))) (fun e v => [some (a0, .row [.string ((((⟨#[79, 80, 70, 82]⟩ : ByteArray) ++ (numB x)) ++ (numB n)) ++ (numB (t.size : Int))), .string t] 9 2)]), .cat, .d, .cat, .d] (.fin [] []))))) Tryz.func73 (by kernel_rfl) (by kernel_rfl)
    (⟨(num_ok x R), ⟨(by rw [numB_size]; decide), ⟨(num_ok n R), ⟨(by simp only [ByteArray.size_append, numB_size, sh32_size]; rw [show (⟨#[79, 80, 70, 82]⟩ : ByteArray).size = 4 from rfl]; omega), ⟨(wrapU (by omega) (by omega)), ⟨(num_ok (t.size : Int) R), ⟨(by simp only [ByteArray.size_append, numB_size, sh32_size]; rw [show (⟨#[79, 80, 70, 82]⟩ : ByteArray).size = 4 from rfl]; omega), fun a0 => ⟨(short_32 a0 2 2 [(((⟨#[79, 80, 70, 82]⟩ : ByteArray) ++ (numB x)) ++ (numB n)) ++ (numB (t.size : Int)), t] R (show 2 ≤ 1000 by decide) (show 2 ≤ 2 by decide) (by rw [joinB_two]; simp only [ByteArray.size_append, numB_size]; rw [show (⟨#[79, 80, 70, 82]⟩ : ByteArray).size = 4 from rfl]; omega)), ⟨(by simp only [ByteArray.size_append, numB_size, sh32_size]; rw [show (⟨#[79, 80, 70, 82]⟩ : ByteArray).size = 4 from rfl]; omega), ⟨(by simp only [ByteArray.size_append, numB_size, sh32_size]; rw [show (⟨#[79, 80, 70, 82]⟩ : ByteArray).size = 4 from rfl]; omega), ⟨rfl, (by rfl), (by rfl)⟩⟩⟩⟩⟩⟩⟩⟩⟩⟩⟩)

end Go.Proofs.YtlfhlbhgmgkbpaaGreat
