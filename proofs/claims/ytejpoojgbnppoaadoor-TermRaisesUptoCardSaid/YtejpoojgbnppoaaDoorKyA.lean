import Derived.Test.YtejpoojgbnppoaaDoorSrH
import Derived.Test.YtejpoojgbnppoaaDoorVcV
namespace Go.Proofs.YtejpoojgbnppoaaDoor
open Vc Go
set_option linter.unusedVariables false
set_option linter.unusedSimpArgs false

abbrev MPz := List (Int × Int × Nat)
abbrev KS := (Option Nat × Nat) × Nat × List Value
abbrev kHs (bx M SB c : Nat) (m : MPz) (y : KS) : Hp := [some (bx, .row [.map (some M)] 124 1), some (M, .map (ents (Value.int .u32) (Value.int .i64) m) c), some (SB, .row [gsv y.1.1 y.2.1 y.1.2] 54 1), gsb y.1.1 y.2.2 23 (y.1.2 * 1)]
def kJ (pre : List Int) (y : KS) : Prop := y.2.1 = pre.length ∧ y.2.2 = pre.map (Value.int .u32) ∧ (y.1.1 = none ↔ pre = []) ∧ (y.1.1 = none → y.1.2 = 0) ∧ pre.length ≤ y.1.2 ∧ y.1.2 ≤ maxLen
theorem kJ_nil : kJ [] ((none, 0), 0, []) := ⟨rfl, rfl, by simp, by simp, by simp, by simp [maxLen]⟩
theorem kJ_snoc {pre : List Int} {y : KS} {x : Int} {z : Nat × Nat} (h : kJ pre y) (hz : y.2.1 + 1 ≤ z.2 ∧ z.2 ≤ maxLen) : kJ (pre ++ [x]) ((some z.1, z.2), y.2.1 + 1, y.2.2 ++ [.int .u32 x]) :=
  ⟨by show y.2.1 + 1 = _; rw [h.1]; simp, by show y.2.2 ++ _ = _; rw [h.2.1]; simp, by simp, by simp, by show _ ≤ z.2; have := h.1; simp; omega, hz.2⟩
theorem lft_nin {m : MPz} {seen : List Nat} {x : Int × Int × Nat} (h : x ∈ lft m seen) : x.2.2 ∉ seen := by
  have := (List.mem_filter.1 h).2
  simpa using this
theorem lft_lt {m : MPz} {seen : List Nat} {x : Int × Int × Nat} (h : x ∈ lft m seen) : (lft m (seen ++ [x.2.2])).length < (lft m seen).length := by
  have e : lft m (seen ++ [x.2.2]) = (lft m seen).filter fun y => !(y.2.2 == x.2.2) := by
    unfold lft
    rw [List.filter_filter]
    apply List.filter_congr
    intro y _
    by_cases h1 : y.2.2 ∈ seen <;> by_cases h2 : y.2.2 = x.2.2 <;> simp [h1, h2]
  rw [e]
  exact List.length_filter_lt_length_iff_exists.2 ⟨x, h, by simp⟩
theorem nodup_of_map {α β : Type} {f : α → β} {l : List α} (h : (l.map f).Nodup) : l.Nodup := (List.pairwise_map.1 h).imp fun h e => h (by rw [e])
theorem born_one {x z : Int × Int × Nat} : ∀ {m : MPz}, (m.map (·.2.2)).Nodup → x ∈ m → z ∈ m → z.2.2 = x.2.2 → z = x
  | [], _, h, _, _ => by cases h
  | y :: m, hn, hx, hz, he => by
    simp only [List.map_cons, List.nodup_cons] at hn
    rcases List.mem_cons.1 hx with h1 | h1 <;> rcases List.mem_cons.1 hz with h2 | h2
    · rw [h1, h2]
    · exact (hn.1 (by rw [← h1, ← he]; exact List.mem_map_of_mem (f := (·.2.2)) h2)).elim
    · exact (hn.1 (by rw [← h2, he]; exact List.mem_map_of_mem (f := (·.2.2)) h1)).elim
    · exact born_one hn.2 h1 h2 he
theorem len_le {α : Type} [DecidableEq α] : ∀ {l m : List α}, l.Nodup → l ⊆ m → l.length ≤ m.length
  | [], m, _, _ => Nat.zero_le _
  | a :: l, m, hn, hs => by
    rw [List.nodup_cons] at hn
    have ha : a ∈ m := hs (List.mem_cons_self ..)
    have := len_le (l := l) (m := m.erase a) hn.2 fun x hx => (List.mem_erase_of_ne (by intro he; rw [he] at hx; exact hn.1 hx)).2 (hs (List.mem_cons_of_mem _ hx))
    rw [List.length_erase_of_mem ha] at this
    have := List.length_pos_of_mem ha
    simp only [List.length_cons]; omega
theorem vis_perm {m vis : MPz} (h1 : vis ⊆ m) (h2 : (vis.map (·.2.2)).Nodup) {c : Nat} (hS : Stm m c) (h3 : lft m (vis.map (·.2.2)) = []) : (vis.map (·.1)).Perm (m.map (·.1)) := by
  refine List.Perm.map _ ?_
  have hn : vis.Nodup := nodup_of_map h2
  have hm : m.Nodup := nodup_of_map hS.born
  refine (List.perm_ext_iff_of_nodup hn hm).2 fun x => ⟨fun h => h1 h, fun h => ?_⟩
  have h4 : x ∉ lft m (vis.map (·.2.2)) := by rw [h3]; simp
  have h5 : x.2.2 ∈ vis.map (·.2.2) := by
    rcases Classical.em (x.2.2 ∈ vis.map (·.2.2)) with h | h'
    · exact h
    · exact (h4 (List.mem_filter.2 ⟨h, by simpa using h'⟩)).elim
  obtain ⟨z, hz, he⟩ := List.mem_map.1 h5
  have : z = x := born_one hS.born h (h1 hz) he
  rw [← this]; exact hz


theorem ky_lt {m vis : MPz} {seen : List Nat} {c : Nat} (hS : Stm m c) (h1 : vis ⊆ m) (h2 : (vis.map (·.2.2)).Nodup) (h3 : seen = vis.map (·.2.2)) {x : Int × Int × Nat} (hx : x ∈ lft m seen) : (vis.map (·.1)).length < m.length := by
  have hn : (vis ++ [x]).Nodup := by
    refine nodup_of_map (f := (·.2.2)) ?_
    rw [List.map_append, List.nodup_append]
    refine ⟨h2, by simp, fun a ha b hb => ?_⟩
    simp only [List.map_cons, List.map_nil, List.mem_singleton] at hb
    subst hb
    intro he
    exact lft_nin hx (h3 ▸ he ▸ ha)
  have hs : (vis ++ [x]) ⊆ m := fun z hz => by
    rcases List.mem_append.1 hz with h | h
    · exact h1 h
    · simp only [List.mem_singleton] at h; rw [h]; exact (List.mem_filter.1 hx).1
  have := len_le hn hs
  simp at this ⊢
  omega
theorem ky_nodup {vis m : MPz} {seen : List Nat} (h2 : (vis.map (·.2.2)).Nodup) (h3 : seen = vis.map (·.2.2)) {x : Int × Int × Nat} (hx : x ∈ lft m seen) : ((vis ++ [x]).map (·.2.2)).Nodup := by
  rw [List.map_append, List.nodup_append]
  refine ⟨h2, by simp, fun a ha b hb => ?_⟩
  simp only [List.map_cons, List.map_nil, List.mem_singleton] at hb
  subst hb
  intro he
  exact lft_nin hx (h3 ▸ he ▸ ha)
theorem ky_sub {vis m : MPz} {seen : List Nat} (h1 : vis ⊆ m) {x : Int × Int × Nat} (hx : x ∈ lft m seen) : (vis ++ [x]) ⊆ m := fun z hz => by
  rcases List.mem_append.1 hz with h | h
  · exact h1 h
  · simp only [List.mem_singleton] at h; rw [h]; exact (List.mem_filter.1 hx).1

noncomputable def keys1_ok_L1_inv (bx M SB l c : Nat) (m : MPz) (y : KS) (y0 : Nat)  : (List (Int × Int × Nat)) × (List Nat) × KS × (Nat → Value) → St := fun zx => ⟨(.func (.yield l) #[] #[] :: .pointer (some ⟨bx, 0, none⟩) :: undef :: (zx.2.2.2 3) :: .map (some M) :: .pointer (some ⟨y0, 0, none⟩) :: urun zx.2.2.2 6 8 []), [], [some (bx, .row [.map (some M)] 124 1), some (M, .map (ents (Value.int .u32) (Value.int .i64) m) c), some (SB, .row [gsv zx.2.2.1.1.1 zx.2.2.1.2.1 zx.2.2.1.1.2] 54 1), gsb zx.2.2.1.1.1 zx.2.2.1.2.2 23 (zx.2.2.1.1.2 * 1), some (y0, .obj (mit M c zx.2.1))]⟩
def keys1_ok_L1_I (bx M SB l c : Nat) (m : MPz) (y : KS) (y0 : Nat)  (R : RO) : (List (Int × Int × Nat)) × (List Nat) × KS × (Nat → Value) → RO → Prop := fun zx G => G = R ∧ (zx.1 ⊆ m ∧ (zx.1.map (·.2.2)).Nodup ∧ zx.2.1 = zx.1.map (·.2.2) ∧ kJ (zx.1.map (·.1)) zx.2.2.1)
def keys1_ok_L1_mu (bx M SB l c : Nat) (m : MPz) (y : KS) (y0 : Nat)  : (List (Int × Int × Nat)) × (List Nat) × KS × (Nat → Value) → Nat := fun zx => (lft m zx.2.1).length
noncomputable def keys1_ok_L1_K (bx M SB l c : Nat) (m : MPz) (y : KS) (y0 : Nat)  (R : RO) : Exit' → St → RO → Prop := altPost R (.alt ((List (Int × Int × Nat)) × (List Nat) × KS × (Nat → Value)) (fun zx => (zx.1.map (·.1)).Perm (m.map (·.1)) ∧ kJ (zx.1.map (·.1)) zx.2.2.1) (fun zx => (.exit 0, ((keys1_ok_L1_inv bx M SB l c m y y0 zx).up [] [some (bx, .row [.map (some M)] 124 1), some (M, .map (ents (Value.int .u32) (Value.int .i64) m) c), some (SB, .row [gsv zx.2.2.1.1.1 zx.2.2.1.2.1 zx.2.2.1.1.2] 54 1), gsb zx.2.2.1.1.1 zx.2.2.1.2.2 23 (zx.2.2.1.1.2 * 1), some (y0, .obj (mit M c zx.2.1))]))) (fun _ => .altn) .altn)
set_option maxRecDepth 100000 in
set_option maxHeartbeats 4000000 in
theorem keys1_ok_L1_body (bx M SB l c : Nat) (m : MPz) (y : KS) (y0 : Nat)  (R : RO) (hS : Stm m c) (hy : ∀ pre x y, kJ pre y → pre.length < m.length → YDoesJ Tryd.prog l [.int .u32 x] R (kHs bx M SB c m y) (kHs bx M SB c m) (kJ (pre ++ [x]))) (vis : List (Int × Int × Nat)) (seen : List Nat) (yy : KS) (u1 : Nat → Value) (hI : vis ⊆ m ∧ (vis.map (·.2.2)).Nodup ∧ seen = vis.map (·.2.2) ∧ kJ (vis.map (·.1)) yy) : CT Tryd.prog (sub (bodyOf Tryd.f103) [1, 0, 0]) (keys1_ok_L1_inv bx M SB l c m y y0 (vis, seen, yy, u1)) R (LK (keys1_ok_L1_inv bx M SB l c m y y0) (keys1_ok_L1_I bx M SB l c m y y0 R) (keys1_ok_L1_mu bx M SB l c m y y0) (keys1_ok_L1_K bx M SB l c m y y0 R) (vis, seen, yy, u1)) :=
  CT.of_wp_eq (VC := (let z0 := (ents (Value.int .u32) (Value.int .i64) m); let z3 : Hp := [some (M, .map z0 c), some (y0, .obj (mit M c seen))]; (((lft m seen).isEmpty) = true → (Prim0 Tryd.prog (.nxt 0 (.pointer (some ⟨y0, 0, none⟩)) false) R z3 (.tuple #[.bool false]) z3) ∧ LK (keys1_ok_L1_inv bx M SB l c m y y0) (keys1_ok_L1_I bx M SB l c m y y0 R) (keys1_ok_L1_mu bx M SB l c m y y0) (keys1_ok_L1_K bx M SB l c m y y0 R) (vis, seen, yy, u1) (.exit 0) ((keys1_ok_L1_inv bx M SB l c m y y0 (vis, seen, yy, u1)).up [(6, .tuple #[.bool false]), (7, .bool false)] [some (bx, .row [.map (some M)] 124 1), some (M, .map z0 c), some (SB, .row [gsv yy.1.1 yy.2.1 yy.1.2] 54 1), gsb yy.1.1 yy.2.2 23 (yy.1.2 * 1), some (y0, .obj (mit M c seen))]) R) ∧ (((lft m seen).isEmpty) = false → (PrimOK Tryd.prog (.nxt 0 (.pointer (some ⟨y0, 0, none⟩)) false) R z3 ({x : Int × Int × Nat // x ∈ lft m seen}) (fun w53 => True) (fun w53 => (.tuple #[.bool true, .int .u32 w53.1.1, .int .i64 w53.1.2.1], [some (M, .map z0 c), some (y0, .obj (mit M c (seen ++ [w53.1.2.2])))]))) ∧ ∀ w53 : {x : Int × Int × Nat // x ∈ lft m seen}, let z4 : Array Value := #[.int .u32 w53.1.1, .int .i64 w53.1.2.1]; let z2 := (mit M c (seen ++ [w53.1.2.2])); let z1 : List Value := [.func (.yield l) #[] #[], .pointer (some ⟨bx, 0, none⟩), undef, .int .u32 w53.1.1, .map (some M), .pointer (some ⟨y0, 0, none⟩), .tuple #[.bool true, .int .u32 w53.1.1, .int .i64 w53.1.2.1], .bool true, .tuple z4, .int .u32 w53.1.1, .func (.yield l) #[] #[], .int .u32 w53.1.1, .bool true, .bool false]; (True) → (Prim0 Tryd.prog (.ent (.pointer (some ⟨y0, 0, none⟩))) R [some (M, .map z0 c), some (y0, .obj z2)] (.tuple z4) [some (M, .map z0 c), some (y0, .obj z2)]) ∧ (CT Tryd.prog (sub (bodyOf Tryd.f103) [1, 0, 0, 1, 1, 0, 1, 0]) ⟨(.func (.yield l) #[] #[] :: .pointer (some ⟨bx, 0, none⟩) :: undef :: .int .u32 w53.1.1 :: .map (some M) :: .pointer (some ⟨y0, 0, none⟩) :: .tuple #[.bool true, .int .u32 w53.1.1, .int .i64 w53.1.2.1] :: .bool true :: .tuple z4 :: .int .u32 w53.1.1 :: urun u1 10 4 []), [], [some (bx, .row [.map (some M)] 124 1), some (M, .map z0 c), some (SB, .row [gsv yy.1.1 yy.2.1 yy.1.2] 54 1), gsb yy.1.1 yy.2.2 23 (yy.1.2 * 1), some (y0, .obj z2)]⟩ R (altPost R (.alt ({y : KS // kJ (vis.map (·.1) ++ [w53.1.1]) y}) (fun zx => True) (fun zx => (.normal, ⟨z1, [], [some (bx, .row [.map (some M)] 124 1), some (M, .map z0 c), some (SB, .row [gsv zx.1.1.1 zx.1.2.1 zx.1.1.2] 54 1), gsb zx.1.1.1 zx.1.2.2 23 (zx.1.1.2 * 1), some (y0, .obj z2)]⟩)) (fun _ => .altn) .altn))) ∧ (∀ zu54 : {y : KS // kJ (vis.map (·.1) ++ [w53.1.1]) y}, (True) → LK (keys1_ok_L1_inv bx M SB l c m y y0) (keys1_ok_L1_I bx M SB l c m y y0 R) (keys1_ok_L1_mu bx M SB l c m y y0) (keys1_ok_L1_K bx M SB l c m y y0 R) (vis, seen, yy, u1) .normal ⟨z1, [], [some (bx, .row [.map (some M)] 124 1), some (M, .map z0 c), some (SB, .row [gsv zu54.1.1.1 zu54.1.2.1 zu54.1.1.2] 54 1), gsb zu54.1.1.1 zu54.1.2.2 23 (zu54.1.1.2 * 1), some (y0, .obj z2)]⟩ R) ∧ True))) (let y_0 := (ents (Value.int .u32) (Value.int .i64) m); .cs ((lft m seen).isEmpty) (ops [.pr0 [1, 4] [] (fun e v => .tuple #[.bool false]) (fun e v => [some (M, .map y_0 c), some (y0, .obj (mit M c seen))]), .d] (.fin [] [])) (.opp [1, 4] [] ({x : Int × Int × Nat // x ∈ lft m seen}) (fun w53 => True) (fun w53 => (.tuple #[.bool true, .int .u32 w53.1.1, .int .i64 w53.1.2.1], [some (M, .map y_0 c), some (y0, .obj (mit M c (seen ++ [w53.1.2.2])))])) (fun w53 => (ops [.d, .pr0 [1, 4] [] (fun e v => .tuple #[.int .u32 w53.1.1, .int .i64 w53.1.2.1]) (fun e v => [some (M, .map y_0 c), some (y0, .obj (mit M c (seen ++ [w53.1.2.2])))]), .d, .d] (.alt ({y : KS // kJ (vis.map (·.1) ++ [w53.1.1]) y}) (fun zx => True) (fun zx => (.normal, ⟨[.func (.yield l) #[] #[], .pointer (some ⟨bx, 0, none⟩), undef, .int .u32 w53.1.1, .map (some M), .pointer (some ⟨y0, 0, none⟩), .tuple #[.bool true, .int .u32 w53.1.1, .int .i64 w53.1.2.1], .bool true, .tuple #[.int .u32 w53.1.1, .int .i64 w53.1.2.1], .int .u32 w53.1.1, .func (.yield l) #[] #[], .int .u32 w53.1.1, .bool true, .bool false], [], [some (bx, .row [.map (some M)] 124 1), some (M, .map y_0 c), some (SB, .row [gsv zx.1.1.1 zx.1.2.1 zx.1.1.2] 54 1), gsb zx.1.1.1 zx.1.2.2 23 (zx.1.1.2 * 1), some (y0, .obj (mit M c (seen ++ [w53.1.2.2])))]⟩)) (fun zu54 => (.fin [] [])) .altn))))) (by kernel_rfl)
    (⟨fun h52 => ⟨(nxt_done hS (List.isEmpty_iff.1 h52)), altA (fun zw => (vis, seen, yy, zw)) ⟨(show (vis.map (·.1)).Perm (m.map (·.1)) ∧ kJ (vis.map (·.1)) yy from ⟨vis_perm hI.1 hI.2.1 hS (by rw [← hI.2.2.1]; exact List.isEmpty_iff.1 h52), hI.2.2.2⟩), (by show _ = _; kernel_rfl), ⟨(by show _ = _; kernel_rfl), (by show _ = _; kernel_rfl), (by show _ = _; kernel_rfl)⟩⟩⟩, fun h52 => ⟨(nxt_more hS (fun h9 => by rw [h9] at h52; cases h52)), fun w53 qw53 => ⟨(ent_ok hS (List.mem_filter.1 w53.2).1), ⟨CT.of_wpY_eq (VC := (let z1 := (ents (Value.int .u32) (Value.int .i64) m); let z0 : List Value := [.func (.yield l) #[] #[], .pointer (some ⟨bx, 0, none⟩), undef, .int .u32 w53.1.1, .map (some M), .pointer (some ⟨y0, 0, none⟩), .tuple #[.bool true, .int .u32 w53.1.1, .int .i64 w53.1.2.1], .bool true, .tuple #[.int .u32 w53.1.1, .int .i64 w53.1.2.1], .int .u32 w53.1.1, .func (.yield l) #[] #[], .int .u32 w53.1.1, .bool true, .bool false]; (YDoes Tryd.prog l [.int .u32 w53.1.1] R [some (bx, .row [.map (some M)] 124 1), some (M, .map z1 c), some (SB, .row [gsv yy.1.1 yy.2.1 yy.1.2] 54 1), gsb yy.1.1 yy.2.2 23 (yy.1.2 * 1)] ({y : KS // kJ (vis.map (·.1) ++ [w53.1.1]) y}) (fun zu54 => (.bool true, [some (bx, .row [.map (some M)] 124 1), some (M, .map z1 c), some (SB, .row [gsv zu54.1.1.1 zu54.1.2.1 zu54.1.1.2] 54 1), gsb zu54.1.1.1 zu54.1.2.2 23 (zu54.1.1.2 * 1)]))) ∧ ∀ zu54 : {y : KS // kJ (vis.map (·.1) ++ [w53.1.1]) y}, altPost R (.alt ({y : KS // kJ (vis.map (·.1) ++ [w53.1.1]) y}) (fun _ => True) (fun zx => (.normal, ⟨z0, [], [some (bx, .row [.map (some M)] 124 1), some (M, .map z1 c), some (SB, .row [gsv zx.1.1.1 zx.1.2.1 zx.1.1.2] 54 1), gsb zx.1.1.1 zx.1.2.2 23 (zx.1.1.2 * 1), some (y0, .obj (mit M c (seen ++ [w53.1.2.2])))]⟩)) (fun _ => .altn) .altn) .normal ⟨z0, [], [some (bx, .row [.map (some M)] 124 1), some (M, .map z1 c), some (SB, .row [gsv zu54.1.1.1 zu54.1.2.1 zu54.1.1.2] 54 1), gsb zu54.1.1.1 zu54.1.2.2 23 (zu54.1.1.2 * 1), some (y0, .obj (mit M c (seen ++ [w53.1.2.2])))]⟩ R)) (ops [.d, .d] (.opx [0, 1, 2, 3] [] ({y : KS // kJ (vis.map (·.1) ++ [w53.1.1]) y}) (fun zu54 => (.bool true, [some (bx, .row [.map (some M)] 124 1), some (M, .map (ents (Value.int .u32) (Value.int .i64) m) c), some (SB, .row [gsv zu54.1.1.1 zu54.1.2.1 zu54.1.1.2] 54 1), gsb zu54.1.1.1 zu54.1.2.2 23 (zu54.1.1.2 * 1)])) (fun zu54 => (ops [.d] (.fin [] []))))) (by kernel_rfl) (⟨(hy (vis.map (·.1)) w53.1.1 yy hI.2.2.2 (ky_lt hS hI.1 hI.2.1 hI.2.2.1 w53.2)), fun zu54 => Or.inl ⟨rfl, zu54, trivial, rfl, ⟨rfl, rfl, rfl⟩⟩⟩), ⟨fun zu54 qzu54 => LKn (fun zw => ((vis ++ [w53.1]), (seen ++ [w53.1.2.2]), zu54.1, zw)) ⟨⟨rfl, (show (vis ++ [w53.1]) ⊆ m ∧ ((vis ++ [w53.1]).map (·.2.2)).Nodup ∧ (seen ++ [w53.1.2.2]) = (vis ++ [w53.1]).map (·.2.2) ∧ kJ ((vis ++ [w53.1]).map (·.1)) zu54.1 from ⟨ky_sub hI.1 w53.2, ky_nodup hI.2.1 hI.2.2.1 w53.2, (by rw [List.map_append, ← hI.2.2.1]; rfl), (by rw [List.map_append]; exact zu54.2)⟩)⟩, (show (lft m (seen ++ [w53.1.2.2])).length < (lft m seen).length from (lft_lt w53.2)), ⟨rfl, rfl, rfl⟩⟩, trivial⟩⟩⟩⟩⟩)
theorem keys1_ok_L1_ct (bx M SB l c : Nat) (m : MPz) (y : KS) (y0 : Nat)  (R : RO) (hS : Stm m c) (hy : ∀ pre x y, kJ pre y → pre.length < m.length → YDoesJ Tryd.prog l [.int .u32 x] R (kHs bx M SB c m y) (kHs bx M SB c m) (kJ (pre ++ [x]))) (h0 : kJ [] y) : CT Tryd.prog (sub (bodyOf Tryd.f103) [1, 0]) ⟨(.func (.yield l) #[] #[] :: .pointer (some ⟨bx, 0, none⟩) :: undef :: undef :: .map (some M) :: .pointer (some ⟨y0, 0, none⟩) :: uns 8 []), [], [some (bx, .row [.map (some M)] 124 1), some (M, .map (ents (Value.int .u32) (Value.int .i64) m) c), some (SB, .row [gsv y.1.1 y.2.1 y.1.2] 54 1), gsb y.1.1 y.2.2 23 (y.1.2 * 1), some (y0, .obj (mit M c []))]⟩ R (keys1_ok_L1_K bx M SB l c m y y0 R) :=
  CT.loop_eqs (keys1_ok_L1_inv bx M SB l c m y y0) (keys1_ok_L1_I bx M SB l c m y y0 R) (keys1_ok_L1_mu bx M SB l c m y y0) (fun zw => (([] : List (Int × Int × Nat)), ([] : List Nat), y, zw)) (by kernel_rfl) (by kernel_rfl) ⟨rfl, (show ([] : List (Int × Int × Nat)) ⊆ m ∧ (([] : List (Int × Int × Nat)).map (·.2.2)).Nodup ∧ ([] : List Nat) = ([] : List (Int × Int × Nat)).map (·.2.2) ∧ kJ (([] : List (Int × Int × Nat)).map (·.1)) y from ⟨by simp, by simp, rfl, h0⟩)⟩
    (by
      rintro ⟨vis, seen, yy, u1⟩ G hG ⟨rfl, hI⟩
      exact keys1_ok_L1_body bx M SB l c m y y0 _ hS hy vis seen yy u1 hI)
set_option maxRecDepth 100000 in
set_option maxHeartbeats 4000000 in
theorem keys1_ok (bx M SB l c : Nat) (m : MPz) (y : KS) (R : RO) (hS : Stm m c) (hy : ∀ pre x y, kJ pre y → pre.length < m.length → YDoesJ Tryd.prog l [.int .u32 x] R (kHs bx M SB c m y) (kHs bx M SB c m) (kJ (pre ++ [x]))) (h0 : kJ [] y) : GivesX Tryd.prog 103 [.func (.yield l) #[] #[], .pointer (some ⟨bx, 0, none⟩)] R [some (bx, .row [.map (some M)] 124 1), some (M, .map (ents (Value.int .u32) (Value.int .i64) m) c), some (SB, .row [gsv y.1.1 y.2.1 y.1.2] 54 1), gsb y.1.1 y.2.2 23 (y.1.2 * 1)] ({y : KS // ∃ pre : List Int, kJ pre y ∧ pre.Perm (m.map (·.1))}) (fun z => (.tuple #[], [some (bx, .row [.map (some M)] 124 1), some (M, .map (ents (Value.int .u32) (Value.int .i64) m) c), some (SB, .row [gsv z.1.1.1 z.1.2.1 z.1.1.2] 54 1), gsb z.1.1.1 z.1.2.2 23 (z.1.1.2 * 1)])) :=
  Does.of_wp_eq (VC := (let z0 := (ents (Value.int .u32) (Value.int .i64) m); (bx = bx) ∧ (PrimOK Tryd.prog (.rng 124 (.map (some M))) R [some (M, .map z0 c)] (Nat) (fun y0 => True) (fun y0 => (.pointer (some ⟨y0, 0, none⟩), [some (M, .map z0 c), some (y0, .obj (mit M c []))]))) ∧ ∀ y0 : Nat, (True) → (CT Tryd.prog (sub (bodyOf Tryd.f103) [1, 0]) ⟨(.func (.yield l) #[] #[] :: .pointer (some ⟨bx, 0, none⟩) :: undef :: undef :: .map (some M) :: .pointer (some ⟨y0, 0, none⟩) :: uns 8 []), [], [some (bx, .row [.map (some M)] 124 1), some (M, .map z0 c), some (SB, .row [gsv y.1.1 y.2.1 y.1.2] 54 1), gsb y.1.1 y.2.2 23 (y.1.2 * 1), some (y0, .obj (mit M c []))]⟩ R (keys1_ok_L1_K bx M SB l c m y y0 R)) ∧ (∀ x2 : (List (Int × Int × Nat)) × (List Nat) × KS × (Nat → Value), ((x2.1.map (·.1)).Perm (m.map (·.1)) ∧ kJ (x2.1.map (·.1)) x2.2.2.1) → GX R ({y : KS // ∃ pre : List Int, kJ pre y ∧ pre.Perm (m.map (·.1))}) (fun z => (.tuple #[], [some (bx, .row [.map (some M)] 124 1), some (M, .map z0 c), some (SB, .row [gsv z.1.1.1 z.1.2.1 z.1.1.2] 54 1), gsb z.1.1.1 z.1.2.2 23 (z.1.1.2 * 1)])) (.ret (.tuple #[])) R [some (bx, .row [.map (some M)] 124 1), some (M, .map z0 c), some (SB, .row [gsv x2.2.2.1.1.1 x2.2.2.1.2.1 x2.2.2.1.1.2] 54 1), gsb x2.2.2.1.1.1 x2.2.2.1.2.2 23 (x2.2.2.1.1.2 * 1)]) ∧ True)) (ops [.p 0] (.opp [1] [4] (Nat) (fun y0 => True) (fun y0 => (.pointer (some ⟨y0, 0, none⟩), [some (M, .map (ents (Value.int .u32) (Value.int .i64) m) c), some (y0, .obj (mit M c []))])) (fun y0 => (.alt ((List (Int × Int × Nat)) × (List Nat) × KS × (Nat → Value)) (fun zx => (zx.1.map (·.1)).Perm (m.map (·.1)) ∧ kJ (zx.1.map (·.1)) zx.2.2.1) (fun zx => (.exit 0, ((keys1_ok_L1_inv bx M SB l c m y y0 zx).up [] [some (bx, .row [.map (some M)] 124 1), some (M, .map (ents (Value.int .u32) (Value.int .i64) m) c), some (SB, .row [gsv zx.2.2.1.1.1 zx.2.2.1.2.1 zx.2.2.1.1.2] 54 1), gsb zx.2.2.1.1.1 zx.2.2.1.2.2 23 (zx.2.2.1.1.2 * 1), some (y0, .obj (mit M c zx.2.1))]))) (fun x2 => (.fin [0, 1, 2, 3] [])) .altn)))) Tryd.func103 (by kernel_rfl) (by kernel_rfl)
    (⟨rfl, ⟨(rng_ok (k := 23) (e := 3) (by kernel_rfl)), fun y0 qy0 => ⟨keys1_ok_L1_ct bx M SB l c m y y0 R hS hy h0, ⟨fun x2 qx2 => ⟨rfl, ⟨x2.2.2.1, x2.1.map (·.1), qx2.2, qx2.1⟩, (by rfl), (by rfl)⟩, trivial⟩⟩⟩⟩)

end Go.Proofs.YtejpoojgbnppoaaDoor