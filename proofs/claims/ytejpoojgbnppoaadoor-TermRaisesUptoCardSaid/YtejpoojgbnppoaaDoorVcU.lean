import Derived.Shelf.SlIterI.Nil
import Derived.Shelf.SortM.Plain
import Derived.Shelf.SortM.SortNone
import Derived.Test.YtejpoojgbnppoaaDoorVcT
import Derived.Test.YtejpoojgbnppoaaDoorVcP
/- Vc, part U: the keys of a map, sorted (keys that are ints). -/
set_option linter.unusedVariables false
set_option linter.unusedSimpArgs false
namespace Vc
open Go Go.RowKit Go.Maps Go.Sort Go.Shelf Go.Proofs

/-- When the entries of a map were born: each ahead of now, no two at once; no key twice. -/
structure Stm {α β : Type} (m : List (α × β × Nat)) (c : Nat) : Prop where
  old : ∀ x ∈ m, x.2.2 < c
  born : (m.map (·.2.2)).Nodup
  keys : (m.map (·.1)).Nodup
theorem Stm.nil {α β : Type} (c : Nat) : Stm ([] : List (α × β × Nat)) c := ⟨by simp, by simp, by simp⟩
theorem mem_adel {α β : Type} [DecidableEq α] {a : α} : ∀ {m : List (α × β × Nat)} {x : α × β × Nat}, x ∈ adel m a → x ∈ m
  | [], x, h => by simp [adel] at h
  | y :: m, x, h => by
    simp only [adel] at h
    split at h
    · exact List.mem_cons_of_mem _ h
    · rcases List.mem_cons.1 h with h | h
      · rw [h]; exact List.mem_cons_self ..
      · exact List.mem_cons_of_mem _ (mem_adel h)
theorem sub_adel {α β : Type} [DecidableEq α] {a : α} : ∀ (m : List (α × β × Nat)), (adel m a).Sublist m
  | [] => by simp [adel]
  | y :: m => by
    simp only [adel]
    split
    · exact List.sublist_cons_self ..
    · exact (sub_adel m).cons_cons y
theorem Stm.del {α β : Type} [DecidableEq α] {m : List (α × β × Nat)} {c : Nat} {a : α} (h : Stm m c) : Stm (adel m a) c :=
  ⟨fun x hx => h.old x (mem_adel hx), h.born.sublist ((sub_adel m).map _), h.keys.sublist ((sub_adel m).map _)⟩
theorem aput_not {α β : Type} [DecidableEq α] {a : α} {v : β} {c : Nat} : ∀ {m : List (α × β × Nat)}, (aget m a).isSome = false → aput m a v c = m ++ [(a, v, c)]
  | [], _ => rfl
  | y :: m, h => by
    simp only [aget] at h
    split at h
    · simp at h
    · rename_i hn
      simp only [aput, if_neg hn, aput_not h, List.cons_append]
theorem aput_has {α β : Type} [DecidableEq α] {a : α} {v : β} {c : Nat} : ∀ {m : List (α × β × Nat)}, (aget m a).isSome = true → (aput m a v c).map (·.2.2) = m.map (·.2.2) ∧ (aput m a v c).map (·.1) = m.map (·.1)
  | [], h => by simp [aget] at h
  | y :: m, h => by
    simp only [aget] at h
    split at h
    · rename_i hn; simp [aput, if_pos hn, hn]
    · rename_i hn
      have := aput_has (v := v) (c := c) h
      simp [aput, if_neg hn, this.1, this.2]
theorem aget_mem {α β : Type} [DecidableEq α] {a : α} : ∀ {m : List (α × β × Nat)}, a ∈ m.map (·.1) → (aget m a).isSome = true
  | [], h => by simp at h
  | y :: m, h => by
    simp only [aget]
    split
    · rfl
    · rename_i hn
      simp only [List.map_cons, List.mem_cons] at h
      exact aget_mem (h.resolve_left hn)
theorem Stm.put {α β : Type} [DecidableEq α] {m : List (α × β × Nat)} {c : Nat} {a : α} {v : β} (h : Stm m c) : Stm (aput m a v c) (aclk m a c) := by
  by_cases hs : (aget m a).isSome = true
  · obtain ⟨h1, h2⟩ := aput_has (v := v) (c := c) hs
    refine ⟨fun x hx => ?_, by rw [h1]; exact h.born, by rw [h2]; exact h.keys⟩
    have : x.2.2 ∈ m.map (·.2.2) := by rw [← h1]; exact List.mem_map_of_mem hx
    obtain ⟨y, hy, he⟩ := List.mem_map.1 this
    have := h.old y hy
    simp only [aclk, if_pos hs]
    omega
  · have hs' : (aget m a).isSome = false := by simpa using hs
    rw [aput_not hs']
    refine ⟨fun x hx => ?_, ?_, ?_⟩
    · simp only [aclk, if_neg hs]
      rcases List.mem_append.1 hx with hx | hx
      · have := h.old x hx; omega
      · simp only [List.mem_singleton] at hx; rw [hx]; exact Nat.lt_succ_self c
    · rw [List.map_append, List.nodup_append]
      refine ⟨h.born, by simp, fun x hx y hy => ?_⟩
      obtain ⟨z, hz, rfl⟩ := List.mem_map.1 hx
      simp only [List.map_cons, List.map_nil, List.mem_singleton] at hy
      have := h.old z hz
      omega
    · rw [List.map_append, List.nodup_append]
      refine ⟨h.keys, by simp, fun x hx y hy => ?_⟩
      simp only [List.map_cons, List.map_nil, List.mem_singleton] at hy
      subst hy
      intro he
      subst he
      exact hs (aget_mem hx)

def sortZ (l : List Int) : List Int := l.mergeSort (fun x y => decide (x ≤ y))
theorem sortZ_perm (l : List Int) : (sortZ l).Perm l := List.mergeSort_perm _ _
theorem sortZ_le (l : List Int) : (sortZ l).Pairwise (fun x y => x ≤ y) := by
  have := List.pairwise_mergeSort (le := fun (x y : Int) => decide (x ≤ y)) (fun a b c h1 h2 => by simp at *; omega) (fun a b => by simp; omega) l
  exact this.imp (fun h => by simpa using h)
theorem sortZ_congr {l k : List Int} (h : l.Perm k) : sortZ l = sortZ k :=
  List.Perm.eq_of_pairwise (le := fun x y => x ≤ y) (fun a b _ _ h1 h2 => by omega) (sortZ_le l) (sortZ_le k) (((sortZ_perm l).trans h).trans (sortZ_perm k).symm)

def nilR : Value → Option (DataW Unit × List MemPlace) := fun _ => some (.nil, [])
def mapD (P : Program) (k : TypeId) (es : List MapEntry) : DataW Unit := .map ((es.map (Go.WideElems.rg P k nilR)).foldr DataW.insert [])

section
variable {P : Program} {β : Type} {vf : β → Value} {m : List (Int × β × Nat)} {c : Nat} {k : TypeId}
theorem rd_ents (hk : P.underlying k = some (.int .i64)) (hr : ∀ x ∈ m, -9223372036854775808 ≤ x.1 ∧ x.1 ≤ 9223372036854775807) {x : Int × β × Nat} (hx : x ∈ m) :
    Go.WideElems.rd P k nilR ⟨.int .i64 x.1, vf x.2.1, x.2.2⟩ = some (.int .i64 x.1, .nil) := by
  have hw : (Lit.int .i64 x.1).wf = true := by
    have := hr x hx
    simp only [Lit.wf, Bool.and_eq_true, decide_eq_true_eq]
    exact ⟨this.1, this.2⟩
  exact Go.WideElems.rd_mk (keyOf_int_mk hk hw) (yv := (.nil, [])) rfl
theorem ents_fit (hk : P.underlying k = some (.int .i64)) (hm : Stm m c) (hr : ∀ x ∈ m, -9223372036854775808 ≤ x.1 ∧ x.1 ≤ 9223372036854775807) (hl : m.length ≤ maxLen) :
    Go.WideElems.Fit P k nilR (ents (Value.int .i64) vf m).toArray c := by
  refine ⟨by simpa [ents] using hl, ⟨fun x hx => ?_, ?_, ?_⟩, fun x hx => ?_⟩
  · simp only [ents, List.mem_map] at hx
    obtain ⟨y, hy, rfl⟩ := hx
    exact hm.old y hy
  · show (((ents (Value.int .i64) vf m).toArray).toList.map (·.born)).Nodup
    simp only [ents, List.map_map]
    exact hm.born
  · show (((ents (Value.int .i64) vf m).toArray).toList.map (·.key)).Nodup
    have : ((ents (Value.int .i64) vf m).toArray).toList.map (·.key) = (m.map (·.1)).map (Value.int .i64) := by simp [ents]
    rw [this]
    exact List.Pairwise.map _ (fun a b h => fun he => h (by simpa using he)) hm.keys
  · simp only [ents, List.mem_map] at hx
    obtain ⟨y, hy, rfl⟩ := hx
    exact ⟨_, rd_ents hk hr hy⟩
theorem ents_keys (hk : P.underlying k = some (.int .i64)) (hr : ∀ x ∈ m, -9223372036854775808 ≤ x.1 ∧ x.1 ≤ 9223372036854775807) :
    (intKeys (mapD P k (ents (Value.int .i64) vf m))).Perm (m.map (·.1)) := by
  unfold mapD intKeys
  refine ((Go.WideShapes.sorted_perm _).map _).trans ?_
  rw [List.map_map]
  have : (ents (Value.int .i64) vf m).map ((fun p : Lit × DataW Unit => intOf p.1) ∘ Go.WideElems.rg P k nilR) = m.map (·.1) := by
    simp only [ents, List.map_map]
    refine List.map_congr_left fun x hx => ?_
    simp only [Function.comp]
    rw [Go.WideElems.rg_of (rd_ents hk hr hx)]
    rfl
  rw [this]

theorem sorted_int_ok {ρk ρs : Ren} (LK : SlLaysZI.n7 P ρk) (LS : SlLaysZI.n6 P ρs) (hs : ∀ n, AnyZI.SortsIn P ρs Fence.wide n)
    (e9 : ∀ args, pureE P (callFunc (ρs.f 9) args) = some (ρs.f 9, args)) (eg : ∀ args, pureE P (callFunc (ρk.f 10) args) = some (ρk.f 10, args))
    {bx M : Nat} {tm : TypeId} {R : RO} (hm : Stm m c) (hr : ∀ x ∈ m, -9223372036854775808 ≤ x.1 ∧ x.1 ≤ 9223372036854775807) (hl : m.length ≤ 1099511627776) (hne : m ≠ []) :
    GivesX P (ρs.f 6) [.func (.func (ρk.f 10)) #[] #[.pointer (some ⟨bx, 0, none⟩)]] R [some (bx, .row [.map (some M)] tm 1), some (M, .map (ents (Value.int .i64) vf m) c)] (Nat × Nat)
      (fun x => (.slice (some ⟨x.1, 0, none⟩) (((sortZ (m.map (·.1))).map (Value.int .i64)).length) x.2, [some (bx, .row [.map (some M)] tm 1), some (M, .map (ents (Value.int .i64) vf m) c), some (x.1, .row ((sortZ (m.map (·.1))).map (Value.int .i64)) (ρs.t 26) x.2)])) := by
  intro Rx w hR hsat
  have hk : P.underlying (ρk.t 26) = some (.int .i64) := LK.t26
  have hbx : (Blk.row [.map (some M)] tm 1).at w bx := hsat.own 0 bx _ rfl
  have hM : w.heap[M]? = some (.map (ents (Value.int .i64) vf m).toArray c) := hsat.own 1 M _ rfl
  have hlb := Blk.at_lt hbx
  have hlM := (Array.getElem?_eq_some_iff.1 hM).1
  have hcell : w.cell? ⟨bx, 0, none⟩ = some (.map (some M)) := Blk.cells hbx 0 _ rfl
  have hlen : (ents (Value.int .i64) vf m).length = m.length := by simp [ents]
  have hown : w.ownsMap P (ρk.t 26) nilR M m.length (mapD P (ρk.t 26) (ents (Value.int .i64) vf m)) :=
    ⟨_, c, hM, ents_fit hk hm hr (by unfold maxLen; omega), by simp [hlen], rfl⟩
  have hperm := ents_keys (P := P) (vf := vf) hk hr
  have hsz : Maps.size (mapD P (ρk.t 26) (ents (Value.int .i64) vf m)) = m.length := by
    have := hperm.length_eq
    simp only [List.length_map] at this
    rw [← this]
    unfold mapD intKeys Maps.size
    simp
  have hseq := AnyZI.keys_gives (ρ := ρk) { LK with } Fence.wide 2 trivial rfl (by omega) bx M m.length _ w hlb hcell hown
  have cS := AnyZI.sorted_in LS Fence.wide 5 trivial trivial trivial trivial rfl (by omega) (hs _) (fun args w => pureE_run (e9 args) w) (ρk.f 10) #[.pointer (some ⟨bx, 0, none⟩)] trivial (fun args w => pureE_run (eg args) w) _ _
    (by rw [hsz]; unfold maxLen; omega) (by rw [hsz]; omega) w hseq
  refine ((callsIn_wide (n := 5)).1 cS).mono ?_
  rintro e w' ⟨v, ss, rfl, hS, hrow, hnil, hb⟩
  have hp := hS.trans hperm
  have hsl : ss.length = m.length := by have := hp.length_eq; simpa using this
  have hse : ss.mergeSort (fun x y => decide (x ≤ y)) = sortZ (m.map (·.1)) := sortZ_congr hp
  rcases hrow.2 with ⟨rfl, hz⟩ | ⟨gb, cap, cur, rfl, hbase, hgb, r1, r2, r3, r4⟩
  · exact (hne (List.eq_nil_of_length_eq_zero (by omega))).elim
  · have hgl := (Array.getElem?_eq_some_iff.1 hgb).1
    have lt : ∀ b x, Rx.mem b = some x → b < w.heap.size := fun b x hb => (Array.getElem?_eq_some_iff.1 (hsat.ro b x hb)).1
    have hlen2 : ((sortZ (m.map (·.1))).map (Value.int .i64)).length = ss.length := by
      rw [List.length_map, (sortZ_perm _).length_eq, List.length_map]; exact hsl.symm
    have hgn : Rx.mem gb = none := by
      cases hx : Rx.mem gb with
      | none => rfl
      | some o => have := lt _ _ hx; omega
    refine ⟨.ret (.slice (some ⟨gb, 0, none⟩) ss.length cap), R, [some (bx, .row [.map (some M)] tm 1), some (M, .map (ents (Value.int .i64) vf m) c), some (gb, .row ((sortZ (m.map (·.1))).map (Value.int .i64)) (ρs.t 26) cap)], Rx, rfl, ⟨rfl, (gb, cap), by rw [hlen2], rfl⟩, .refl hR, ?_⟩
    refine ⟨fun b o hb' => (hb.block b (lt b o hb')).trans (hsat.ro b o hb'), ?_, ?_, ?_, hb.os.trans hsat.os, hb.tape.trans hsat.tape, hb.output.trans hsat.out⟩
    · intro i a B hi
      match i with
      | 0 => simp only [Hp.at, Option.some.injEq, Prod.mk.injEq] at hi; obtain ⟨rfl, rfl⟩ := hi; exact Blk.at_heap hbx (hb.block _ hlb)
      | 1 => simp only [Hp.at, Option.some.injEq, Prod.mk.injEq] at hi; obtain ⟨rfl, rfl⟩ := hi; exact (hb.block _ hlM).trans hM
      | 2 =>
        simp only [Hp.at, Option.some.injEq, Prod.mk.injEq] at hi; obtain ⟨rfl, rfl⟩ := hi
        refine ⟨cur, 0, 0, hgb, by simpa using r3, ?_, fun i _ => by omega⟩
        rw [hlen2]
        rw [Nat.mul_one] at r4
        rw [r4, hse]
      | i + 3 => simp [Hp.at, Hp.at_nil] at hi
    · intro i a B hi
      match i with
      | 0 => simp only [Hp.at, Option.some.injEq, Prod.mk.injEq] at hi; obtain ⟨rfl, rfl⟩ := hi; exact hsat.off 0 _ _ rfl
      | 1 => simp only [Hp.at, Option.some.injEq, Prod.mk.injEq] at hi; obtain ⟨rfl, rfl⟩ := hi; exact hsat.off 1 _ _ rfl
      | 2 => simp only [Hp.at, Option.some.injEq, Prod.mk.injEq] at hi; obtain ⟨rfl, rfl⟩ := hi; exact hgn
      | i + 3 => simp [Hp.at, Hp.at_nil] at hi
    · have hne2 : bx ≠ M := fun he => by have := hsat.one 0 1 bx _ _ rfl (by rw [he]; rfl); omega
      intro i j a B C hi hj
      match i, j with
      | 0, 0 => rfl
      | 1, 1 => rfl
      | 2, 2 => rfl
      | 0, 1 => simp only [Hp.at, Option.some.injEq, Prod.mk.injEq] at hi hj; omega
      | 1, 0 => simp only [Hp.at, Option.some.injEq, Prod.mk.injEq] at hi hj; omega
      | 0, 2 => simp only [Hp.at, Option.some.injEq, Prod.mk.injEq] at hi hj; omega
      | 2, 0 => simp only [Hp.at, Option.some.injEq, Prod.mk.injEq] at hi hj; omega
      | 1, 2 => simp only [Hp.at, Option.some.injEq, Prod.mk.injEq] at hi hj; omega
      | 2, 1 => simp only [Hp.at, Option.some.injEq, Prod.mk.injEq] at hi hj; omega
      | i + 3, _ => simp [Hp.at, Hp.at_nil] at hi
      | _, j + 3 => simp [Hp.at, Hp.at_nil] at hj

theorem sorted_int_none {ρk ρs : Ren} (LK : SlLaysZI.n7 P ρk) (LS : SlLaysZI.n6 P ρs) (hs : ∀ n, AnyZI.SortsIn P ρs Fence.wide n)
    (e9 : ∀ args, pureE P (callFunc (ρs.f 9) args) = some (ρs.f 9, args)) (eg : ∀ args, pureE P (callFunc (ρk.f 10) args) = some (ρk.f 10, args))
    {bx M : Nat} {tm : TypeId} {R : RO} :
    Gives P (ρs.f 6) [.func (.func (ρk.f 10)) #[] #[.pointer (some ⟨bx, 0, none⟩)]] R [some (bx, .row [.map (some M)] tm 1), some (M, .map (ents (Value.int .i64) vf []) c)]
      (.ret (.slice none 0 0)) [some (bx, .row [.map (some M)] tm 1), some (M, .map (ents (Value.int .i64) vf []) c)] := by
  intro Rx w hR hsat
  have hk : P.underlying (ρk.t 26) = some (.int .i64) := LK.t26
  have hbx : (Blk.row [.map (some M)] tm 1).at w bx := hsat.own 0 bx _ rfl
  have hM : w.heap[M]? = some (.map (ents (Value.int .i64) vf []).toArray c) := hsat.own 1 M _ rfl
  have hlb := Blk.at_lt hbx
  have hlM := (Array.getElem?_eq_some_iff.1 hM).1
  have hcell : w.cell? ⟨bx, 0, none⟩ = some (.map (some M)) := Blk.cells hbx 0 _ rfl
  have hown : w.ownsMap P (ρk.t 26) nilR M 0 (mapD P (ρk.t 26) (ents (Value.int .i64) vf [])) :=
    ⟨_, c, hM, ents_fit hk (Stm.nil c) (by simp) (by unfold maxLen; simp), by simp [ents], rfl⟩
  have hseq := AnyZI.keys_gives (ρ := ρk) { LK with } Fence.wide 2 trivial rfl (by omega) bx M 0 _ w hlb hcell hown
  have cS := AnyZI.sorted_in LS Fence.wide 5 trivial trivial trivial trivial rfl (by omega) (hs _) (fun args w => pureE_run (e9 args) w) (ρk.f 10) #[.pointer (some ⟨bx, 0, none⟩)] trivial (fun args w => pureE_run (eg args) w) _ _
    (by simp [mapD, ents, Maps.size]) (by simp [mapD, ents, Maps.size]) w hseq
  refine ((callsIn_wide (n := 5)).1 cS).mono ?_
  rintro e w' ⟨v, ss, rfl, hS, hrow, hnil, hb⟩
  have hss : ss = [] := List.perm_nil.1 (by simpa [mapD, ents, intKeys] using hS)
  have hv := hnil.2 hss
  subst hv
  have lt : ∀ b x, Rx.mem b = some x → b < w.heap.size := fun b x hb => (Array.getElem?_eq_some_iff.1 (hsat.ro b x hb)).1
  refine ⟨.ret (.slice none 0 0), R, _, Rx, rfl, ⟨rfl, rfl, rfl⟩, .refl hR, ?_⟩
  refine ⟨fun b o hb' => (hb.block b (lt b o hb')).trans (hsat.ro b o hb'), fun i a B hi => ?_, hsat.off, hsat.one, hb.os.trans hsat.os, hb.tape.trans hsat.tape, hb.output.trans hsat.out⟩
  have h0 := hsat.own i a B hi
  exact Blk.at_heap h0 (hb.block _ (Blk.at_lt h0))
end
end Vc
