import Derived.Test.YtejpoojgbnppoaaDoorVcM
/- Vc, part P: maps, as lists of what is at each key, with when it was born. -/
set_option linter.unusedVariables false
set_option linter.unusedSimpArgs false
namespace Vc
open Go

def ents {α β : Type} (kf : α → Value) (vf : β → Value) (m : List (α × β × Nat)) : List MapEntry := m.map fun x => { key := kf x.1, val := vf x.2.1, born := x.2.2 }
def aget {α β : Type} [DecidableEq α] : List (α × β × Nat) → α → Option β
  | [], _ => none
  | x :: m, a => if a = x.1 then some x.2.1 else aget m a
def aput {α β : Type} [DecidableEq α] : List (α × β × Nat) → α → β → Nat → List (α × β × Nat)
  | [], a, v, c => [(a, v, c)]
  | x :: m, a, v, c => if a = x.1 then (a, v, x.2.2) :: m else x :: aput m a v c
def adel {α β : Type} [DecidableEq α] : List (α × β × Nat) → α → List (α × β × Nat)
  | [], _ => []
  | x :: m, a => if a = x.1 then m else x :: adel m a
def aclk {α β : Type} [DecidableEq α] (m : List (α × β × Nat)) (a : α) (c : Nat) : Nat := if (aget m a).isSome = true then c else c + 1
def aidx {α β : Type} [DecidableEq α] : List (α × β × Nat) → α → Nat → Option (Nat × β)
  | [], _, _ => none
  | x :: m, a, i => if a = x.1 then some (i, x.2.1) else aidx m a (i + 1)

/-- What a kind of keys must be. -/
structure KeyOK (P : Program) {α : Type} [DecidableEq α] (kt : TypeId) (kf : α → Value) : Prop where
  kd : ∃ d, P.underlying kt = some d ∧ ∀ a b, Instr.sameNow d (kf a) (kf b) = some (decide (a = b))
  bits : ∀ a, Instr.sameBits 10000 (kf a) (kf a) = true
  chk : ∀ a e w, (Instr.checkKey e 10000 kt (kf a)).run P w = .ok () w

theorem aidx_get {α β : Type} [DecidableEq α] : ∀ (m : List (α × β × Nat)) (a : α) (i : Nat), (aidx m a i).map (·.2) = aget m a
  | [], a, i => rfl
  | x :: m, a, i => by
    simp only [aidx, aget]
    split
    · rfl
    · exact aidx_get m a (i + 1)

theorem findNow_ents {α β : Type} [DecidableEq α] {kf : α → Value} {vf : β → Value} {d : TypeDesc} (h : ∀ a b, Instr.sameNow d (kf a) (kf b) = some (decide (a = b))) :
    ∀ (m : List (α × β × Nat)) (a : α) (i : Nat), Instr.findNow d (kf a) (ents kf vf m) i = some ((aidx m a i).map fun x => (x.1, vf x.2))
  | [], a, i => rfl
  | x :: m, a, i => by
    show (match Instr.sameNow d (kf a) (kf x.1) with
      | some true => some (some (i, vf x.2.1))
      | some false => Instr.findNow d (kf a) (ents kf vf m) (i + 1)
      | none => none) = _
    rw [h]
    by_cases he : a = x.1
    · simp [aidx, he]
    · simp only [decide_eq_false he, aidx, if_neg he]
      exact findNow_ents h m a (i + 1)

theorem run_findKey {P : Program} {α β : Type} [DecidableEq α] {kf : α → Value} {vf : β → Value} {kt : TypeId} (hk : KeyOK P kt kf) (m : List (α × β × Nat)) (a : α) (w : World) :
    (Instr.findKey kt (kf a) (ents kf vf m)).run P w = .ok ((aidx m a 0).map fun x => (x.1, vf x.2)) w := by
  obtain ⟨d, h1, h2⟩ := hk.kd
  simp only [Instr.findKey, Sem.run_bind, run_underlying h1, Result.andThen_ok, findNow_ents h2, Sem.run_pure]

/-- What is at a key. -/
theorem look_ok {P : Program} {R : RO} {α β : Type} [DecidableEq α] {kf : α → Value} {vf : β → Value} {t kt et : TypeId} {A clk : Nat} {m : List (α × β × Nat)} {a : α} {z0 : β}
    (ht : P.underlying t = some (.map kt et)) (hk : KeyOK P kt kf) (hz : pureV P (zeroValue et) = some (vf z0)) :
    Prim0 P (.look t (.map (some A)) (kf a) true) R [some (A, .map (ents kf vf m) clk)] (.tuple #[vf ((aget m a).getD z0), .bool (aget m a).isSome]) [some (A, .map (ents kf vf m) clk)] := by
  intro Rx w hR hs
  refine ⟨w, ?_, hs⟩
  have hm : w.heap[A]? = some (.map (ents kf vf m).toArray clk) := hs.own 0 A _ rfl
  have hg : (getObj A).run P w = .ok (.map (ents kf vf m).toArray clk) w := by
    simp [getObj, Sem.run, hm]
  have hf := run_findKey (P := P) (vf := vf) hk m a w
  have hget := aidx_get m a 0
  simp only [PC.sem, Instr.lookup, Sem.run_bind, run_underlying ht, Result.andThen_ok, hg, Sem.run_pure, hk.chk]
  rw [hf]
  cases hi : aidx m a 0 with
  | none =>
    rw [hi] at hget
    simp only [Option.map_none] at hget
    simp [← hget, pureV_run hz]
  | some x =>
    rw [hi] at hget
    simp only [Option.map_some] at hget
    simp [← hget]

theorem look1_ok {P : Program} {R : RO} {α β : Type} [DecidableEq α] {kf : α → Value} {vf : β → Value} {t kt et : TypeId} {A clk : Nat} {m : List (α × β × Nat)} {a : α} {z0 : β}
    (ht : P.underlying t = some (.map kt et)) (hk : KeyOK P kt kf) (hz : pureV P (zeroValue et) = some (vf z0)) :
    Prim0 P (.look t (.map (some A)) (kf a) false) R [some (A, .map (ents kf vf m) clk)] (vf ((aget m a).getD z0)) [some (A, .map (ents kf vf m) clk)] := by
  intro Rx w hR hs
  refine ⟨w, ?_, hs⟩
  have hm : w.heap[A]? = some (.map (ents kf vf m).toArray clk) := hs.own 0 A _ rfl
  have hg : (getObj A).run P w = .ok (.map (ents kf vf m).toArray clk) w := by
    simp [getObj, Sem.run, hm]
  have hf := run_findKey (P := P) (vf := vf) hk m a w
  have hget := aidx_get m a 0
  simp only [PC.sem, Instr.lookup, Sem.run_bind, run_underlying ht, Result.andThen_ok, hg, Sem.run_pure, hk.chk]
  rw [hf]
  cases hi : aidx m a 0 with
  | none =>
    rw [hi] at hget
    simp only [Option.map_none] at hget
    simp [← hget, pureV_run hz]
  | some x =>
    rw [hi] at hget
    simp only [Option.map_some] at hget
    simp [← hget]

theorem ents_length {α β : Type} (kf : α → Value) (vf : β → Value) (m : List (α × β × Nat)) : (ents kf vf m).length = m.length := List.length_map ..

theorem aidx_put {α β : Type} [DecidableEq α] {kf : α → Value} {vf : β → Value} {a : α} {v : β} {c : Nat} : ∀ {m : List (α × β × Nat)} {i : Nat},
    (match aidx m a i with
      | some (j, _) => i ≤ j ∧ j - i < m.length ∧ (∃ u b, m[j - i]? = some (a, u, b)) ∧ (ents kf vf m).modify (j - i) (fun e => { e with key := kf a, val := vf v }) = ents kf vf (aput m a v c) ∧ (ents kf vf m).eraseIdx (j - i) = ents kf vf (adel m a)
      | none => ents kf vf m ++ [{ key := kf a, val := vf v, born := c }] = ents kf vf (aput m a v c) ∧ adel m a = m)
  | [], i => by simp [aidx, aput, ents, adel]
  | x :: m, i => by
    by_cases he : a = x.1
    · simp only [aidx, aput, adel, if_pos he]
      refine ⟨Nat.le_refl _, by simp, ⟨x.2.1, x.2.2, by simp [he]⟩, ?_, ?_⟩
      · simp [ents]
      · simp [ents]
    · simp only [aidx, aput, adel, if_neg he]
      have ih := aidx_put (kf := kf) (vf := vf) (a := a) (v := v) (c := c) (m := m) (i := i + 1)
      cases hi : aidx m a (i + 1) with
      | none =>
        rw [hi] at ih
        simp only at ih ⊢
        exact ⟨by simpa [ents] using ih.1, by rw [ih.2]⟩
      | some y =>
        obtain ⟨j, u⟩ := y
        rw [hi] at ih
        simp only at ih ⊢
        obtain ⟨h1, h2, h3, h4, h5⟩ := ih
        obtain ⟨k, rfl⟩ : ∃ k, j = i + 1 + k := ⟨j - (i + 1), by omega⟩
        have e1 : i + 1 + k - i = k + 1 := by omega
        have e2 : i + 1 + k - (i + 1) = k := by omega
        rw [e1]
        rw [e2] at h2 h3 h4 h5
        refine ⟨by omega, by simp; omega, by simpa using h3, ?_, ?_⟩
        · show _ :: (ents kf vf m).modify k _ = _
          rw [h4]; rfl
        · show _ :: (ents kf vf m).eraseIdx k = _
          rw [h5]; rfl

theorem run_setObj {P : Program} {w : World} {R : RO} {A clk clk' : Nat} {es es' : List MapEntry} {T : Hp} (hs : Sat w R (some (A, .map es clk) :: T)) :
    ∃ w', (setObj A (.map es'.toArray clk')).run P w = .ok () w' ∧ Sat w' R (some (A, .map es' clk') :: T) := by
  have hm : w.heap[A]? = some (.map es.toArray clk) := hs.own 0 A _ rfl
  have hlt := (Array.getElem?_eq_some_iff.1 hm).1
  refine ⟨{ w with heap := w.heap.setIfInBounds A (.map es'.toArray clk') }, ?_, ?_⟩
  · simp [setObj, Sem.run, hm]
  · exact Sat.put_upd (i := 0) (ad := A) (B := .map es clk) (B' := .map es' clk') hs rfl rfl (by simp [Blk.at, hlt]) ⟨rfl, rfl, rfl⟩

/-- What is written at a key. -/
theorem mup_ok {P : Program} {R : RO} {α β : Type} [DecidableEq α] {kf : α → Value} {vf : β → Value} {t kt et : TypeId} {A clk : Nat} {m : List (α × β × Nat)} {a : α} {v : β}
    (ht : P.underlying t = some (.map kt et)) (hk : KeyOK P kt kf) :
    Prim0 P (.mup t (.map (some A)) (kf a) (vf v)) R [some (A, .map (ents kf vf m) clk)] undef [some (A, .map (ents kf vf (aput m a v clk)) (aclk m a clk))] := by
  intro Rx w hR hs
  have hm : w.heap[A]? = some (.map (ents kf vf m).toArray clk) := hs.own 0 A _ rfl
  have hg : (getObj A).run P w = .ok (.map (ents kf vf m).toArray clk) w := by
    simp [getObj, Sem.run, hm]
  have hf := run_findKey (P := P) (vf := vf) hk m a w
  have hget := aidx_get m a 0
  have hput := aidx_put (kf := kf) (vf := vf) (a := a) (v := v) (c := clk) (m := m) (i := 0)
  cases hi : aidx m a 0 with
  | none =>
    rw [hi] at hget hput hf
    simp only [Option.map_none] at hget hf
    obtain ⟨w', h1, h2⟩ := run_setObj (P := P) (es' := ents kf vf (aput m a v clk)) (clk' := clk + 1) hs
    refine ⟨w', ?_, by unfold aclk; rw [← hget]; exact h2⟩
    rw [← hput.1] at h1
    simp only [PC.sem, Instr.mapUpdate, Sem.run_bind, run_underlying ht, Result.andThen_ok, hg, Sem.run_pure, hk.chk]
    rw [hf]
    simp only [Result.andThen_ok]
    rw [show ((ents kf vf m).toArray.push ({ key := kf a, val := vf v, born := clk } : MapEntry)) = (ents kf vf m ++ [({ key := kf a, val := vf v, born := clk } : MapEntry)]).toArray by simp, h1]
    rfl
  | some x =>
    obtain ⟨j, u⟩ := x
    rw [hi] at hget hput hf
    simp only [Option.map_some, Nat.sub_zero] at hget hput hf
    obtain ⟨_, hj, ⟨u', b, hu⟩, h4, _⟩ := hput
    obtain ⟨w', h1, h2⟩ := run_setObj (P := P) (es' := ents kf vf (aput m a v clk)) (clk' := clk) hs
    refine ⟨w', ?_, by unfold aclk; rw [← hget]; exact h2⟩
    have hkey : ((((ents kf vf m).toArray[j]?).map (·.key)).getD (kf a)) = kf a := by
      simp [ents, hu]
    have hstay : (Instr.keyThatStays (kf a) (kf a)).run P w = .ok (kf a) w := by
      unfold Instr.keyThatStays
      rw [if_pos (hk.bits a)]
      rfl
    simp only [PC.sem, Instr.mapUpdate, Sem.run_bind, run_underlying ht, Result.andThen_ok, hg, Sem.run_pure, hk.chk]
    rw [hf]
    simp only [Result.andThen_ok, hkey, Sem.run_bind, hstay]
    rw [show ((ents kf vf m).toArray.modify j fun e => { e with key := kf a, val := vf v }) = ((ents kf vf m).modify j fun e => { e with key := kf a, val := vf v }).toArray by simp, h4, h1]
    rfl

theorem del_ok {P : Program} {R : RO} {α β : Type} [DecidableEq α] [Inhabited β] {kf : α → Value} {vf : β → Value} {t u ty kt et : TypeId} {A clk : Nat} {m : List (α × β × Nat)} {a : α}
    (ht : P.underlying t = some (.map kt et)) (hk : KeyOK P kt kf) :
    Prim0 P (.del t u ty (.map (some A)) (kf a)) R [some (A, .map (ents kf vf m) clk)] undef [some (A, .map (ents kf vf (adel m a)) clk)] := by
  intro Rx w hR hs
  have hm : w.heap[A]? = some (.map (ents kf vf m).toArray clk) := hs.own 0 A _ rfl
  have hg : (getObj A).run P w = .ok (.map (ents kf vf m).toArray clk) w := by
    simp [getObj, Sem.run, hm]
  have hf := run_findKey (P := P) (vf := vf) hk m a w
  have hput := aidx_put (kf := kf) (vf := vf) (a := a) (v := default) (c := clk) (m := m) (i := 0)
  obtain ⟨w', h1, h2⟩ := run_setObj (P := P) (es' := ents kf vf (adel m a)) (clk' := clk) hs
  refine ⟨w', ?_, h2⟩
  cases hi : aidx m a 0 with
  | none =>
    rw [hi] at hput hf
    simp only [Option.map_none] at hf
    rw [hput.2] at h1
    simp only [PC.sem, Builtin.delete_, Sem.run_bind, List.getElem?_toArray, List.getElem?_cons_zero, List.getElem?_cons_succ, run_underlying ht, Result.andThen_ok, hg, Sem.run_pure, hk.chk]
    rw [hf]
    simp only [Result.andThen_ok]
    rw [Sem.run_bind, h1]
    rfl
  | some x =>
    obtain ⟨j, y⟩ := x
    rw [hi] at hput hf
    simp only [Option.map_some, Nat.sub_zero] at hput hf
    obtain ⟨_, hj, _, _, h5⟩ := hput
    simp only [PC.sem, Builtin.delete_, Sem.run_bind, List.getElem?_toArray, List.getElem?_cons_zero, List.getElem?_cons_succ, run_underlying ht, Result.andThen_ok, hg, Sem.run_pure, hk.chk]
    rw [hf]
    simp only [Result.andThen_ok]
    rw [show ((ents kf vf m).toArray.eraseIdxIfInBounds j) = ((ents kf vf m).eraseIdx j).toArray by
      rw [List.eraseIdxIfInBounds_toArray], h5, Sem.run_bind, h1]
    rfl

theorem mlen_ok {P : Program} {R : RO} {α β : Type} {kf : α → Value} {vf : β → Value} {t ty kt et : TypeId} {A clk : Nat} {m : List (α × β × Nat)} (ht : P.underlying t = some (.map kt et)) :
    Prim0 P (.len t ty (.map (some A))) R [some (A, .map (ents kf vf m) clk)] (.int .i64 ((m.length : Nat) : Int)) [some (A, .map (ents kf vf m) clk)] := by
  intro Rx w hR hs
  refine ⟨w, ?_, hs⟩
  have hm : w.heap[A]? = some (.map (ents kf vf m).toArray clk) := hs.own 0 A _ rfl
  have hg : (getObj A).run P w = .ok (.map (ents kf vf m).toArray clk) w := by
    simp [getObj, Sem.run, hm]
  simp only [PC.sem, Builtin.len_, Sem.run_bind, List.getElem?_toArray, List.getElem?_cons_zero, run_underlying ht, Result.andThen_ok, hg, Sem.run_pure]
  simp [goInt, ents_length]

theorem clr_ok {P : Program} {R : RO} {α β : Type} {kf : α → Value} {vf : β → Value} {t ty kt et : TypeId} {A clk : Nat} {m : List (α × β × Nat)} (ht : P.underlying t = some (.map kt et)) :
    Prim0 P (.clr t ty (.map (some A))) R [some (A, .map (ents kf vf m) clk)] undef [some (A, .map (ents kf vf ([] : List (α × β × Nat))) clk)] := by
  intro Rx w hR hs
  have hm : w.heap[A]? = some (.map (ents kf vf m).toArray clk) := hs.own 0 A _ rfl
  have hg : (getObj A).run P w = .ok (.map (ents kf vf m).toArray clk) w := by
    simp [getObj, Sem.run, hm]
  obtain ⟨w', h1, h2⟩ := run_setObj (P := P) (es' := ents kf vf ([] : List (α × β × Nat))) (clk' := clk) hs
  refine ⟨w', ?_, h2⟩
  simp only [PC.sem, Builtin.clear_, Sem.run_bind, List.getElem?_toArray, List.getElem?_cons_zero, run_underlying ht, Result.andThen_ok, hg, Sem.run_pure]
  have h1' : (setObj A (.map #[] clk)).run P w = .ok () w' := h1
  rw [h1']
  rfl

theorem bbeq (a b : ByteArray) : (a == b) = decide (a = b) := by
  obtain ⟨a⟩ := a
  obtain ⟨b⟩ := b
  show (a == b) = _
  by_cases h : a = b
  · subst h; simp
  · rw [decide_eq_false (fun hn => h (by cases hn; rfl)), beq_eq_false_iff_ne]
    exact h
theorem chkInt {P : Program} {kt : TypeId} {k : IntKind} (h : P.underlying kt = some (.int k)) (a : Int) (e : Bool) (w : World) (n : Nat) : (Instr.checkKey e (n + 1) kt (.int k a)).run P w = .ok () w := by
  simp [Instr.checkKey, run_underlying h]
theorem chkStr {P : Program} {kt : TypeId} (h : P.underlying kt = some .string) (a : ByteArray) (e : Bool) (w : World) (n : Nat) : (Instr.checkKey e (n + 1) kt (.string a)).run P w = .ok () w := by
  simp [Instr.checkKey, run_underlying h]
theorem keyInt {P : Program} {kt : TypeId} {k : IntKind} (h : P.underlying kt = some (.int k)) : KeyOK P kt (Value.int k) :=
  ⟨⟨_, h, fun a b => by simp [Instr.sameNow]; rfl⟩, fun a => by simp [Instr.sameBits], fun a e w => chkInt h a e w 9999⟩
theorem keyStr {P : Program} {kt : TypeId} (h : P.underlying kt = some .string) : KeyOK P kt Value.string :=
  ⟨⟨_, h, fun a b => by simp only [Instr.sameNow, bbeq]⟩, fun a => by simp [Instr.sameBits, bbeq], fun a e w => chkStr h a e w 9999⟩
end Vc
