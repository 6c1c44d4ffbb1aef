import Derived.Test.YtejpoojgbnppoaaDoorVcD
/- Vc, part E: operations on memory; the effect of any operation under a hint. -/
set_option linter.unusedVariables false
set_option linter.unusedSimpArgs false
namespace Vc
open Go

section
variable (P : Program) (o : Oper) (s : St) (R : RO)

/-- A load from, or a store to, a block that is owned. -/
def effP (i : Nat) : Eff := match o.op with
  | .load t a => match ev s.tm a, s.hp.at i with
    | .pointer (some ⟨b, off, none⟩), some (ad, .row cs _ _) => match readVar P t cs off with
      | some v => .det (b = ad) v []
      | none => .no
    | _, _ => .no
  | .store t a x => match ev s.tm a, s.hp.at i with
    | .pointer (some ⟨b, off, none⟩), some (ad, .row cs t' n) => match writeVar P t cs off (ev s.tm x) with
      | some cs' => .det (b = ad) undef [(i, some (ad, .row cs' t' n))]
      | none => .no
    | _, _ => .no
  | _ => .no

theorem effP_ok (i : Nat) : EffOK P o s R (effP P o s i) := by
  unfold effP
  split
  · rename_i t a ho
    split
    · rename_i b off ad cs t' n ha hi
      split
      · rename_i v hv
        refine .det0 fun hb w Rx hR hs => ?_
        subst hb
        unfold execOp
        rw [ho]
        simp only [Instr.loadAt, ha, Instr.sureAddr, Sem.run_bind, Sem.run_pure, Result.andThen_ok,
          run_loadVar_of (P := P) (t := t) (fun i x hx => Blk.cells (hs.own _ _ _ hi) i x hx) hv]
      · exact .no
    · exact .no
  · rename_i t a x ho
    split
    · rename_i b off ad cs t' n ha hi
      split
      · rename_i cs' hv
        refine .det fun hb w Rx hR hs => ?_
        subst hb
        obtain ⟨w', h1, h2⟩ := run_storeVar_of hs hi hv
        refine ⟨w', .inr ⟨?_, rfl⟩, h2⟩
        unfold execOp
        rw [ho]
        simp only [Instr.storeAt, ha, Instr.sureAddr, Sem.run_bind, Sem.run_pure, Result.andThen_ok, h1]
      · exact .no
    · exact .no
  · exact .no

/-- A load of what is claimed to lie there. -/
def effQ (i : Nat) (v : Value) : Eff := match o.op with
  | .load t a => match ev s.tm a, s.hp.at i with
    | .pointer (some ⟨b, off, none⟩), some (ad, .row cs _ _) => .det (b = ad ∧ readVar P t cs off = some v) v []
    | _, _ => .no
  | _ => .no

theorem effQ_ok (i : Nat) (v : Value) : EffOK P o s R (effQ P o s i v) := by
  unfold effQ
  split
  · rename_i t a ho
    split
    · rename_i b off ad cs t' n ha hi
      refine .det0 fun ⟨hb, hv⟩ w Rx hR hs => ?_
      subst hb
      unfold execOp
      rw [ho]
      simp only [Instr.loadAt, ha, Instr.sureAddr, Sem.run_bind, Sem.run_pure, Result.andThen_ok,
        run_loadVar_of (P := P) (t := t) (fun i x hx => Blk.cells (hs.own _ _ _ hi) i x hx) hv]
    · exact .no
  · exact .no

/-- A store, behind which these are claimed to lie there. -/
def effSq (i : Nat) (cs' : List Value) : Eff := match o.op with
  | .store t a x => match ev s.tm a, s.hp.at i with
    | .pointer (some ⟨b, off, none⟩), some (ad, .row cs t' n) => .det (b = ad ∧ writeVar P t cs off (ev s.tm x) = some cs') undef [(i, some (ad, .row cs' t' n))]
    | _, _ => .no
  | _ => .no

theorem effSq_ok (i : Nat) (cs' : List Value) : EffOK P o s R (effSq P o s i cs') := by
  unfold effSq
  split
  · rename_i t a x ho
    split
    · rename_i b off ad cs t' n ha hi
      refine .det fun ⟨hb, hv⟩ w Rx hR hs => ?_
      subst hb
      obtain ⟨w', h1, h2⟩ := run_storeVar_of hs hi hv
      refine ⟨w', .inr ⟨?_, rfl⟩, h2⟩
      unfold execOp
      rw [ho]
      simp only [Instr.storeAt, ha, Instr.sureAddr, Sem.run_bind, Sem.run_pure, Result.andThen_ok, h1]
    · exact .no
  · exact .no

theorem RO.cell_of {R Rx : RO} {H : Hp} {w : World} (hR : R.le Rx) (hs : Sat w Rx H) {ad off : Nat} {cs : List Value} (hc : R.cells ad off cs) :
    ∀ i x, cs[i]? = some x → w.cell? ⟨ad, off + i, none⟩ = some x := by
  obtain ⟨c, t, fr, h1, h2⟩ := hc
  intro i x hx
  have h3 := hs.ro _ _ (hR.mem _ _ h1)
  have hi : i < cs.length := by
    rcases Nat.lt_or_ge i cs.length with h | h
    · exact h
    · simp [List.getElem?_eq_none h] at hx
  rw [← h2, List.getElem?_take_of_lt hi, List.getElem?_drop] at hx
  simpa [World.cell?, h3] using hx

theorem run_loadVar_ro {w : World} {t : TypeId} {ad off : Nat} {cs : List Value} {v : Value}
    (hcell : ∀ i x, cs[i]? = some x → w.cell? ⟨ad, off + i, none⟩ = some x) (hr : readVar P t cs 0 = some v) :
    (loadVar t ⟨ad, off, none⟩).run P w = .ok v w := by
  unfold readVar at hr
  cases hi : tinfo P t with
  | none => simp [hi] at hr
  | some x =>
    obtain ⟨b, n⟩ := x
    obtain ⟨h1, h2⟩ := tinfo_run hi
    cases b with
    | true =>
      simp only [hi, List.drop_zero] at hr
      cases hl : takeL n cs with
      | none => simp [hl] at hr
      | some l =>
        simp [hl] at hr
        subst hr
        obtain ⟨hl1, hl2⟩ := takeL_some hl
        have hlen : l.length = n := by rw [hl1, List.length_take]; omega
        have := run_loadCells_list (P := P) w ⟨ad, off, none⟩ l (fun j x hj => by
          rw [add_eq]
          apply hcell
          have hjl : j < n := by
            rcases Nat.lt_or_ge j n with h | h
            · exact h
            · rw [List.getElem?_eq_none (by omega)] at hj; cases hj
          rw [hl1, List.getElem?_take_of_lt hjl] at hj
          exact hj)
        rw [hlen] at this
        simp [loadVar, h1, h2, this]
    | false =>
      simp only [hi] at hr
      have := hcell _ _ hr
      simp at this
      simp [loadVar, h1, this]

/-- A load from what nobody writes. -/
def effRo (cs : List Value) : Eff := match o.op with
  | .load t a => match ev s.tm a, readVar P t cs 0 with
    | .pointer (some ⟨b, off, none⟩), some v => .det (R.cells b off cs) v []
    | _, _ => .no
  | _ => .no

theorem effRo_ok (cs : List Value) : EffOK P o s R (effRo P o s R cs) := by
  unfold effRo
  split
  · rename_i t a ho
    split
    · rename_i b off v ha hv
      refine .det0 fun hc w Rx hR hs => ?_
      unfold execOp
      rw [ho]
      simp only [Instr.loadAt, ha, Instr.sureAddr, Sem.run_bind, Sem.run_pure, Result.andThen_ok, run_loadVar_ro P (RO.cell_of hR hs hc) hv]
    · exact .no
  · exact .no

/-- The cells of a slice that is written out. -/
def bsl (t : TypeId) (len : Nat) (parts : List (Nat × Value)) : Option (TypeId × Array Value) :=
  match pureV P (underlying t) with
  | some (.slice e) => match pureV P (Go.sizeOf e), pureV P (zeroValue e) with
    | some z, some zv => match Nat.ble 1 (len * z), Nat.ble (len * z) (2 ^ 24) with
      | true, true => match Instr.fill (fun i => some (i * z, z)) ((Array.range (len * z)).map (zv.cells[· % zv.cells.size]!)) parts with
        | some cells => some (e, cells)
        | none => none
      | _, _ => none
    | _, _ => none
  | _ => none

/-- Something new, at a name that is free. -/
def effN (i : Nat) : Eff := match s.hp.at i with
  | some _ => .no
  | none => match o.op with
    | .alloc e => match pureV P (zeroValue e) with
      | some z => .new fun a => (.pointer (some ⟨a, 0, none⟩), [(i, some (a, .row z.cells.toList e z.cells.toList.length))])
      | none => .no
    | .box e x => .new fun a => (.pointer (some ⟨a, 0, none⟩), [(i, some (a, .row (ev s.tm x).cells.toList e (ev s.tm x).cells.toList.length))])
    | .makeMap t none => .new fun a => (.map (some a), [(i, some (a, .map [] 0))])
    | .buildSlice t len parts => match bsl P t len (parts.map fun (i, x) => (i, ev s.tm x)).toList with
      | some (e, cells) => .new fun a => (.slice (some ⟨a, 0, none⟩) len len, [(i, some (a, .row cells.toList e cells.toList.length))])
      | none => .no
    | _ => .no

theorem row_at {w w' : World} {c : Array Value} {t : TypeId} (h : w'.heap = w.heap.push (.cells c t (0, 0))) : (Blk.row c.toList t c.toList.length).at w' w.heap.size :=
  ⟨c, 0, 0, by rw [h]; simp, by simp, List.take_length, by omega⟩

theorem effN_ok (i : Nat) : EffOK P o s R (effN P o s i) := by
  unfold effN
  split
  · exact .no
  · rename_i hi
    split
    · rename_i e ho
      split
      · rename_i z hz
        refine .new fun w Rx hR hs => ⟨w.heap.size, { w with heap := w.heap.push (.cells z.cells e (0, 0)) }, ?_, hs.put_new rfl hi (row_at rfl) ⟨rfl, rfl, rfl⟩⟩
        unfold execOp
        rw [ho]
        simp [Instr.alloc, pureV_run hz w, newVar, newRow]
      · exact .no
    · rename_i e x ho
      refine .new fun w Rx hR hs => ⟨w.heap.size, { w with heap := w.heap.push (.cells (ev s.tm x).cells e (0, 0)) }, ?_, hs.put_new rfl hi (row_at rfl) ⟨rfl, rfl, rfl⟩⟩
      unfold execOp
      rw [ho]
      simp [Instr.box, newVar, newRow]
    · rename_i t ho
      refine .new fun w Rx hR hs => ⟨w.heap.size, { w with heap := w.heap.push (.map #[] 0) }, ?_, hs.put_new rfl hi ?_ ⟨rfl, rfl, rfl⟩⟩
      · unfold execOp
        rw [ho]
        simp [Instr.makeMap]
      · show (_ : Option Obj) = _
        simp
    · rename_i t len parts ho
      split
      · rename_i e cells hb
        refine .new fun w Rx hR hs => ⟨w.heap.size, { w with heap := w.heap.push (.cells cells e (0, 0)) }, ?_, hs.put_new rfl hi (row_at rfl) ⟨rfl, rfl, rfl⟩⟩
        unfold bsl at hb
        split at hb
        · rename_i e' ht
          split at hb
          · rename_i z zv hz hzv
            split at hb
            · rename_i h1 h2
              split at hb
              · rename_i cells' hf
                simp at hb
                obtain ⟨rfl, rfl⟩ := hb
                have h1' := Nat.le_of_ble_eq_true h1
                have h2' := Nat.le_of_ble_eq_true h2
                unfold execOp
                rw [ho]
                simp only [Instr.buildSlice, Sem.run_bind, pureV_run ht w, pureV_run hz w, Result.andThen_ok]
                rw [if_neg (by omega), if_neg (by omega)]
                simp only [Sem.run_bind, pureV_run hzv w, Result.andThen_ok, Sem.run_pure, hf]
                simp [newRow]
              · cases hb
            · cases hb
          · cases hb
        · cases hb
      · exact .no
    · exact .no

/-- Two rows of whole numbers: the same? -/
def vEq : List Value → List Value → Bool
  | [], [] => true
  | .int _ a :: xs, .int _ b :: ys => a == b && vEq xs ys
  | _, _ => false

/-- A row of so many whole numbers of a kind. -/
def IntRow (k : IntKind) (n : Nat) (xs : List Value) : Prop := xs.length = n ∧ ∀ v ∈ xs, ∃ i, v = .int k i

def allP : List Prop → Prop
  | [] => True
  | [p] => p
  | p :: ps => p ∧ allP ps

theorem allP_cons {p : Prop} {ps : List Prop} (h : allP (p :: ps)) : p ∧ allP ps := by
  cases ps with
  | nil => exact ⟨h, trivial⟩
  | cons q qs => exact h

theorem allP_append : ∀ {ps qs : List Prop}, allP (ps ++ qs) → allP ps ∧ allP qs
  | [], qs, h => ⟨trivial, h⟩
  | p :: ps, qs, h => by
    obtain ⟨h1, h2⟩ := allP_cons (ps := ps ++ qs) h
    obtain ⟨h3, h4⟩ := allP_append h2
    refine ⟨?_, h4⟩
    cases ps with
    | nil => exact h1
    | cons q qs => exact ⟨h1, h3⟩

mutual
/-- Are two values the same? By their type, as far as it is of bools, whole numbers, texts, rows of whole numbers, and structs of them. -/
def eqV : Nat → TypeId → Value → Value → Option (List Prop × Bool)
  | 0, _, _, _ => none
  | n + 1, t, x, y => match pureV P (underlying t), x, y with
    | some .bool, .bool a, .bool b => some ([], a == b)
    | some (.int _), .int k a, .int k' b => match decide (k = k') with
      | true => some ([], a == b)
      | false => none
    | some .string, .string a, .string b => some ([], a == b)
    | some (.struct fs), .agg xs, .agg ys => match P.stoodInHeld t with
      | false => eqFs n fs.toList xs.toList ys.toList
      | true => none
    | some (.array m e), .agg xs, .agg ys => match n, pureV P (underlying e), tinfo P e with
      | _ + 1, some (.int k), some (false, 1) => some ([IntRow k m xs.toList, IntRow k m ys.toList], vEq xs.toList ys.toList)
      | _, _, _ => none
    | _, _, _ => none
def eqFs : Nat → List Field → List Value → List Value → Option (List Prop × Bool)
  | 0, _, _, _ => none
  | _ + 1, [], _, _ => some ([], true)
  | n + 1, f :: fs, xs, ys => match decide (f.name ≠ "_"), readVar P f.type xs f.offset, readVar P f.type ys f.offset with
    | true, some a, some b => match eqV n f.type a b, eqFs n fs xs ys with
      | some (ps, p), some (qs, q) => some (ps ++ qs, p && q)
      | _, _ => none
    | _, _, _ => none
end

theorem run_part {t : TypeId} {xs : List Value} {off : Nat} {v : Value} {w : World} (h : readVar P t xs off = some v) : (part t xs.toArray off).run P w = .ok v w := by
  unfold readVar at h
  cases hi : tinfo P t with
  | none => simp [hi] at h
  | some x =>
    obtain ⟨b, n⟩ := x
    obtain ⟨h1, h2⟩ := tinfo_run hi
    cases b with
    | true =>
      simp only [hi] at h
      cases hl : takeL n (xs.drop off) with
      | none => simp [hl] at h
      | some l =>
        simp [hl] at h
        subst h
        obtain ⟨hl1, hl2⟩ := takeL_some hl
        simp only [part, Sem.run_bind, h1, Result.andThen_ok, if_true, h2, Sem.run_pure]
        congr 2
        apply Array.ext'
        simp [hl1, List.take_drop]
    | false =>
      simp only [hi] at h
      simp [part, h1, h]

/-- A round of '==' over a struct's fields. -/
def eqStep (d : Nat) (xs ys : Array Value) (f : Field) (s : Option Bool × Unit) : Sem (ForInStep (Option Bool × Unit)) :=
  if f.name ≠ "_" then do
    let a ← part f.type xs f.offset
    let b ← part f.type ys f.offset
    let r ← Op.equalIn d f.type a b
    if (!r) = true then pure (ForInStep.done (some false, ())) else pure (ForInStep.yield (none, ()))
  else pure (ForInStep.yield (none, ()))

def eqStepA (d : Nat) (xs ys : Array Value) (e n : Nat) (i : Nat) (s : Option Bool × Unit) : Sem (ForInStep (Option Bool × Unit)) := do
  let a ← part e xs (i * n)
  let b ← part e ys (i * n)
  let r ← Op.equalIn d e a b
  if (!r) = true then pure (ForInStep.done (some false, ())) else pure (ForInStep.yield (none, ()))

theorem eq_row {k : IntKind} {e : TypeId} (he : pureV P (underlying e) = some (.int k)) (ht : tinfo P e = some (false, 1)) (d : Nat) (xs ys : Array Value) (w : World) : ∀ (l i : Nat) (us vs : List Value),
    xs.toList.drop i = us → ys.toList.drop i = vs → IntRow k l us → IntRow k l vs →
    (forIn (List.range' i l) ((none : Option Bool), ()) (eqStepA (d + 1) xs ys e 1)).run P w = .ok (if vEq us vs then none else some false, ()) w
  | 0, i, us, vs, h1, h2, ⟨h3, _⟩, ⟨h4, _⟩ => by
    cases List.length_eq_zero_iff.1 h3
    cases List.length_eq_zero_iff.1 h4
    simp [vEq]
  | l + 1, i, [], vs, h1, h2, ⟨h3, _⟩, ⟨h4, _⟩ => by simp at h3
  | l + 1, i, u :: us, [], h1, h2, ⟨h3, _⟩, ⟨h4, _⟩ => by simp at h4
  | l + 1, i, u :: us, v :: vs, h1, h2, ⟨h3, h3'⟩, ⟨h4, h4'⟩ => by
    obtain ⟨a, rfl⟩ := h3' u (List.mem_cons_self ..)
    obtain ⟨b, rfl⟩ := h4' v (List.mem_cons_self ..)
    have g1 : xs.toList[i]? = some (.int k a) := by
      have := congrArg (·[0]?) h1; simpa using this
    have g2 : ys.toList[i]? = some (.int k b) := by
      have := congrArg (·[0]?) h2; simpa using this
    have r1 : (part e xs (i * 1)).run P w = .ok (.int k a) w := by
      have := run_part P (t := e) (xs := xs.toList) (off := i * 1) (v := .int k a) (w := w) (by unfold readVar; rw [ht]; simpa using g1)
      simpa using this
    have r2 : (part e ys (i * 1)).run P w = .ok (.int k b) w := by
      have := run_part P (t := e) (xs := ys.toList) (off := i * 1) (v := .int k b) (w := w) (by unfold readVar; rw [ht]; simpa using g2)
      simpa using this
    have r3 : (Op.equalIn (d + 1) e (.int k a) (.int k b)).run P w = .ok (a == b) w := by
      unfold Op.equalIn
      simp only [Sem.run_bind, pureV_run he w, Result.andThen_ok, if_true, Sem.run_pure]
    have ih := eq_row he ht d xs ys w l (i + 1) us vs (by rw [← List.drop_drop, h1]; rfl) (by rw [← List.drop_drop, h2]; rfl) ⟨by simpa using h3, fun v hv => h3' v (List.mem_cons_of_mem _ hv)⟩ ⟨by simpa using h4, fun v hv => h4' v (List.mem_cons_of_mem _ hv)⟩
    rcases Bool.eq_false_or_eq_true (a == b) with hab | hab
    · have hv : vEq (.int k a :: us) (.int k b :: vs) = vEq us vs := by simp only [vEq, hab, Bool.true_and]
      rw [hab] at r3
      rw [hv]
      simp only [List.range'_succ, List.forIn_cons, Sem.run_bind]
      have e1 : (eqStepA (d + 1) xs ys e 1 i (none, ())).run P w = .ok (ForInStep.yield (none, ())) w := by
        simp only [eqStepA, Sem.run_bind, r1, r2, r3, Result.andThen_ok, Bool.not_true, Bool.false_eq_true, if_false, Sem.run_pure]
      rw [e1]
      exact ih
    · have hv : vEq (.int k a :: us) (.int k b :: vs) = false := by simp only [vEq, hab, Bool.false_and]
      rw [hab] at r3
      rw [hv]
      simp only [List.range'_succ, List.forIn_cons, Sem.run_bind]
      have e1 : (eqStepA (d + 1) xs ys e 1 i (none, ())).run P w = .ok (ForInStep.done (some false, ())) w := by
        simp only [eqStepA, Sem.run_bind, r1, r2, r3, Result.andThen_ok, Bool.not_false, if_true, Sem.run_pure]
      rw [e1]
      rfl

theorem eq_sound : ∀ (n : Nat),
    (∀ (t : TypeId) (x y : Value) (ps : List Prop) (b : Bool) (d : Nat) (w : World), eqV P n t x y = some (ps, b) → allP ps → n ≤ d → (Op.equalIn d t x y).run P w = .ok b w) ∧
    (∀ (fs : List Field) (xs ys : List Value) (ps : List Prop) (b : Bool) (d : Nat) (w : World), eqFs P n fs xs ys = some (ps, b) → allP ps → n ≤ d + 1 →
      (forIn fs ((none : Option Bool), ()) (eqStep d xs.toArray ys.toArray)).run P w = .ok (if b then none else some false, ()) w) := by
  intro n
  induction n with
  | zero => exact ⟨fun _ _ _ _ _ _ _ h => by simp [eqV] at h, fun _ _ _ _ _ _ _ h => by simp [eqFs] at h⟩
  | succ n ih =>
    constructor
    · intro t x y ps b d w h hp hd
      obtain ⟨d, rfl⟩ : ∃ m, d = m + 1 := ⟨d - 1, by omega⟩
      unfold eqV at h
      split at h
      · rename_i a b' ht
        simp at h; obtain ⟨rfl, rfl⟩ := h
        unfold Op.equalIn
        simp only [Sem.run_bind, pureV_run ht w, Result.andThen_ok, Sem.run_pure]
      · rename_i q k a k' b' ht
        split at h
        · rename_i hk
          simp at hk h; subst hk; obtain ⟨rfl, rfl⟩ := h
          unfold Op.equalIn
          simp only [Sem.run_bind, pureV_run ht w, Result.andThen_ok, if_true, Sem.run_pure]
        · cases h
      · rename_i a b' ht
        simp at h; obtain ⟨rfl, rfl⟩ := h
        unfold Op.equalIn
        simp only [Sem.run_bind, pureV_run ht w, Result.andThen_ok, Sem.run_pure]
      · rename_i fs xs ys ht
        split at h
        · rename_i hst
          have := ih.2 fs.toList xs.toList ys.toList ps b d w h hp (by omega)
          unfold Op.equalIn
          simp only [Sem.run_bind, pureV_run ht w, Result.andThen_ok, run_program, hst, Bool.false_eq_true, if_false]
          rw [← Array.forIn_toList]
          have e : (forIn fs.toList ((none : Option Bool), ()) (eqStep d xs.toList.toArray ys.toList.toArray)).run P w = .ok (if b then none else some false, ()) w := this
          simp only [Array.toArray_toList] at e
          unfold eqStep at e
          rw [e]
          cases b <;> rfl
        · cases h
      · rename_i m e xs ys ht
        split at h
        · rename_i n' k he hi
          simp only [Option.some.injEq, Prod.mk.injEq] at h
          obtain ⟨rfl, rfl⟩ := h
          obtain ⟨h1, h2⟩ := hp
          obtain ⟨d, rfl⟩ : ∃ m, d = m + 1 := ⟨d - 1, by omega⟩
          have := eq_row P he hi d xs ys w m 0 xs.toList ys.toList (by simp) (by simp) h1 h2
          unfold Op.equalIn
          simp only [Sem.run_bind, pureV_run ht w, Result.andThen_ok, (tinfo_run hi).2 w]
          rw [Std.Legacy.Range.forIn_eq_forIn_range']
          unfold eqStepA at this
          simp only [Std.Legacy.Range.size, Nat.sub_zero, Nat.add_sub_cancel, Nat.div_one] at this ⊢
          rw [this]
          cases vEq xs.toList ys.toList <;> rfl
        · cases h
      · cases h
    · intro fs xs ys ps b d w h hp hd
      cases fs with
      | nil =>
        simp [eqFs] at h; obtain ⟨rfl, rfl⟩ := h
        simp
      | cons f fs =>
        simp only [eqFs] at h
        split at h
        · rename_i a b' hn ha hb
          split at h
          · rename_i qs q qs' q' h1 h2
            simp only [Option.some.injEq, Prod.mk.injEq] at h
            obtain ⟨rfl, rfl⟩ := h
            obtain ⟨p1, p2⟩ := allP_append hp
            have i1 := ih.1 f.type a b' qs q d w h1 p1 (by omega)
            have i2 := ih.2 fs xs ys qs' q' d w h2 p2 (by omega)
            have hn' : f.name ≠ "_" := by simpa using hn
            simp only [List.forIn_cons, Sem.run_bind]
            have e1 : (eqStep d xs.toArray ys.toArray f (none, ())).run P w = .ok (if (!q) = true then ForInStep.done (some false, ()) else ForInStep.yield (none, ())) w := by
              unfold eqStep
              rw [if_pos hn']
              simp only [Sem.run_bind, run_part P ha, run_part P hb, Result.andThen_ok, i1]
              cases q <;> rfl
            rw [e1]
            cases q with
            | true => simp only [Bool.not_true, Bool.false_eq_true, if_false, Result.andThen_ok, Bool.true_and]; exact i2
            | false => simp
          · cases h
        · cases h

/-- '==' and '!=' of structs and arrays. -/
def effEq : Eff := match o.op with
  | .binOp .eql t x y _ => match ev s.tm x, ev s.tm y, pureV P (eqGuard .eql t x y (ev s.tm x) (ev s.tm y)) with
    | .agg xs, .agg ys, some () => match eqV P 40 t (.agg xs) (.agg ys) with
      | some ([], b) => .val (.bool b)
      | some (ps, b) => .det (allP ps) (.bool b) []
      | none => .no
    | _, _, _ => .no
  | .binOp .neq t x y _ => match ev s.tm x, ev s.tm y, pureV P (eqGuard .neq t x y (ev s.tm x) (ev s.tm y)) with
    | .agg xs, .agg ys, some () => match eqV P 40 t (.agg xs) (.agg ys) with
      | some ([], b) => .val (.bool !b)
      | some (ps, b) => .det (allP ps) (.bool !b) []
      | none => .no
    | _, _, _ => .no
  | _ => .no

theorem effEq_ok : EffOK P o s R (effEq P o s) := by
  unfold effEq
  split
  · rename_i t x y t' ho
    split
    · rename_i xs ys hx hy hg
      have key : ∀ ps b, eqV P 40 t (.agg xs) (.agg ys) = some (ps, b) → allP ps → ∀ w : World, (execOp (ev s.tm) o).run P w = .ok (.value (.bool b)) w := by
        intro ps b he hp w
        refine run_binOp_pure P o ho (pureV_run hg w) ?_
        rw [hx, hy]
        simp only [binOp, Sem.run_bind, Op.equal, (eq_sound P 40).1 t _ _ ps b Op.maxDepth w he hp (by decide), Result.andThen_ok, Sem.run_pure]
      split
      · rename_i b he; exact .val (key [] b he trivial)
      · rename_i ps b hne he; exact .det0 fun hp w Rx hR hs => key ps b he hp w
      · exact .no
    · exact .no
  · rename_i t x y t' ho
    split
    · rename_i xs ys hx hy hg
      have key : ∀ ps b, eqV P 40 t (.agg xs) (.agg ys) = some (ps, b) → allP ps → ∀ w : World, (execOp (ev s.tm) o).run P w = .ok (.value (.bool !b)) w := by
        intro ps b he hp w
        refine run_binOp_pure P o ho (pureV_run hg w) ?_
        rw [hx, hy]
        simp only [binOp, Sem.run_bind, Op.equal, (eq_sound P 40).1 t _ _ ps b Op.maxDepth w he hp (by decide), Result.andThen_ok, Sem.run_pure]
      split
      · rename_i b he; exact .val (key [] b he trivial)
      · rename_i ps b hne he; exact .det0 fun hp w Rx hR hs => key ps b he hp w
      · exact .no
    · exact .no
  · exact .no

/-- What a run of an operation that touches no memory is claimed to come to. -/
def effCv (v : Value) : Eff := .det (∀ w : World, (execOp (ev s.tm) o).run P w = .ok (.value v) w) v []
theorem effCv_ok (v : Value) : EffOK P o s R (effCv P o s v) := .det0 fun h w Rx hR hs => h w

def effCall (fp nn : List Nat) (X : Type) (g : X → Value × Hp) : Eff :=
  match pureE P (execOp (ev s.tm) o), nodupN (fp ++ nn), freshN s.hp nn with
  | some (f, args), true, true => .gen (Does P f args.toList R (fp.map s.hp.at) fun r G B => G = R ∧ ∃ x, r = .ret (g x).1 ∧ B = (g x).2) X (fun _ => True) fun x => ((g x).1, zipU (fp ++ nn) (g x).2)
  | _, _, _ => .no

theorem effCall_ok (fp nn : List Nat) (X : Type) (g : X → Value × Hp) : EffOK P o s R (effCall P o s R fp nn X g) := by
  unfold effCall
  split
  · rename_i f args h1 h2 h3; exact .call h1 h2 h3
  · exact .no

def effCallG (fp nn : List Nat) (X : Type) (q : X → RO → Prop) (g : X → Value × Hp) : Eff :=
  match pureE P (execOp (ev s.tm) o), nodupN (fp ++ nn), freshN s.hp nn with
  | some (f, args), true, true => .genG (Does P f args.toList R (fp.map s.hp.at) fun r G B => ∃ x, q x G ∧ r = .ret (g x).1 ∧ B = (g x).2) X q fun x => ((g x).1, zipU (fp ++ nn) (g x).2)
  | _, _, _ => .no

theorem effCallG_ok (fp nn : List Nat) (X : Type) (q : X → RO → Prop) (g : X → Value × Hp) : EffOK P o s R (effCallG P o s R fp nn X q g) := by
  unfold effCallG
  split
  · rename_i f args h1 h2 h3; exact .callG h1 h2 h3
  · exact .no

def effCall0 (fp nn : List Nat) (r : Out) (B : Hp) : Eff :=
  match pureE P (execOp (ev s.tm) o), nodupN (fp ++ nn), freshN s.hp nn with
  | some (f, args), true, true => match r with
    | .ret v => .det (Gives P f args.toList R (fp.map s.hp.at) (.ret v) B) v (zipU (fp ++ nn) B)
    | .pan v => .panc (Gives P f args.toList R (fp.map s.hp.at) (.pan v) B) v (zipU (fp ++ nn) B)
  | _, _, _ => .no

theorem effCall0_ok (fp nn : List Nat) (r : Out) (B : Hp) : EffOK P o s R (effCall0 P o s R fp nn r B) := by
  unfold effCall0
  split
  · rename_i f args h1 h2 h3
    split
    · exact .call0 h1 h2 h3
    · exact .callp h1 h2 h3
  · exact .no

def effCallR (fp : List Nat) (r : Out) : Eff :=
  match pureE P (execOp (ev s.tm) o), nodupN fp with
  | some (f, args), true => match r with
    | .ret v => .det (Gives P f args.toList R (fp.map s.hp.at) (.ret v) (fp.map s.hp.at)) v []
    | .pan v => .no
  | _, _ => .no

theorem effCallR_ok (fp : List Nat) (r : Out) : EffOK P o s R (effCallR P o s R fp r) := by
  unfold effCallR
  split
  · rename_i f args h1 h2
    split
    · exact .callR h1 h2
    · exact .no
  · exact .no

def effPr (fp nn : List Nat) (X : Type) (q : X → Prop) (g : X → Value × Hp) : Eff :=
  match pcOf (ev s.tm) o, nodupN (fp ++ nn), freshN s.hp nn with
  | some c, true, true => .gen (PrimOK P c R (fp.map s.hp.at) X q g) X q fun x => ((g x).1, zipU (fp ++ nn) (g x).2)
  | _, _, _ => .no

theorem effPr_ok (fp nn : List Nat) (X : Type) (q : X → Prop) (g : X → Value × Hp) : EffOK P o s R (effPr P o s R fp nn X q g) := by
  unfold effPr
  split
  · rename_i c h1 h2 h3; exact .prim h1 h2 h3
  · exact .no

def effPr0 (fp nn : List Nat) (v : Value) (B : Hp) : Eff :=
  match pcOf (ev s.tm) o, nodupN (fp ++ nn), freshN s.hp nn with
  | some c, true, true => .det (Prim0 P c R (fp.map s.hp.at) v B) v (zipU (fp ++ nn) B)
  | _, _, _ => .no

theorem effPr0_ok (fp nn : List Nat) (v : Value) (B : Hp) : EffOK P o s R (effPr0 P o s R fp nn v B) := by
  unfold effPr0
  split
  · rename_i c h1 h2 h3; exact .prim0 h1 h2 h3
  · exact .no

def effPan : Eff := match pureP P (execOp (ev s.tm) o) with
  | some v => .pan v
  | none => .no
theorem effPan_ok : EffOK P o s R (effPan P o s) := by
  unfold effPan
  split
  · rename_i v h; exact .pan (pureP_run h)
  · exact .no

def effDfr : Eff := match pureD P (execOp (ev s.tm) o) with
  | some v => .dfr v
  | none => .no
theorem effDfr_ok : EffOK P o s R (effDfr P o s) := by
  unfold effDfr
  split
  · rename_i v h; exact .dfr (pureD_run h)
  · exact .no

def eff (h : Hint) : Eff := match h with
  | .d => effD P o s
  | .nw => effNw P o s
  | .db b => effDb P o s b
  | .dv => effDv o s
  | .sh => effSh o s
  | .ix => effIx P o s
  | .ss => effSs P o s
  | .sl0 => effSl0 P o s
  | .sl => effSl P o s
  | .ia => effIa P o s
  | .ib B O => effIb P o s B O
  | .p i => effP P o s i
  | .q i v => effQ P o s i (v (adrs s.hp [i]) (opv o s.tm))
  | .sq i cs => effSq P o s i (cs (adrs s.hp [i]) (opv o s.tm))
  | .ro cs => effRo P o s R (cs (opv o s.tm))
  | .n i => effN P o s i
  | .cv v => effCv P o s (v (opv o s.tm))
  | .call fp nn X g => effCall P o s R fp nn X (g (adrs s.hp fp) (opv o s.tm))
  | .callG fp nn X q g => effCallG P o s R fp nn X (q (adrs s.hp fp) (opv o s.tm)) (g (adrs s.hp fp) (opv o s.tm))
  | .call0 fp nn r B => effCall0 P o s R fp nn (r (adrs s.hp fp) (opv o s.tm)) (B (adrs s.hp fp) (opv o s.tm))
  | .callR fp r => effCallR P o s R fp (r (adrs s.hp fp) (opv o s.tm))
  | .pr fp nn X q g => effPr P o s R fp nn X (q (fp.map s.hp.at) (opv o s.tm)) (g (fp.map s.hp.at) (opv o s.tm))
  | .pr0 fp nn v B => effPr0 P o s R fp nn (v (adrs s.hp fp) (opv o s.tm)) (B (adrs s.hp fp) (opv o s.tm))
  | .cat => effCat o s
  | .eqs => effEq P o s
  | .pan => effPan P o s
  | .dfr => effDfr P o s

theorem eff_ok (h : Hint) : EffOK P o s R (eff P o s R h) := by
  cases h with
  | d => exact effD_ok P o s R
  | nw => exact effNw_ok P o s R
  | db b => exact effDb_ok P o s R b
  | dv => exact effDv_ok P o s R
  | sh => exact effSh_ok P o s R
  | ix => exact effIx_ok P o s R
  | ss => exact effSs_ok P o s R
  | sl0 => exact effSl0_ok P o s R
  | sl => exact effSl_ok P o s R
  | ia => exact effIa_ok P o s R
  | ib B O => exact effIb_ok P o s R B O
  | p i => exact effP_ok P o s R i
  | q i v => exact effQ_ok P o s R i _
  | sq i cs => exact effSq_ok P o s R i _
  | ro cs => exact effRo_ok P o s R _
  | n i => exact effN_ok P o s R i
  | cv v => exact effCv_ok P o s R _
  | call fp nn X g => exact effCall_ok P o s R fp nn X _
  | callG fp nn X q g => exact effCallG_ok P o s R fp nn X _ _
  | call0 fp nn r B => exact effCall0_ok P o s R fp nn _ _
  | callR fp r => exact effCallR_ok P o s R fp _
  | pr fp nn X q g => exact effPr_ok P o s R fp nn X _ _
  | pr0 fp nn v B => exact effPr0_ok P o s R fp nn _ _
  | cat => exact effCat_ok P o s R
  | eqs => exact effEq_ok P o s R
  | pan => exact effPan_ok P o s R
  | dfr => exact effDfr_ok P o s R

end
end Vc
