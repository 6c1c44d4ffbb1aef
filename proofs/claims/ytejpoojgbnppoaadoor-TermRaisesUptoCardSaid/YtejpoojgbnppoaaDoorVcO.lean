import Derived.Test.YtejpoojgbnppoaaDoorVcL
import Derived.Test.YtejpoojgbnppoaaDoorRows
/- Vc, part O: what came in, with a bound for all lengths (the second form of a statement). -/
set_option linter.unusedVariables false
set_option linter.unusedSimpArgs false
namespace Vc.B
open Go Vc Go.Proofs.YtejpoojgbnppoaaDoor

theorem one_le {H : Type} (d : DataW H) : 1 ≤ Rows.uptoBulk d := by
  cases d with
  | lit l => cases l <;> simp [Rows.uptoBulk]
  | _ => simp [Rows.uptoBulk]
theorem part_le {H : Type} {d : DataW H} {l : List (DataW H)} (h : d ∈ l) : Rows.uptoBulk d ≤ Rows.uptoBulkAll l := by
  induction l with
  | nil => cases h
  | cons x r ih =>
    simp only [Rows.uptoBulkAll]
    rcases List.mem_cons.1 h with rfl | e
    · omega
    · have := ih e; omega
theorem length_le {H : Type} (l : List (DataW H)) : l.length ≤ Rows.uptoBulkAll l := by
  induction l with
  | nil => simp [Rows.uptoBulkAll]
  | cons x r ih => have := one_le x; simp only [Rows.uptoBulkAll, List.length_cons]; omega
def FitC (N : Nat) (P : Program) (R : RO) : Nat → TypeId → List Value → Prop
  | 0, _, _ => False
  | n + 1, t, cs => match P.underlying t with
    | some .bool => ∃ b, cs = [.bool b]
    | some (.int k) => ∃ i, cs = [.int k i] ∧ k.min ≤ i ∧ i ≤ k.max
    | some .string => ∃ s, cs = [.string s] ∧ s.size ≤ N
    | some (.slice e) => ∃ a len cap, cs = [.slice a len cap] ∧ len ≤ cap ∧ cap ≤ N ∧
        ∀ i, i < len → ∃ b off ecs, a = some ⟨b, off, none⟩ ∧ R.cells b (off + i * P.cellsOf e) ecs ∧ ecs.length = P.cellsOf e ∧ FitC N P R n e ecs
    | some (.struct fs) => cs.length = P.cellsOf t ∧ ∀ f ∈ fs.toList, FitC N P R n f.type ((cs.drop f.offset).take (P.cellsOf f.type))
    | some (.array m e) => cs.length = P.cellsOf t ∧ ∀ i, i < m → FitC N P R n e ((cs.drop (i * P.cellsOf e)).take (P.cellsOf e))
    | _ => False

theorem fit_of_trod {N : Nat} {H : Type} {enc : TypeId × Value → H} {P : Program} {w : World} {held : Bool} : ∀ (k fuel : Nat) (t : TypeId) (cs : List Value) (x : DataW H × List MemPlace),
    plainT P k t = true → DataW.trod enc P w 0 (fun _ => true) held fuel t cs = some x → Rows.uptoBulk x.1 ≤ N → FitC N P (memRO w) k t cs
  | 0, fuel, t, cs, x, hp, h, hN => by simp [plainT] at hp
  | k + 1, 0, t, cs, x, hp, h, hN => by simp [DataW.trod] at h
  | k + 1, fuel + 1, t, cs, x, hp, h, hN => by
    unfold plainT at hp
    unfold FitC
    cases hu : P.underlying t with
    | none => simp [hu] at hp
    | some d =>
      cases d with
      | bool =>
        rcases cs with _ | ⟨v, _ | ⟨u, l⟩⟩ <;> simp [DataW.trod, hu] at h
        cases v <;> simp [hu] at h
        exact ⟨_, rfl⟩
      | int q =>
        rcases cs with _ | ⟨v, _ | ⟨u, l⟩⟩ <;> simp [DataW.trod, hu] at h
        cases v <;> simp [hu] at h
        obtain ⟨⟨rfl, h1⟩, _⟩ := h
        simp [Lit.wf] at h1
        exact ⟨_, rfl, h1.1, h1.2⟩
      | string =>
        rcases cs with _ | ⟨v, _ | ⟨u, l⟩⟩ <;> simp [DataW.trod, hu] at h
        cases v <;> simp [hu] at h
        obtain ⟨h1, rfl⟩ := h
        refine ⟨_, rfl, ?_⟩
        simp only [Rows.uptoBulk] at hN
        rename_i sx
        have : sx.data.toList.length = sx.size := Array.length_toList
        omega
      | slice e =>
        simp only [hu, Bool.and_eq_true] at hp
        have hz : 0 < P.cellsOf e := by simpa using hp.1
        rcases cs with _ | ⟨v, _ | ⟨u, l⟩⟩ <;> simp [DataW.trod, hu] at h
        cases v with
        | slice a len cap =>
          cases a with
          | none =>
            cases len <;> cases cap <;> simp at h
            exact ⟨none, 0, 0, rfl, Nat.le_refl _, Nat.zero_le _, fun i hi => by omega⟩
          | some a =>
            simp only at h
            split at h
            · rename_i hc
              cases hm : (List.range len).mapM (fun i => (w.cells? 0 (a.add (i * P.cellsOf e)) (P.cellsOf e)).bind (DataW.trod enc P w 0 (fun _ => true) held fuel e)) with
              | none => rw [hm] at h; simp at h
              | some ys =>
                rw [hm] at h
                simp only [Option.bind_some, if_true] at h
                obtain ⟨rest, hr, rfl⟩ := Option.map_eq_some_iff.1 h
                have hl1 := (mapM_length hm).1
                have hl2 := (mapM_length hr).1
                have hb1 := length_le (ys.map (·.1))
                have hb2 := length_le (rest.map (·.1))
                simp only [Rows.uptoBulk] at hN
                simp only [List.length_range, List.length_map] at hl1 hl2 hb1 hb2
                refine ⟨some a, len, cap, rfl, hc.1, by omega, fun i hi => ?_⟩
                have h0 : a.spot = none := by
                  obtain ⟨y, hy⟩ := mapM_get hm 0 (by simp; omega)
                  rw [Nat.zero_mul, add_zero] at hy
                  cases hq : w.cells? 0 a (P.cellsOf e) with
                  | none => rw [hq] at hy; cases hy
                  | some ecs => exact (cells_of hz hq).1
                have ha : a = ⟨a.block, a.off, none⟩ := by
                  cases a; simp at h0; subst h0; rfl
                obtain ⟨y, hy⟩ := mapM_get hm i (by simpa using hi)
                have hym : y ∈ ys := by
                  have h7 : i < ys.length := by omega
                  have := (mapM_length hm).2 i i ys[i] (by simp [hi]) (by simp [h7])
                  rw [hy] at this; cases this; exact List.getElem_mem ..
                have hyb := part_le (List.mem_map.2 ⟨y, hym, rfl⟩ : y.1 ∈ ys.map (·.1))
                cases hq : w.cells? 0 (a.add (i * P.cellsOf e)) (P.cellsOf e) with
                | none => rw [hq] at hy; cases hy
                | some ecs =>
                  rw [hq] at hy
                  obtain ⟨_, q2, q3⟩ := cells_of hz hq
                  rw [ha, add_eq] at q3
                  exact ⟨a.block, a.off, ecs, congrArg some ha, q3, q2, fit_of_trod k fuel e ecs y hp.2 hy (by omega)⟩
            · cases h
        | _ => simp at h
      | struct fs =>
        simp only [hu, List.all_eq_true] at hp
        have h' : (if cs.length = P.cellsOf t then (fs.toList.mapM fun f => DataW.trod enc P w 0 (fun _ => true) held fuel f.type ((cs.drop f.offset).take (P.cellsOf f.type))).map fun xs => (DataW.agg (xs.map (·.1)), xs.flatMap (·.2)) else none) = some x := by
          rw [← h]
          conv => rhs; unfold DataW.trod
          simp only [hu]
        split at h'
        · rename_i hl
          cases hm : fs.toList.mapM (fun f => DataW.trod enc P w 0 (fun _ => true) held fuel f.type ((cs.drop f.offset).take (P.cellsOf f.type))) with
          | none => simp [hm] at h'
          | some ys =>
            refine ⟨hl, fun f hf => ?_⟩
            obtain ⟨q, hq, rfl⟩ := List.mem_iff_getElem.1 hf
            have h7 : q < ys.length := by rw [(mapM_length hm).1]; exact hq
            have hy := (mapM_length hm).2 q _ ys[q] (List.getElem?_eq_getElem hq) (by simp [h7])
            rw [hm] at h'
            simp only [Option.map_some, Option.some.injEq] at h'
            subst h'
            simp only [Rows.uptoBulk] at hN
            have hyb := part_le (List.mem_map.2 ⟨ys[q], List.getElem_mem .., rfl⟩ : ys[q].1 ∈ ys.map (·.1))
            exact fit_of_trod k fuel _ _ ys[q] (hp _ (List.getElem_mem ..)) hy (by omega)
        · cases h'
      | array m e =>
        simp only [hu] at hp
        have h' : (if cs.length = P.cellsOf t then ((List.range m).mapM fun i => DataW.trod enc P w 0 (fun _ => true) held fuel e ((cs.drop (i * P.cellsOf e)).take (P.cellsOf e))).map fun xs => (DataW.agg (xs.map (·.1)), xs.flatMap (·.2)) else none) = some x := by
          rw [← h]
          conv => rhs; unfold DataW.trod
          simp only [hu]
        split at h'
        · rename_i hl
          cases hm : (List.range m).mapM (fun i => DataW.trod enc P w 0 (fun _ => true) held fuel e ((cs.drop (i * P.cellsOf e)).take (P.cellsOf e))) with
          | none => simp [hm] at h'
          | some ys =>
            refine ⟨hl, fun i hi => ?_⟩
            have h7 : i < ys.length := by rw [(mapM_length hm).1]; simpa using hi
            have hy := (mapM_length hm).2 i i ys[i] (by simp [hi]) (by simp [h7])
            rw [hm] at h'
            simp only [Option.map_some, Option.some.injEq] at h'
            subst h'
            simp only [Rows.uptoBulk] at hN
            have hyb := part_le (List.mem_map.2 ⟨ys[i], List.getElem_mem .., rfl⟩ : ys[i].1 ∈ ys.map (·.1))
            exact fit_of_trod k fuel e _ ys[i] hp hy (by omega)
        · cases h'
      | _ => simp [hu] at hp

def FitV (N : Nat) (P : Program) (R : RO) (k : Nat) (t : TypeId) (v : Value) : Prop :=
  match P.underlying t with
  | some (.struct _) | some (.array _ _) => ∃ cs, v = .agg cs ∧ FitC N P R k t cs.toList
  | _ => FitC N P R k t [v]

def FitAll (N : Nat) (P : Program) (R : RO) (k : Nat) : List TypeId → List Value → Prop
  | [], vs => vs = []
  | t :: ts, vs => ∃ v ws, vs = v :: ws ∧ FitV N P R k t v ∧ FitAll N P R k ts ws

theorem fitV_of {N : Nat} {H : Type} {enc : TypeId × Value → H} {P : Program} {w : World} {base : Nat} {k : Nat} {t : TypeId} {v : Value} {d : DataW H} {ps : List MemPlace} {held : Bool}
    (hp : plainT P k t = true) (hok : Value.okWide P w .any base t v) (h : DataW.Trod enc P w 0 (fun _ => true) held t v d ps) (hN : Rows.uptoBulk d ≤ N) : FitV N P (memRO w) k t v := by
  obtain ⟨fuel, h⟩ := h
  have hf := fit_of_trod k fuel t _ _ hp h hN
  unfold FitV
  unfold Value.okWide at hok
  cases hu : P.underlying t with
  | none => cases k <;> simp [plainT, hu] at hp
  | some x =>
    have one : (match x with | .struct _ | .array _ _ => False | _ => True) → Cell.okWide P w .any base t v → FitC N P (memRO w) k t [v] := by
      intro _ hc
      cases v with
      | agg cs =>
        exfalso
        unfold Cell.okWide at hc
        rw [hu] at hc
        cases x <;> simp [Cell.ok, hu] at hc
      | _ => exact hf
    cases x with
    | struct fs =>
      simp only [hu] at hok ⊢
      obtain ⟨cs, rfl, _⟩ := hok
      exact ⟨cs, rfl, hf⟩
    | array m e =>
      simp only [hu] at hok ⊢
      obtain ⟨cs, rfl, _⟩ := hok
      exact ⟨cs, rfl, hf⟩
    | _ => simp only [hu] at hok ⊢; exact one trivial hok

theorem fitAll_of {N : Nat} {H : Type} {enc : TypeId × Value → H} {P : Program} {w : World} {base : Nat} {k : Nat} : ∀ (ts : List TypeId) (vs : List Value) (ds : List (DataW H)) (ps : List MemPlace),
    ts.all (plainT P k) = true → (∀ (j : Nat) t v, ts[j]? = some t → vs[j]? = some v → Value.okWide P w .any base t v) →
    DataW.TrodAll enc P w 0 (fun _ => true) true ts vs ds ps → Rows.uptoBulkAll ds ≤ N → FitAll N P (memRO w) k ts vs
  | [], [], [], ps, _, _, _, _ => rfl
  | [], [], _ :: _, ps, _, _, h, _ => by simp [DataW.TrodAll] at h
  | [], _ :: _, _, ps, _, _, h, _ => by simp [DataW.TrodAll] at h
  | t :: ts, [], _, ps, _, _, h, _ => by simp [DataW.TrodAll] at h
  | t :: ts, v :: vs, [], ps, _, _, h, _ => by simp [DataW.TrodAll] at h
  | t :: ts, v :: vs, d :: ds, ps, hp, hok, h, hN => by
    obtain ⟨p, q, h1, h2, _⟩ := h
    simp only [Rows.uptoBulkAll] at hN
    simp only [List.all_cons, Bool.and_eq_true] at hp
    exact ⟨v, vs, rfl, fitV_of hp.1 (hok 0 t v rfl rfl) h1 (by omega), fitAll_of ts vs ds q hp.2 (fun j t' v' ht hv => hok (j + 1) t' v' (by simpa using ht) (by simpa using hv)) h2 (by omega)⟩

def Lies (N : Nat) (P : Program) (R : RO) (e : TypeId) (a : Option Addr) (len : Nat) : Prop :=
  ∀ i, i < len → ∃ b off ecs k, a = some ⟨b, off, none⟩ ∧ R.cells b (off + i * P.cellsOf e) ecs ∧ ecs.length = P.cellsOf e ∧ FitC N P R k e ecs

mutual
def AllC (N : Nat) (P : Program) (R : RO) : Nat → TypeId → (List Value → Prop) → Prop
  | 0, _, _ => False
  | n + 1, t, K => match P.underlying t with
    | some .bool => ∀ b : Bool, K [.bool b]
    | some (.int q) => ∀ i : Int, q.min ≤ i → i ≤ q.max → K [.int q i]
    | some .string => ∀ s : ByteArray, s.size ≤ N → K [.string s]
    | some (.slice e) => ∀ (a : Option Addr) (len cap : Nat), len ≤ cap → cap ≤ N → Lies N P R e a len → K [.slice a len cap]
    | some (.struct fs) => AllF N P R n fs.toList 0 (P.cellsOf t) [] K
    | some (.array m e) => ∀ cs : List Value, cs.length = P.cellsOf t → (∀ i, i < m → ∃ k, FitC N P R k e ((cs.drop (i * P.cellsOf e)).take (P.cellsOf e))) → K cs
    | _ => False
def AllF (N : Nat) (P : Program) (R : RO) : Nat → List Field → Nat → Nat → List Value → (List Value → Prop) → Prop
  | 0, _, _, _, _, _ => False
  | _ + 1, [], off, total, acc, K => match Nat.beq off total with
    | true => K acc
    | false => False
  | n + 1, f :: fs, off, total, acc, K => match Nat.beq f.offset off with
    | true => AllC N P R n f.type fun cs => AllF N P R n fs (off + P.cellsOf f.type) total (acc ++ cs) K
    | false => False
end

theorem allC_sound {N : Nat} {P : Program} {R : RO} : ∀ (n : Nat),
    (∀ (m : Nat) (t : TypeId) (K : List Value → Prop) (cs : List Value), AllC N P R n t K → FitC N P R m t cs → K cs) ∧
    (∀ (m : Nat) (fs : List Field) (off total : Nat) (acc cs : List Value) (K : List Value → Prop), AllF N P R n fs off total acc K → acc = cs.take off → cs.length = total →
      (∀ f ∈ fs, FitC N P R m f.type ((cs.drop f.offset).take (P.cellsOf f.type))) → K cs) := by
  intro n
  induction n with
  | zero => exact ⟨fun m t K cs h => by simp [AllC] at h, fun m fs off total acc cs K h => by simp [AllF] at h⟩
  | succ n ih =>
    constructor
    · intro m t K cs h hf
      cases m with
      | zero => exact hf.elim
      | succ m =>
        unfold FitC at hf
        unfold AllC at h
        cases hu : P.underlying t with
        | none => simp [hu] at hf
        | some d =>
          cases d with
          | bool => simp only [hu] at h hf; obtain ⟨b, rfl⟩ := hf; exact h b
          | int q => simp only [hu] at h hf; obtain ⟨i, rfl, h1, h2⟩ := hf; exact h i h1 h2
          | string => simp only [hu] at h hf; obtain ⟨s, rfl, h1⟩ := hf; exact h s h1
          | slice e =>
            simp only [hu] at h hf
            obtain ⟨a, len, cap, rfl, h1, h2, h3⟩ := hf
            refine h a len cap h1 h2 fun i hi => ?_
            obtain ⟨b, off, ecs, q1, q2, q3, q4⟩ := h3 i hi
            exact ⟨b, off, ecs, m, q1, q2, q3, q4⟩
          | struct fs =>
            simp only [hu] at h hf
            exact ih.2 m fs.toList 0 (P.cellsOf t) [] cs K h (by simp) hf.1 hf.2
          | array l e =>
            simp only [hu] at h hf
            exact h cs hf.1 fun i hi => ⟨m, hf.2 i hi⟩
          | _ => simp [hu] at hf
    · intro m fs off total acc cs K h hacc hlen hf
      cases fs with
      | nil =>
        simp only [AllF] at h
        split at h
        · rename_i hb
          have := Nat.eq_of_beq_eq_true hb
          rw [hacc, List.take_of_length_le (by omega)] at h
          exact h
        · exact h.elim
      | cons f fs =>
        simp only [AllF] at h
        split at h
        · rename_i hb
          have he := Nat.eq_of_beq_eq_true hb
          have h1 := ih.1 m f.type _ _ h (hf f (List.mem_cons_self ..))
          refine ih.2 m fs _ total _ cs K h1 ?_ hlen (fun f' hf' => hf f' (List.mem_cons_of_mem _ hf'))
          rw [hacc, he, List.take_add]
        · exact h.elim

def AllV (N : Nat) (P : Program) (R : RO) (n : Nat) (t : TypeId) (K : Value → Prop) : Prop :=
  match P.underlying t with
  | some (.struct _) | some (.array _ _) => AllC N P R n t fun cs => K (.agg cs.toArray)
  | _ => AllC N P R n t fun cs => match cs with
    | [v] => K v
    | _ => False

def AllA (N : Nat) (P : Program) (R : RO) (n : Nat) : List TypeId → List Value → (List Value → Prop) → Prop
  | [], acc, K => K acc
  | t :: ts, acc, K => AllV N P R n t fun v => AllA N P R n ts (acc ++ [v]) K

theorem allV_sound {N : Nat} {P : Program} {R : RO} {n k : Nat} {t : TypeId} {K : Value → Prop} {v : Value} (h : AllV N P R n t K) (hf : FitV N P R k t v) : K v := by
  unfold AllV at h
  unfold FitV at hf
  cases hu : P.underlying t with
  | none => cases n <;> simp [hu, AllC] at h
  | some d =>
    cases d with
    | struct fs =>
      simp only [hu] at h hf
      obtain ⟨cs, rfl, hf⟩ := hf
      simpa using (allC_sound n).1 k t _ _ h hf
    | array m e =>
      simp only [hu] at h hf
      obtain ⟨cs, rfl, hf⟩ := hf
      simpa using (allC_sound n).1 k t _ _ h hf
    | _ => simp only [hu] at h hf; exact (allC_sound n).1 k t _ _ h hf

theorem allA_sound {N : Nat} {P : Program} {R : RO} {n k : Nat} : ∀ {ts : List TypeId} {vs acc : List Value} {K : List Value → Prop}, AllA N P R n ts acc K → FitAll N P R k ts vs → K (acc ++ vs)
  | [], vs, acc, K, h, hf => by cases (show vs = [] from hf); simpa [AllA] using h
  | t :: ts, vs, acc, K, h, hf => by
    obtain ⟨v, ws, rfl, h1, h2⟩ := hf
    have := allA_sound (allV_sound h h1) h2
    simpa using this

theorem fitAll_args {N : Nat} {P : Program} {R : RO} {n k : Nat} {ts : List TypeId} {vs : List Value} {K : List Value → Prop} {E : Prop} (he : AllA N P R n ts [] K = E) (h : E) (hf : FitAll N P R k ts vs) : K vs := by
  have := allA_sound (he ▸ h : AllA N P R n ts [] K) hf
  simpa using this

theorem Lies.fn {N : Nat} {P : Program} {R : RO} {e : TypeId} {a : Option Addr} {len : Nat} {α : Type} [Inhabited α] (h : Lies N P R e a len) (m : Nat) (f : α → List Value) (q : α → Prop) {E : Prop} {z : Nat}
    (hz : P.cellsOf e = z) (he : AllC N P R m e (fun cs => ∃ x : α, cs = f x ∧ q x) = E) (hE : E) :
    ∃ (B O : Nat) (xs : Nat → α), ∀ i, i < len → a = some ⟨B, O, none⟩ ∧ R.cells B (O + i * z) (f (xs i)) ∧ q (xs i) := by
  subst hz
  rw [← he] at hE
  have key : ∀ i, i < len → ∃ (b off : Nat) (x : α), a = some ⟨b, off, none⟩ ∧ R.cells b (off + i * P.cellsOf e) (f x) ∧ q x := by
    intro i hi
    obtain ⟨b, off, ecs, k, h1, h2, h3, h4⟩ := h i hi
    obtain ⟨x, rfl, hq⟩ := (allC_sound m).1 k e _ ecs hE h4
    exact ⟨b, off, x, h1, h2, hq⟩
  cases a with
  | none =>
    refine ⟨0, 0, fun _ => default, fun i hi => ?_⟩
    obtain ⟨b, off, x, h1, _⟩ := key i hi
    cases h1
  | some ad =>
    have key2 : ∀ i, i < len → ∃ x : α, some ad = some ⟨ad.block, ad.off, none⟩ ∧ R.cells ad.block (ad.off + i * P.cellsOf e) (f x) ∧ q x := by
      intro i hi
      obtain ⟨b, off, x, h1, h2, h3⟩ := key i hi
      cases h1
      exact ⟨x, rfl, h2, h3⟩
    refine ⟨ad.block, ad.off, fun i => if hi : i < len then (key2 i hi).choose else default, fun i hi => ?_⟩
    have hs := (key2 i hi).choose_spec
    simp only [dif_pos hi]
    exact hs


/-- What a law's call comes to, by what its call does. -/
theorem row_contract {C : Checked} {f : FuncId} {fn : Func} {s : ChangeSpec} {H : Type} {enc : TypeId × Value → H} {tb : TypeId} {N : Nat} (k : Nat)
    (hl : laidOutB C.prog = true) (hpl : fn.params.toList.all (plainT C.prog k) = true) (hrd : (fn.params.toList.all fun t => C.prog.readableRec t && decide (t < C.prog.types.size)) = true)
    (hvars : s.vars = []) (hres : fn.resultTypes = #[tb]) (hb : C.prog.underlying tb = some .bool) (hspec : ∀ ds : List (DataW H), ds.length = fn.params.size → s.fn H ds = ({ results := [.lit (.bool true)], args := ds } : Left H))
    {W : World} {base : Nat} {args : Array Value} {ds gs : List (DataW H)} {before : List MemPlace}
    (hval : ∀ (j : Nat) t v, fn.params[j]? = some t → args[j]? = some v → Value.okWide C.prog W .any base t v)
    (hW : DataW.Whole enc C.prog fn.params.toList s.vars false W args.toList ds gs before) (hN : Rows.uptoBulkAll (ds ++ gs) ≤ N)
    (hdoes : FitAll N C.prog (memRO W) k fn.params.toList args.toList → Gives C.prog f args.toList (memRO W) [] (.ret (.bool true)) []) :
    Calls C.prog f args W fun e W' => ∃ v, e = .returned v ∧ s.post enc C.prog fn false true false false W args v W' := by
  have hW' := hW
  obtain ⟨p, q, hA, hV, rfl, hfz, hnd⟩ := hW
  have hgs : gs = [] ∧ q = [] := by
    rw [hvars] at hV
    cases gs with
    | nil => exact ⟨rfl, hV⟩
    | cons _ _ => simp [DataW.TrodVars] at hV
  obtain ⟨rfl, rfl⟩ := hgs
  rw [List.append_nil] at hN
  have hfit := fitAll_of (N := N) fn.params.toList args.toList ds p hpl (fun j t v ht hv => hval j t v (by simpa using ht) (by simpa using hv)) hA hN
  have hd := hdoes hfit (memRO W) W (RO.le_refl _) (sat_memRO W)
  have hlen : ds.length = fn.params.size := by
    have key : ∀ (ts : List TypeId) (vs : List Value) (ds : List (DataW H)) (ps : List MemPlace), DataW.TrodAll enc C.prog W 0 (fun _ => true) true ts vs ds ps → ds.length = ts.length := by
      intro ts
      induction ts with
      | nil => intro vs ds ps h; cases vs <;> cases ds <;> simp [DataW.TrodAll] at h <;> rfl
      | cons t ts ih =>
        intro vs ds ps h
        cases vs <;> cases ds <;> simp only [DataW.TrodAll] at h
        obtain ⟨p, q, _, h2, _⟩ := h
        simp [ih _ _ _ h2]
    simpa using key _ _ _ _ hA
  refine hd.mono fun e W' ⟨o, G, H', Rx', he, ⟨hG, ho, hH⟩, hx, hs'⟩ => ?_
  subst ho
  have bel := below_of hx.lex hs'
  refine ⟨_, he, ds, [], p, [], p, [], by simpa using hW', ?_, ?_, ?_, ?_, fun h => by cases h⟩
  · rw [List.append_nil, hspec ds hlen, hres]
    exact ChangeShapes.trodAll_mk1 (RowKit.shut_bool hb _)
  · rw [List.append_nil, hspec ds hlen]
    exact trodAll_back hl bel hrd hA
  · rw [List.append_nil, hspec ds hlen, hvars]
    rfl
  · exact bel.frame _
end Vc.B
