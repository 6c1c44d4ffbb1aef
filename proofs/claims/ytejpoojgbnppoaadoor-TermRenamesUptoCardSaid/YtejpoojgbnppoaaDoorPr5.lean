/- Parts of the proof: what the texts behind this one need. -/
import Derived.Test.YtejpoojgbnppoaaDoorRows
import Derived.Shelf.SlSortCmp.Whole1
import Derived.Shelf.SlGeneric
import Derived.Ground.SlsfProg
import Derived.Test.YtejpoojgbnppoaaDoorProg
import Derived.WalkKit
import Derived.Test.YtejpoojgbnppoaaDoorPr4
set_option maxRecDepth 100000
set_option maxHeartbeats 4000000
/- Vc, part O: what came in, with a bound for all lengths (the second form of a statement). -/
set_option linter.unusedVariables false
set_option linter.unusedSimpArgs false
namespace Vc.B
open Go Vc Go.Proofs.YtejpoojgbnppoaaDoor

theorem one_le {H : Type} (d : DataW H) : 1 ≤ Rows.uptoBulk d := by
  cases d with
  | lit l => cases l <;> simp [Rows.uptoBulk]
  | _ => simp [Rows.uptoBulk]
theorem part_le {H : Type} {d : DataW H} {l : List (DataW H)} (h : d ∈ l) : Rows.uptoBulk d ≤ Rows.uptoBulkAll l := by
  induction l with
  | nil => cases h
  | cons x r ih =>
    simp only [Rows.uptoBulkAll]
    rcases List.mem_cons.1 h with rfl | e
    · omega
    · have := ih e; omega
theorem length_le {H : Type} (l : List (DataW H)) : l.length ≤ Rows.uptoBulkAll l := by
  induction l with
  | nil => simp [Rows.uptoBulkAll]
  | cons x r ih => have := one_le x; simp only [Rows.uptoBulkAll, List.length_cons]; omega
def FitC (N : Nat) (P : Program) (R : RO) : Nat → TypeId → List Value → Prop
  | 0, _, _ => False
  | n + 1, t, cs => match P.underlying t with
    | some .bool => ∃ b, cs = [.bool b]
    | some (.int k) => ∃ i, cs = [.int k i] ∧ k.min ≤ i ∧ i ≤ k.max
    | some .string => ∃ s, cs = [.string s] ∧ s.size ≤ N
    | some (.slice e) => ∃ a len cap, cs = [.slice a len cap] ∧ len ≤ cap ∧ cap ≤ N ∧
        ∀ i, i < len → ∃ b off ecs, a = some ⟨b, off, none⟩ ∧ R.cells b (off + i * P.cellsOf e) ecs ∧ ecs.length = P.cellsOf e ∧ FitC N P R n e ecs
    | some (.struct fs) => cs.length = P.cellsOf t ∧ ∀ f ∈ fs.toList, FitC N P R n f.type ((cs.drop f.offset).take (P.cellsOf f.type))
    | some (.array m e) => cs.length = P.cellsOf t ∧ ∀ i, i < m → FitC N P R n e ((cs.drop (i * P.cellsOf e)).take (P.cellsOf e))
    | _ => False

theorem fit_of_trod {N : Nat} {H : Type} {enc : TypeId × Value → H} {P : Program} {w : World} {held : Bool} : ∀ (k fuel : Nat) (t : TypeId) (cs : List Value) (x : DataW H × List MemPlace),
    plainT P k t = true → DataW.trod enc P w 0 (fun _ => true) held fuel t cs = some x → Rows.uptoBulk x.1 ≤ N → FitC N P (memRO w) k t cs
  | 0, fuel, t, cs, x, hp, h, hN => by simp [plainT] at hp
  | k + 1, 0, t, cs, x, hp, h, hN => by simp [DataW.trod] at h
  | k + 1, fuel + 1, t, cs, x, hp, h, hN => by
    unfold plainT at hp
    unfold FitC
    cases hu : P.underlying t with
    | none => simp [hu] at hp
    | some d =>
      cases d with
      | bool =>
        rcases cs with _ | ⟨v, _ | ⟨u, l⟩⟩ <;> simp [DataW.trod, hu] at h
        cases v <;> simp [hu] at h
        exact ⟨_, rfl⟩
      | int q =>
        rcases cs with _ | ⟨v, _ | ⟨u, l⟩⟩ <;> simp [DataW.trod, hu] at h
        cases v <;> simp [hu] at h
        obtain ⟨⟨rfl, h1⟩, _⟩ := h
        simp [Lit.wf] at h1
        exact ⟨_, rfl, h1.1, h1.2⟩
      | string =>
        rcases cs with _ | ⟨v, _ | ⟨u, l⟩⟩ <;> simp [DataW.trod, hu] at h
        cases v <;> simp [hu] at h
        obtain ⟨h1, rfl⟩ := h
        refine ⟨_, rfl, ?_⟩
        simp only [Rows.uptoBulk] at hN
        rename_i sx
        have : sx.data.toList.length = sx.size := Array.length_toList
        omega
      | slice e =>
        simp only [hu, Bool.and_eq_true] at hp
        have hz : 0 < P.cellsOf e := by simpa using hp.1
        rcases cs with _ | ⟨v, _ | ⟨u, l⟩⟩ <;> simp [DataW.trod, hu] at h
        cases v with
        | slice a len cap =>
          cases a with
          | none =>
            cases len <;> cases cap <;> simp at h
            exact ⟨none, 0, 0, rfl, Nat.le_refl _, Nat.zero_le _, fun i hi => by omega⟩
          | some a =>
            simp only at h
            split at h
            · rename_i hc
              cases hm : (List.range len).mapM (fun i => (w.cells? 0 (a.add (i * P.cellsOf e)) (P.cellsOf e)).bind (DataW.trod enc P w 0 (fun _ => true) held fuel e)) with
              | none => rw [hm] at h; simp at h
              | some ys =>
                rw [hm] at h
                simp only [Option.bind_some, if_true] at h
                obtain ⟨rest, hr, rfl⟩ := Option.map_eq_some_iff.1 h
                have hl1 := (mapM_length hm).1
                have hl2 := (mapM_length hr).1
                have hb1 := length_le (ys.map (·.1))
                have hb2 := length_le (rest.map (·.1))
                simp only [Rows.uptoBulk] at hN
                simp only [List.length_range, List.length_map] at hl1 hl2 hb1 hb2
                refine ⟨some a, len, cap, rfl, hc.1, by omega, fun i hi => ?_⟩
                have h0 : a.spot = none := by
                  obtain ⟨y, hy⟩ := mapM_get hm 0 (by simp; omega)
                  rw [Nat.zero_mul, add_zero] at hy
                  cases hq : w.cells? 0 a (P.cellsOf e) with
                  | none => rw [hq] at hy; cases hy
                  | some ecs => exact (cells_of hz hq).1
                have ha : a = ⟨a.block, a.off, none⟩ := by
                  cases a; simp at h0; subst h0; rfl
                obtain ⟨y, hy⟩ := mapM_get hm i (by simpa using hi)
                have hym : y ∈ ys := by
                  have h7 : i < ys.length := by omega
                  have := (mapM_length hm).2 i i ys[i] (by simp [hi]) (by simp [h7])
                  rw [hy] at this; cases this; exact List.getElem_mem ..
                have hyb := part_le (List.mem_map.2 ⟨y, hym, rfl⟩ : y.1 ∈ ys.map (·.1))
                cases hq : w.cells? 0 (a.add (i * P.cellsOf e)) (P.cellsOf e) with
                | none => rw [hq] at hy; cases hy
                | some ecs =>
                  rw [hq] at hy
                  obtain ⟨_, q2, q3⟩ := cells_of hz hq
                  rw [ha, add_eq] at q3
                  exact ⟨a.block, a.off, ecs, congrArg some ha, q3, q2, fit_of_trod k fuel e ecs y hp.2 hy (by omega)⟩
            · cases h
        | _ => simp at h
      | struct fs =>
        simp only [hu, List.all_eq_true] at hp
        have h' : (if cs.length = P.cellsOf t then (fs.toList.mapM fun f => DataW.trod enc P w 0 (fun _ => true) held fuel f.type ((cs.drop f.offset).take (P.cellsOf f.type))).map fun xs => (DataW.agg (xs.map (·.1)), xs.flatMap (·.2)) else none) = some x := by
          rw [← h]
          conv => rhs; unfold DataW.trod
          simp only [hu]
        split at h'
        · rename_i hl
          cases hm : fs.toList.mapM (fun f => DataW.trod enc P w 0 (fun _ => true) held fuel f.type ((cs.drop f.offset).take (P.cellsOf f.type))) with
          | none => simp [hm] at h'
          | some ys =>
            refine ⟨hl, fun f hf => ?_⟩
            obtain ⟨q, hq, rfl⟩ := List.mem_iff_getElem.1 hf
            have h7 : q < ys.length := by rw [(mapM_length hm).1]; exact hq
            have hy := (mapM_length hm).2 q _ ys[q] (List.getElem?_eq_getElem hq) (by simp [h7])
            rw [hm] at h'
            simp only [Option.map_some, Option.some.injEq] at h'
            subst h'
            simp only [Rows.uptoBulk] at hN
            have hyb := part_le (List.mem_map.2 ⟨ys[q], List.getElem_mem .., rfl⟩ : ys[q].1 ∈ ys.map (·.1))
            exact fit_of_trod k fuel _ _ ys[q] (hp _ (List.getElem_mem ..)) hy (by omega)
        · cases h'
      | array m e =>
        simp only [hu] at hp
        have h' : (if cs.length = P.cellsOf t then ((List.range m).mapM fun i => DataW.trod enc P w 0 (fun _ => true) held fuel e ((cs.drop (i * P.cellsOf e)).take (P.cellsOf e))).map fun xs => (DataW.agg (xs.map (·.1)), xs.flatMap (·.2)) else none) = some x := by
          rw [← h]
          conv => rhs; unfold DataW.trod
          simp only [hu]
        split at h'
        · rename_i hl
          cases hm : (List.range m).mapM (fun i => DataW.trod enc P w 0 (fun _ => true) held fuel e ((cs.drop (i * P.cellsOf e)).take (P.cellsOf e))) with
          | none => simp [hm] at h'
          | some ys =>
            refine ⟨hl, fun i hi => ?_⟩
            have h7 : i < ys.length := by rw [(mapM_length hm).1]; simpa using hi
            have hy := (mapM_length hm).2 i i ys[i] (by simp [hi]) (by simp [h7])
            rw [hm] at h'
            simp only [Option.map_some, Option.some.injEq] at h'
            subst h'
            simp only [Rows.uptoBulk] at hN
            have hyb := part_le (List.mem_map.2 ⟨ys[i], List.getElem_mem .., rfl⟩ : ys[i].1 ∈ ys.map (·.1))
            exact fit_of_trod k fuel e _ ys[i] hp hy (by omega)
        · cases h'
      | _ => simp [hu] at hp

def FitV (N : Nat) (P : Program) (R : RO) (k : Nat) (t : TypeId) (v : Value) : Prop :=
  match P.underlying t with
  | some (.struct _) | some (.array _ _) => ∃ cs, v = .agg cs ∧ FitC N P R k t cs.toList
  | _ => FitC N P R k t [v]

def FitAll (N : Nat) (P : Program) (R : RO) (k : Nat) : List TypeId → List Value → Prop
  | [], vs => vs = []
  | t :: ts, vs => ∃ v ws, vs = v :: ws ∧ FitV N P R k t v ∧ FitAll N P R k ts ws

theorem fitV_of {N : Nat} {H : Type} {enc : TypeId × Value → H} {P : Program} {w : World} {base : Nat} {k : Nat} {t : TypeId} {v : Value} {d : DataW H} {ps : List MemPlace} {held : Bool}
    (hp : plainT P k t = true) (hok : Value.okWide P w .any base t v) (h : DataW.Trod enc P w 0 (fun _ => true) held t v d ps) (hN : Rows.uptoBulk d ≤ N) : FitV N P (memRO w) k t v := by
  obtain ⟨fuel, h⟩ := h
  have hf := fit_of_trod k fuel t _ _ hp h hN
  unfold FitV
  unfold Value.okWide at hok
  cases hu : P.underlying t with
  | none => cases k <;> simp [plainT, hu] at hp
  | some x =>
    have one : (match x with | .struct _ | .array _ _ => False | _ => True) → Cell.okWide P w .any base t v → FitC N P (memRO w) k t [v] := by
      intro _ hc
      cases v with
      | agg cs =>
        exfalso
        unfold Cell.okWide at hc
        rw [hu] at hc
        cases x <;> simp [Cell.ok, hu] at hc
      | _ => exact hf
    cases x with
    | struct fs =>
      simp only [hu] at hok ⊢
      obtain ⟨cs, rfl, _⟩ := hok
      exact ⟨cs, rfl, hf⟩
    | array m e =>
      simp only [hu] at hok ⊢
      obtain ⟨cs, rfl, _⟩ := hok
      exact ⟨cs, rfl, hf⟩
    | _ => simp only [hu] at hok ⊢; exact one trivial hok

theorem fitAll_of {N : Nat} {H : Type} {enc : TypeId × Value → H} {P : Program} {w : World} {base : Nat} {k : Nat} : ∀ (ts : List TypeId) (vs : List Value) (ds : List (DataW H)) (ps : List MemPlace),
    ts.all (plainT P k) = true → (∀ (j : Nat) t v, ts[j]? = some t → vs[j]? = some v → Value.okWide P w .any base t v) →
    DataW.TrodAll enc P w 0 (fun _ => true) true ts vs ds ps → Rows.uptoBulkAll ds ≤ N → FitAll N P (memRO w) k ts vs
  | [], [], [], ps, _, _, _, _ => rfl
  | [], [], _ :: _, ps, _, _, h, _ => by simp [DataW.TrodAll] at h
  | [], _ :: _, _, ps, _, _, h, _ => by simp [DataW.TrodAll] at h
  | t :: ts, [], _, ps, _, _, h, _ => by simp [DataW.TrodAll] at h
  | t :: ts, v :: vs, [], ps, _, _, h, _ => by simp [DataW.TrodAll] at h
  | t :: ts, v :: vs, d :: ds, ps, hp, hok, h, hN => by
    obtain ⟨p, q, h1, h2, _⟩ := h
    simp only [Rows.uptoBulkAll] at hN
    simp only [List.all_cons, Bool.and_eq_true] at hp
    exact ⟨v, vs, rfl, fitV_of hp.1 (hok 0 t v rfl rfl) h1 (by omega), fitAll_of ts vs ds q hp.2 (fun j t' v' ht hv => hok (j + 1) t' v' (by simpa using ht) (by simpa using hv)) h2 (by omega)⟩

def Lies (N : Nat) (P : Program) (R : RO) (e : TypeId) (a : Option Addr) (len : Nat) : Prop :=
  ∀ i, i < len → ∃ b off ecs k, a = some ⟨b, off, none⟩ ∧ R.cells b (off + i * P.cellsOf e) ecs ∧ ecs.length = P.cellsOf e ∧ FitC N P R k e ecs

mutual
def AllC (N : Nat) (P : Program) (R : RO) : Nat → TypeId → (List Value → Prop) → Prop
  | 0, _, _ => False
  | n + 1, t, K => match P.underlying t with
    | some .bool => ∀ b : Bool, K [.bool b]
    | some (.int q) => ∀ i : Int, q.min ≤ i → i ≤ q.max → K [.int q i]
    | some .string => ∀ s : ByteArray, s.size ≤ N → K [.string s]
    | some (.slice e) => ∀ (a : Option Addr) (len cap : Nat), len ≤ cap → cap ≤ N → Lies N P R e a len → K [.slice a len cap]
    | some (.struct fs) => AllF N P R n fs.toList 0 (P.cellsOf t) [] K
    | some (.array m e) => ∀ cs : List Value, cs.length = P.cellsOf t → (∀ i, i < m → ∃ k, FitC N P R k e ((cs.drop (i * P.cellsOf e)).take (P.cellsOf e))) → K cs
    | _ => False
def AllF (N : Nat) (P : Program) (R : RO) : Nat → List Field → Nat → Nat → List Value → (List Value → Prop) → Prop
  | 0, _, _, _, _, _ => False
  | _ + 1, [], off, total, acc, K => match Nat.beq off total with
    | true => K acc
    | false => False
  | n + 1, f :: fs, off, total, acc, K => match Nat.beq f.offset off with
    | true => AllC N P R n f.type fun cs => AllF N P R n fs (off + P.cellsOf f.type) total (acc ++ cs) K
    | false => False
end

theorem allC_sound {N : Nat} {P : Program} {R : RO} : ∀ (n : Nat),
    (∀ (m : Nat) (t : TypeId) (K : List Value → Prop) (cs : List Value), AllC N P R n t K → FitC N P R m t cs → K cs) ∧
    (∀ (m : Nat) (fs : List Field) (off total : Nat) (acc cs : List Value) (K : List Value → Prop), AllF N P R n fs off total acc K → acc = cs.take off → cs.length = total →
      (∀ f ∈ fs, FitC N P R m f.type ((cs.drop f.offset).take (P.cellsOf f.type))) → K cs) := by
  intro n
  induction n with
  | zero => exact ⟨fun m t K cs h => by simp [AllC] at h, fun m fs off total acc cs K h => by simp [AllF] at h⟩
  | succ n ih =>
    constructor
    · intro m t K cs h hf
      cases m with
      | zero => exact hf.elim
      | succ m =>
        unfold FitC at hf
        unfold AllC at h
        cases hu : P.underlying t with
        | none => simp [hu] at hf
        | some d =>
          cases d with
          | bool => simp only [hu] at h hf; obtain ⟨b, rfl⟩ := hf; exact h b
          | int q => simp only [hu] at h hf; obtain ⟨i, rfl, h1, h2⟩ := hf; exact h i h1 h2
          | string => simp only [hu] at h hf; obtain ⟨s, rfl, h1⟩ := hf; exact h s h1
          | slice e =>
            simp only [hu] at h hf
            obtain ⟨a, len, cap, rfl, h1, h2, h3⟩ := hf
            refine h a len cap h1 h2 fun i hi => ?_
            obtain ⟨b, off, ecs, q1, q2, q3, q4⟩ := h3 i hi
            exact ⟨b, off, ecs, m, q1, q2, q3, q4⟩
          | struct fs =>
            simp only [hu] at h hf
            exact ih.2 m fs.toList 0 (P.cellsOf t) [] cs K h (by simp) hf.1 hf.2
          | array l e =>
            simp only [hu] at h hf
            exact h cs hf.1 fun i hi => ⟨m, hf.2 i hi⟩
          | _ => simp [hu] at hf
    · intro m fs off total acc cs K h hacc hlen hf
      cases fs with
      | nil =>
        simp only [AllF] at h
        split at h
        · rename_i hb
          have := Nat.eq_of_beq_eq_true hb
          rw [hacc, List.take_of_length_le (by omega)] at h
          exact h
        · exact h.elim
      | cons f fs =>
        simp only [AllF] at h
        split at h
        · rename_i hb
          have he := Nat.eq_of_beq_eq_true hb
          have h1 := ih.1 m f.type _ _ h (hf f (List.mem_cons_self ..))
          refine ih.2 m fs _ total _ cs K h1 ?_ hlen (fun f' hf' => hf f' (List.mem_cons_of_mem _ hf'))
          rw [hacc, he, List.take_add]
        · exact h.elim

def AllV (N : Nat) (P : Program) (R : RO) (n : Nat) (t : TypeId) (K : Value → Prop) : Prop :=
  match P.underlying t with
  | some (.struct _) | some (.array _ _) => AllC N P R n t fun cs => K (.agg cs.toArray)
  | _ => AllC N P R n t fun cs => match cs with
    | [v] => K v
    | _ => False

def AllA (N : Nat) (P : Program) (R : RO) (n : Nat) : List TypeId → List Value → (List Value → Prop) → Prop
  | [], acc, K => K acc
  | t :: ts, acc, K => AllV N P R n t fun v => AllA N P R n ts (acc ++ [v]) K

theorem allV_sound {N : Nat} {P : Program} {R : RO} {n k : Nat} {t : TypeId} {K : Value → Prop} {v : Value} (h : AllV N P R n t K) (hf : FitV N P R k t v) : K v := by
  unfold AllV at h
  unfold FitV at hf
  cases hu : P.underlying t with
  | none => cases n <;> simp [hu, AllC] at h
  | some d =>
    cases d with
    | struct fs =>
      simp only [hu] at h hf
      obtain ⟨cs, rfl, hf⟩ := hf
      simpa using (allC_sound n).1 k t _ _ h hf
    | array m e =>
      simp only [hu] at h hf
      obtain ⟨cs, rfl, hf⟩ := hf
      simpa using (allC_sound n).1 k t _ _ h hf
    | _ => simp only [hu] at h hf; exact (allC_sound n).1 k t _ _ h hf

theorem allA_sound {N : Nat} {P : Program} {R : RO} {n k : Nat} : ∀ {ts : List TypeId} {vs acc : List Value} {K : List Value → Prop}, AllA N P R n ts acc K → FitAll N P R k ts vs → K (acc ++ vs)
  | [], vs, acc, K, h, hf => by cases (show vs = [] from hf); simpa [AllA] using h
  | t :: ts, vs, acc, K, h, hf => by
    obtain ⟨v, ws, rfl, h1, h2⟩ := hf
    have := allA_sound (allV_sound h h1) h2
    simpa using this

theorem fitAll_args {N : Nat} {P : Program} {R : RO} {n k : Nat} {ts : List TypeId} {vs : List Value} {K : List Value → Prop} {E : Prop} (he : AllA N P R n ts [] K = E) (h : E) (hf : FitAll N P R k ts vs) : K vs := by
  have := allA_sound (he ▸ h : AllA N P R n ts [] K) hf
  simpa using this

theorem Lies.fn {N : Nat} {P : Program} {R : RO} {e : TypeId} {a : Option Addr} {len : Nat} {α : Type} [Inhabited α] (h : Lies N P R e a len) (m : Nat) (f : α → List Value) (q : α → Prop) {E : Prop} {z : Nat}
    (hz : P.cellsOf e = z) (he : AllC N P R m e (fun cs => ∃ x : α, cs = f x ∧ q x) = E) (hE : E) :
    ∃ (B O : Nat) (xs : Nat → α), ∀ i, i < len → a = some ⟨B, O, none⟩ ∧ R.cells B (O + i * z) (f (xs i)) ∧ q (xs i) := by
  subst hz
  rw [← he] at hE
  have key : ∀ i, i < len → ∃ (b off : Nat) (x : α), a = some ⟨b, off, none⟩ ∧ R.cells b (off + i * P.cellsOf e) (f x) ∧ q x := by
    intro i hi
    obtain ⟨b, off, ecs, k, h1, h2, h3, h4⟩ := h i hi
    obtain ⟨x, rfl, hq⟩ := (allC_sound m).1 k e _ ecs hE h4
    exact ⟨b, off, x, h1, h2, hq⟩
  cases a with
  | none =>
    refine ⟨0, 0, fun _ => default, fun i hi => ?_⟩
    obtain ⟨b, off, x, h1, _⟩ := key i hi
    cases h1
  | some ad =>
    have key2 : ∀ i, i < len → ∃ x : α, some ad = some ⟨ad.block, ad.off, none⟩ ∧ R.cells ad.block (ad.off + i * P.cellsOf e) (f x) ∧ q x := by
      intro i hi
      obtain ⟨b, off, x, h1, h2, h3⟩ := key i hi
      cases h1
      exact ⟨x, rfl, h2, h3⟩
    refine ⟨ad.block, ad.off, fun i => if hi : i < len then (key2 i hi).choose else default, fun i hi => ?_⟩
    have hs := (key2 i hi).choose_spec
    simp only [dif_pos hi]
    exact hs


/-- What a law's call comes to, by what its call does. -/
theorem row_contract {C : Checked} {f : FuncId} {fn : Func} {s : ChangeSpec} {H : Type} {enc : TypeId × Value → H} {tb : TypeId} {N : Nat} (k : Nat)
    (hl : laidOutB C.prog = true) (hpl : fn.params.toList.all (plainT C.prog k) = true) (hrd : (fn.params.toList.all fun t => C.prog.readableRec t && decide (t < C.prog.types.size)) = true)
    (hvars : s.vars = []) (hres : fn.resultTypes = #[tb]) (hb : C.prog.underlying tb = some .bool) (hspec : ∀ ds : List (DataW H), ds.length = fn.params.size → s.fn H ds = ({ results := [.lit (.bool true)], args := ds } : Left H))
    {W : World} {base : Nat} {args : Array Value} {ds gs : List (DataW H)} {before : List MemPlace}
    (hval : ∀ (j : Nat) t v, fn.params[j]? = some t → args[j]? = some v → Value.okWide C.prog W .any base t v)
    (hW : DataW.Whole enc C.prog fn.params.toList s.vars false W args.toList ds gs before) (hN : Rows.uptoBulkAll (ds ++ gs) ≤ N)
    (hdoes : FitAll N C.prog (memRO W) k fn.params.toList args.toList → Gives C.prog f args.toList (memRO W) [] (.ret (.bool true)) []) :
    Calls C.prog f args W fun e W' => ∃ v, e = .returned v ∧ s.post enc C.prog fn false true false false W args v W' := by
  have hW' := hW
  obtain ⟨p, q, hA, hV, rfl, hfz, hnd⟩ := hW
  have hgs : gs = [] ∧ q = [] := by
    rw [hvars] at hV
    cases gs with
    | nil => exact ⟨rfl, hV⟩
    | cons _ _ => simp [DataW.TrodVars] at hV
  obtain ⟨rfl, rfl⟩ := hgs
  rw [List.append_nil] at hN
  have hfit := fitAll_of (N := N) fn.params.toList args.toList ds p hpl (fun j t v ht hv => hval j t v (by simpa using ht) (by simpa using hv)) hA hN
  have hd := hdoes hfit (memRO W) W (RO.le_refl _) (sat_memRO W)
  have hlen : ds.length = fn.params.size := by
    have key : ∀ (ts : List TypeId) (vs : List Value) (ds : List (DataW H)) (ps : List MemPlace), DataW.TrodAll enc C.prog W 0 (fun _ => true) true ts vs ds ps → ds.length = ts.length := by
      intro ts
      induction ts with
      | nil => intro vs ds ps h; cases vs <;> cases ds <;> simp [DataW.TrodAll] at h <;> rfl
      | cons t ts ih =>
        intro vs ds ps h
        cases vs <;> cases ds <;> simp only [DataW.TrodAll] at h
        obtain ⟨p, q, _, h2, _⟩ := h
        simp [ih _ _ _ h2]
    simpa using key _ _ _ _ hA
  refine hd.mono fun e W' ⟨o, G, H', Rx', he, ⟨hG, ho, hH⟩, hx, hs'⟩ => ?_
  subst ho
  have bel := below_of hx.lex hs'
  refine ⟨_, he, ds, [], p, [], p, [], by simpa using hW', ?_, ?_, ?_, ?_, fun h => by cases h⟩
  · rw [List.append_nil, hspec ds hlen, hres]
    exact ChangeShapes.trodAll_mk1 (RowKit.shut_bool hb _)
  · rw [List.append_nil, hspec ds hlen]
    exact trodAll_back hl bel hrd hA
  · rw [List.append_nil, hspec ds hlen, hvars]
    rfl
  · exact bel.frame _
end Vc.B
namespace Go.Proofs.YtejpoojgbnppoaaDoor
open Vc Go
set_option linter.unusedVariables false
set_option linter.unusedSimpArgs false

/-- A node as it came in. -/
structure ND where
  k : Int
  i : Int
  s : ByteArray
  ba : Option Addr
  bn : Nat
  bc : Nat
  BB : Nat
  BO : Nat
  bk : Nat → Int
  pa : Option Addr
  pm : Nat
  pc : Nat
  PB : Nat
  PO : Nat
  pw : Nat → PW
namespace ND
def row (x : ND) : List Value := [vi x.k, vu x.i, .string x.s, .slice x.ba x.bn x.bc, .slice x.pa x.pm x.pc]
structure Ok (R : RO) (x : ND) : Prop where
  k0 : IntKind.i64.min ≤ x.k
  k1 : x.k ≤ IntKind.i64.max
  i0 : 0 ≤ x.i
  i1 : x.i ≤ 4294967295
  sl : x.s.size ≤ 1048576
  bl : x.bn ≤ x.bc ∧ x.bc ≤ 1048576
  pl : x.pm ≤ x.pc ∧ x.pc ≤ 1048576
  bb : ∀ j, j < x.bn → x.ba = some ⟨x.BB, x.BO, none⟩ ∧ R.cells x.BB (x.BO + j * 1) [.int .u8 (x.bk j)] ∧ 0 ≤ x.bk j ∧ x.bk j ≤ 255
  pp : ∀ j, j < x.pm → x.pa = some ⟨x.PB, x.PO, none⟩ ∧ R.cells x.PB (x.PO + j * 2) [vu (x.pw j).1, vi (x.pw j).2] ∧ (0 ≤ (x.pw j).1 ∧ (x.pw j).1 ≤ 4294967295) ∧ IntKind.i64.min ≤ (x.pw j).2 ∧ (x.pw j).2 ≤ IntKind.i64.max
theorem Ok.mono {R S : RO} (h : R.le S) {x : ND} (o : x.Ok R) : x.Ok S :=
  ⟨o.k0, o.k1, o.i0, o.i1, o.sl, o.bl, o.pl, fun j hj => ⟨(o.bb j hj).1, RO.cells_mono h (o.bb j hj).2.1, (o.bb j hj).2.2⟩, fun j hj => ⟨(o.pp j hj).1, RO.cells_mono h (o.pp j hj).2.1, (o.pp j hj).2.2⟩⟩
instance : Inhabited ND := ⟨⟨0, 0, .empty, none, 0, 0, 0, 0, fun _ => 0, none, 0, 0, 0, 0, fun _ => (0, 0)⟩⟩
end ND
/-- Nodes that came in, told by a function. -/
theorem nodes_of {R : RO} {lv : Option Addr} {ln : Nat} (h : Vc.B.Lies 1048576 Tryd.prog R 36 lv ln) : ∃ (B O : Nat) (nd : Nat → ND), ∀ j, j < ln → lv = some ⟨B, O, none⟩ ∧ R.cells B (O + j * 5) (nd j).row ∧ (nd j).Ok R :=
  Vc.B.Lies.fn h 40 ND.row (ND.Ok R) (z := 5) (by kernel_rfl)
    (E := ∀ (k : Int), IntKind.i64.min ≤ k → k ≤ IntKind.i64.max → ∀ (i : Int), IntKind.u32.min ≤ i → i ≤ IntKind.u32.max → ∀ (s : ByteArray), s.size ≤ 1048576 →
      ∀ (ba : Option Addr) (bn bc : Nat), bn ≤ bc → bc ≤ 1048576 → Vc.B.Lies 1048576 Tryd.prog R 5 ba bn → ∀ (pa : Option Addr) (pm pc : Nat), pm ≤ pc → pc ≤ 1048576 → Vc.B.Lies 1048576 Tryd.prog R 25 pa pm →
      ∃ x : ND, [Value.int .i64 k, vu i, .string s, .slice ba bn bc, .slice pa pm pc] = x.row ∧ x.Ok R) (by kernel_rfl)
    (fun k k0 k1 i i0 i1 s hs ba bn bc h1 h2 L1 pa pm pc h3 h4 L2 => by
      obtain ⟨BB, BO, bk, hb⟩ := Vc.B.Lies.fn L1 10 (fun x : Int => [.int .u8 x]) (fun x => 0 ≤ x ∧ x ≤ 255) (z := 1) (by kernel_rfl)
        (E := ∀ i : Int, IntKind.u8.min ≤ i → i ≤ IntKind.u8.max → ∃ x : Int, [Value.int .u8 i] = [.int .u8 x] ∧ 0 ≤ x ∧ x ≤ 255) (by kernel_rfl) (fun i h1 h2 => ⟨i, rfl, h1, h2⟩)
      obtain ⟨PB, PO, pw, hp⟩ := Vc.B.Lies.fn L2 10 (fun x : PW => [vu x.1, vi x.2]) (fun x => (0 ≤ x.1 ∧ x.1 ≤ 4294967295) ∧ IntKind.i64.min ≤ x.2 ∧ x.2 ≤ IntKind.i64.max) (z := 2) (by kernel_rfl)
        (E := ∀ i : Int, IntKind.u32.min ≤ i → i ≤ IntKind.u32.max → ∀ n : Int, IntKind.i64.min ≤ n → n ≤ IntKind.i64.max → ∃ x : PW, [Value.int .u32 i, vi n] = [vu x.1, vi x.2] ∧ (0 ≤ x.1 ∧ x.1 ≤ 4294967295) ∧ IntKind.i64.min ≤ x.2 ∧ x.2 ≤ IntKind.i64.max) (by kernel_rfl)
        (fun i h1 h2 n h3 h4 => ⟨(i, n), rfl, ⟨h1, h2⟩, h3, h4⟩)
      exact ⟨⟨k, i, s, ba, bn, bc, BB, BO, bk, pa, pm, pc, PB, PO, pw⟩, rfl, k0, k1, i0, i1, hs, ⟨h1, h2⟩, ⟨h3, h4⟩, hb, hp⟩)
end Go.Proofs.YtejpoojgbnppoaaDoor
namespace Go.Proofs.YtejpoojgbnppoaaDoor
open Vc Go
set_option linter.unusedVariables false
set_option linter.unusedSimpArgs false

noncomputable def small_ok_L5_inv (lv : Option Addr) (ln lc LB LO : Nat) (nd : Nat → ND) (j : Nat) (u0 : Nat → Value) (a52 : Nat)  : Nat × NV → St := fun zx => ⟨(.slice lv ln lc :: undef :: (zx.2 2) :: undef :: ptA a52 :: undef :: (zx.2 6) :: .slice lv ln lc :: vi (ln : Int) :: vi (j : Int) :: .bool true :: .pointer (some ⟨LB, LO + Int.toNat (j : Int) * 5, none⟩) :: .agg #[vi ((nd j).k), vu ((nd j).i), .string ((nd j).s), .slice (nd j).ba ((nd j).bn) ((nd j).bc), .slice (nd j).pa ((nd j).pm) ((nd j).pc)] :: .pointer (some ⟨a52, 4, none⟩) :: .slice (nd j).pa ((nd j).pm) ((nd j).pc) :: vi (((nd j).pm : Nat) : Int) :: vi ((zx.1 : Nat) : Int) :: urun zx.2 17 12 ((u0 29) :: undef :: undef :: undef :: [])), [], [some (a52, .row [vi ((nd j).k), vu ((nd j).i), .string ((nd j).s), .slice (nd j).ba ((nd j).bn) ((nd j).bc), .slice (nd j).pa ((nd j).pm) ((nd j).pc)] 36 5)]⟩
def small_ok_L5_I (lv : Option Addr) (ln lc LB LO : Nat) (nd : Nat → ND) (j : Nat) (u0 : Nat → Value) (a52 : Nat)  (R : RO) : Nat × NV → RO → Prop := fun zx G => G = R ∧ (zx.1 ≤ (nd j).pm)
def small_ok_L5_mu (lv : Option Addr) (ln lc LB LO : Nat) (nd : Nat → ND) (j : Nat) (u0 : Nat → Value) (a52 : Nat)  : Nat × NV → Nat := fun zx => (nd j).pm - zx.1
noncomputable def small_ok_L5_K (lv : Option Addr) (ln lc LB LO : Nat) (nd : Nat → ND) (j : Nat) (u0 : Nat → Value) (a52 : Nat)  (R : RO) : Exit' → St → RO → Prop := altPost R (.alt (Nat × NV) (fun zx => True) (fun zx => (.exit 2, ((small_ok_L5_inv lv ln lc LB LO nd j u0 a52 zx).up [] [some (a52, .row [vi ((nd j).k), vu ((nd j).i), .string ((nd j).s), .slice (nd j).ba ((nd j).bn) ((nd j).bc), .slice (nd j).pa ((nd j).pm) ((nd j).pc)] 36 5)]))) (fun _ => .altn) (.alt (Nat × NV) (fun zx => True) (fun zx => (.ret, ((small_ok_L5_inv lv ln lc LB LO nd j u0 a52 zx).up [(2, .bool false)] [some (a52, .row [vi ((nd j).k), vu ((nd j).i), .string ((nd j).s), .slice (nd j).ba ((nd j).bn) ((nd j).bc), .slice (nd j).pa ((nd j).pm) ((nd j).pc)] 36 5)]))) (fun _ => .altn) .altn))
theorem small_ok_L5_body (lv : Option Addr) (ln lc LB LO : Nat) (nd : Nat → ND) (j : Nat) (u0 : Nat → Value) (a52 : Nat)  (R : RO) (hj : j < ln) (hln : ln ≤ 1048576) (hnd : ∀ j, j < ln → lv = some ⟨LB, LO, none⟩ ∧ R.cells LB (LO + j * 5) (nd j).row ∧ (nd j).Ok R) (i : Nat) (u53 : Nat → Value) (hI : i ≤ (nd j).pm) : CT Tryd.prog (sub (bodyOf Tryd.f9) [1, 0, 1, 0, 0, 1, 1, 0, 0, 1, 1, 0, 0]) (small_ok_L5_inv lv ln lc LB LO nd j u0 a52 (i, u53)) R (LK (small_ok_L5_inv lv ln lc LB LO nd j u0 a52) (small_ok_L5_I lv ln lc LB LO nd j u0 a52 R) (small_ok_L5_mu lv ln lc LB LO nd j u0 a52) (small_ok_L5_K lv ln lc LB LO nd j u0 a52 R) (i, u53)) :=
  CT.of_wp_eq (VC := (let z10 : Array Value := #[vu (((nd j).pw i).1), vi (((nd j).pw i).2)]; let z9 := (decide ((((nd j).pw i).2) < (-1000000))); let z8 : Option Addr := (some ⟨(nd j).PB, (nd j).PO + Int.toNat (i : Int) * 2, none⟩); let z7 := (small_ok_L5_mu lv ln lc LB LO nd j u0 a52); let z6 := (small_ok_L5_K lv ln lc LB LO nd j u0 a52 R); let z5 := (small_ok_L5_I lv ln lc LB LO nd j u0 a52 R); let z4 := (small_ok_L5_inv lv ln lc LB LO nd j u0 a52); let z3 : List Value := [vi ((nd j).k), vu ((nd j).i), .string ((nd j).s), .slice (nd j).ba ((nd j).bn) ((nd j).bc), .slice (nd j).pa ((nd j).pm) ((nd j).pc)]; let z2 := (decide ((((nd j).pw i).2) > 1000000)); let z1 := (small_ok_L5_inv lv ln lc LB LO nd j u0 a52 (i, u53)); ((decide ((i : Int) < (((nd j).pm : Nat) : Int))) = true → ((nd j).pa = some ⟨(nd j).PB, (nd j).PO, none⟩ ∧ (0 : Int) ≤ (i : Int) ∧ ((i : Int) : Int) < (((nd j).pm : Nat) : Int)) ∧ (R.cells (nd j).PB ((nd j).PO + Int.toNat (i : Int) * 2) [vu (((nd j).pw i).1), vi (((nd j).pw i).2)]) ∧ ∀ a105 : Nat, let z11 : Option Addr := (some ⟨a105, 1, none⟩); let z0 : Hp := [some (a52, .row z3 36 5), some (a105, .row [vu (((nd j).pw i).1), vi (((nd j).pw i).2)] 25 2)]; (a105 = a105) ∧ (a105 = a105) ∧ (z2 = true → LK z4 z5 z7 z6 (i, u53) (.ret) (z1.up [(2, .bool false), (6, ptA a105), (17, .bool true), (18, .pointer z8), (19, .agg z10), (20, .pointer z11), (21, vi (((nd j).pw i).2)), (22, .bool z2), (23, .bool true), (24, undef), (25, undef), (26, undef), (27, .bool true)] z0) R) ∧ (z2 = false → (a105 = a105) ∧ (z9 = true → LK z4 z5 z7 z6 (i, u53) (.ret) (z1.up [(2, .bool false), (6, ptA a105), (17, .bool true), (18, .pointer z8), (19, .agg z10), (20, .pointer z11), (21, vi (((nd j).pw i).2)), (22, .bool z2), (23, .bool false), (24, .pointer z11), (25, vi (((nd j).pw i).2)), (26, .bool z9), (27, .bool true)] z0) R) ∧ (z9 = false → (NW .i64 ((i : Int) + 1)) ∧ LK z4 z5 z7 z6 (i, u53) .normal (z1.up [(6, ptA a105), (16, vi ((i : Int) + 1)), (17, .bool true), (18, .pointer z8), (19, .agg z10), (20, .pointer z11), (21, vi (((nd j).pw i).2)), (22, .bool z2), (23, .bool false), (24, .pointer z11), (25, vi (((nd j).pw i).2)), (26, .bool z9), (27, .bool false), (28, vi ((i : Int) + 1))] z0) R))) ∧ ((decide ((i : Int) < (((nd j).pm : Nat) : Int))) = false → LK z4 z5 z7 z6 (i, u53) (.exit 2) (z1.up [(17, .bool false)] [some (a52, .row z3 36 5)]) R))) (ops [.d] (.sp 17 (ops [.ib (nd j).PB (nd j).PO, .ro (fun v => [vu (((nd j).pw i).1), vi (((nd j).pw i).2)])] (.opn 1 (fun a105 => (ops [.p 1, .d, .p 1, .d, .d] (.sp 23 (ops [.d, .d] (.fin [] [])) (ops [.d, .p 1, .d, .d] (.sp 27 (ops [.d] (.fin [] [])) (ops [.nw, .d] (.fin [] []))))))))) (.fin [] []))) (by kernel_rfl)
    (⟨fun h104 => (have := of_decide_eq_true h104; ⟨⟨((hnd j (by omega)).2.2.pp i (by omega)).1, by omega, by omega⟩, ⟨((hnd j (by omega)).2.2.pp i (by omega)).2.1, fun a105 => ⟨rfl, ⟨rfl, ⟨fun h106 => (have := of_decide_eq_true h106; Or.inr (altA (fun zw => (i, zw)) ⟨(show True from trivial), (by show _ = _; kernel_rfl), ⟨(by show _ = _; kernel_rfl), (by show _ = _; kernel_rfl), (by show _ = _; kernel_rfl)⟩⟩)), fun h106 => (have := of_decide_eq_false h106; ⟨rfl, ⟨fun h107 => (have := of_decide_eq_true h107; Or.inr (altA (fun zw => (i, zw)) ⟨(show True from trivial), (by show _ = _; kernel_rfl), ⟨(by show _ = _; kernel_rfl), (by show _ = _; kernel_rfl), (by show _ = _; kernel_rfl)⟩⟩)), fun h107 => (have := of_decide_eq_false h107; ⟨(nwI (by omega) (by have h9 := (hnd j (by omega)).2.2.pl; omega)), LKn (fun zw => ((i + 1), zw)) ⟨⟨rfl, (show (i + 1) ≤ (nd j).pm from (by omega))⟩, (show (nd j).pm - (i + 1) < (nd j).pm - i from (by omega)), ⟨(by show _ = _; kernel_rfl), rfl, rfl⟩⟩⟩)⟩⟩)⟩⟩⟩⟩⟩), fun h104 => (have := of_decide_eq_false h104; altA (fun zw => (i, zw)) ⟨(show True from trivial), (by show _ = _; kernel_rfl), ⟨(by show _ = _; kernel_rfl), (by show _ = _; kernel_rfl), (by show _ = _; kernel_rfl)⟩⟩)⟩)
theorem small_ok_L5_ct (lv : Option Addr) (ln lc LB LO : Nat) (nd : Nat → ND) (j : Nat) (u0 : Nat → Value) (a52 : Nat)  (R : RO) (hj : j < ln) (hln : ln ≤ 1048576) (hnd : ∀ j, j < ln → lv = some ⟨LB, LO, none⟩ ∧ R.cells LB (LO + j * 5) (nd j).row ∧ (nd j).Ok R)  : CT Tryd.prog (sub (bodyOf Tryd.f9) [1, 0, 1, 0, 0, 1, 1, 0, 0, 1, 1, 0]) ⟨(.slice lv ln lc :: undef :: (u0 2) :: undef :: ptA a52 :: undef :: (u0 6) :: .slice lv ln lc :: vi (ln : Int) :: vi (j : Int) :: .bool true :: .pointer (some ⟨LB, LO + Int.toNat (j : Int) * 5, none⟩) :: .agg #[vi ((nd j).k), vu ((nd j).i), .string ((nd j).s), .slice (nd j).ba ((nd j).bn) ((nd j).bc), .slice (nd j).pa ((nd j).pm) ((nd j).pc)] :: .pointer (some ⟨a52, 4, none⟩) :: .slice (nd j).pa ((nd j).pm) ((nd j).pc) :: vi (((nd j).pm : Nat) : Int) :: vi 0 :: urun u0 17 13 (undef :: undef :: undef :: [])), [], [some (a52, .row [vi ((nd j).k), vu ((nd j).i), .string ((nd j).s), .slice (nd j).ba ((nd j).bn) ((nd j).bc), .slice (nd j).pa ((nd j).pm) ((nd j).pc)] 36 5)]⟩ R (small_ok_L5_K lv ln lc LB LO nd j u0 a52 R) :=
  CT.loop_eqs (small_ok_L5_inv lv ln lc LB LO nd j u0 a52) (small_ok_L5_I lv ln lc LB LO nd j u0 a52 R) (small_ok_L5_mu lv ln lc LB LO nd j u0 a52) (fun zw => (0, zw)) (by kernel_rfl) (by kernel_rfl) ⟨rfl, (show 0 ≤ (nd j).pm from (Nat.zero_le _))⟩
    (by
      rintro ⟨i, u53⟩ G hG ⟨rfl, hI⟩
      exact small_ok_L5_body lv ln lc LB LO nd j u0 a52 _ hj hln hnd i u53 hI)
noncomputable def small_ok_L2_inv (lv : Option Addr) (ln lc LB LO : Nat) (nd : Nat → ND)  : Nat × NV → St := fun zx => ⟨(.slice lv ln lc :: undef :: (zx.2 2) :: undef :: (zx.2 4) :: undef :: (zx.2 6) :: .slice lv ln lc :: vi (ln : Int) :: vi ((zx.1 : Nat) : Int) :: urun zx.2 10 20 (undef :: undef :: undef :: [])), [], []⟩
def small_ok_L2_I (lv : Option Addr) (ln lc LB LO : Nat) (nd : Nat → ND)  (R : RO) : Nat × NV → RO → Prop := fun zx G => G = R ∧ (zx.1 ≤ ln)
def small_ok_L2_mu (lv : Option Addr) (ln lc LB LO : Nat) (nd : Nat → ND)  : Nat × NV → Nat := fun zx => ln - zx.1
noncomputable def small_ok_L2_K (lv : Option Addr) (ln lc LB LO : Nat) (nd : Nat → ND)  (R : RO) : Exit' → St → RO → Prop := altPost R (.alt (Nat × NV) (fun zx => True) (fun zx => (.exit 0, ((small_ok_L2_inv lv ln lc LB LO nd zx).up [] []))) (fun _ => .altn) (.alt (Nat × NV) (fun zx => True) (fun zx => (.ret, ((small_ok_L2_inv lv ln lc LB LO nd zx).up [(2, .bool false)] []))) (fun _ => .altn) .altn))
theorem small_ok_L2_body (lv : Option Addr) (ln lc LB LO : Nat) (nd : Nat → ND)  (R : RO) (hln : ln ≤ 1048576) (hnd : ∀ j, j < ln → lv = some ⟨LB, LO, none⟩ ∧ R.cells LB (LO + j * 5) (nd j).row ∧ (nd j).Ok R) (j : Nat) (u0 : Nat → Value) (hI : j ≤ ln) : CT Tryd.prog (sub (bodyOf Tryd.f9) [1, 0, 1, 0, 0]) (small_ok_L2_inv lv ln lc LB LO nd (j, u0)) R (LK (small_ok_L2_inv lv ln lc LB LO nd) (small_ok_L2_I lv ln lc LB LO nd R) (small_ok_L2_mu lv ln lc LB LO nd) (small_ok_L2_K lv ln lc LB LO nd R) (j, u0)) :=
  CT.of_wp_eq (VC := (let z6 := (small_ok_L2_mu lv ln lc LB LO nd); let z5 := (small_ok_L2_K lv ln lc LB LO nd R); let z4 := (small_ok_L2_I lv ln lc LB LO nd R); let z3 := (small_ok_L2_inv lv ln lc LB LO nd); let z2 : Option Addr := (some ⟨LB, LO + Int.toNat (j : Int) * 5, none⟩); let z1 : Array Value := #[vi ((nd j).k), vu ((nd j).i), .string ((nd j).s), .slice (nd j).ba ((nd j).bn) ((nd j).bc), .slice (nd j).pa ((nd j).pm) ((nd j).pc)]; let z0 : List Value := [vi ((nd j).k), vu ((nd j).i), .string ((nd j).s), .slice (nd j).ba ((nd j).bn) ((nd j).bc), .slice (nd j).pa ((nd j).pm) ((nd j).pc)]; ((decide ((j : Int) < (ln : Int))) = true → (lv = some ⟨LB, LO, none⟩ ∧ (0 : Int) ≤ (j : Int) ∧ ((j : Int) : Int) < (ln : Int)) ∧ (R.cells LB (LO + Int.toNat (j : Int) * 5) z0) ∧ ∀ a52 : Nat, (a52 = a52) ∧ (a52 = a52) ∧ (CT Tryd.prog (sub (bodyOf Tryd.f9) [1, 0, 1, 0, 0, 1, 1, 0, 0, 1, 1, 0]) ⟨(.slice lv ln lc :: undef :: (u0 2) :: undef :: ptA a52 :: undef :: (u0 6) :: .slice lv ln lc :: vi (ln : Int) :: vi (j : Int) :: .bool true :: .pointer z2 :: .agg z1 :: .pointer (some ⟨a52, 4, none⟩) :: .slice (nd j).pa ((nd j).pm) ((nd j).pc) :: vi (((nd j).pm : Nat) : Int) :: vi 0 :: urun u0 17 13 (undef :: undef :: undef :: [])), [], [some (a52, .row z0 36 5)]⟩ R (small_ok_L5_K lv ln lc LB LO nd j u0 a52 R)) ∧ (∀ x54 : Nat × NV, (True) → (NW .i64 ((j : Int) + 1)) ∧ LK z3 z4 z6 z5 (j, u0) .normal ⟨(.slice lv ln lc :: undef :: (x54.2 2) :: undef :: ptA a52 :: undef :: (x54.2 6) :: .slice lv ln lc :: vi (ln : Int) :: vi ((j : Int) + 1) :: .bool true :: .pointer z2 :: .agg z1 :: .pointer (some ⟨a52, 4, none⟩) :: .slice (nd j).pa ((nd j).pm) ((nd j).pc) :: vi (((nd j).pm : Nat) : Int) :: vi (x54.1 : Int) :: urun x54.2 17 12 (vi ((j : Int) + 1) :: undef :: undef :: undef :: [])), [], [some (a52, .row z0 36 5)]⟩ R) ∧ ((∀ x55 : Nat × NV, (True) → LK z3 z4 z6 z5 (j, u0) (.ret) ⟨(.slice lv ln lc :: undef :: .bool false :: undef :: ptA a52 :: undef :: (x55.2 6) :: .slice lv ln lc :: vi (ln : Int) :: vi (j : Int) :: .bool true :: .pointer z2 :: .agg z1 :: .pointer (some ⟨a52, 4, none⟩) :: .slice (nd j).pa ((nd j).pm) ((nd j).pc) :: vi (((nd j).pm : Nat) : Int) :: vi (x55.1 : Int) :: urun x55.2 17 12 ((u0 29) :: undef :: undef :: undef :: [])), [], [some (a52, .row z0 36 5)]⟩ R) ∧ True)) ∧ ((decide ((j : Int) < (ln : Int))) = false → LK z3 z4 z6 z5 (j, u0) (.exit 0) ((small_ok_L2_inv lv ln lc LB LO nd (j, u0)).up [(10, .bool false)] []) R))) (ops [.d] (.sp 10 (ops [.ib LB LO, .ro (fun v => [vi ((nd j).k), vu ((nd j).i), .string ((nd j).s), .slice (nd j).ba ((nd j).bn) ((nd j).bc), .slice (nd j).pa ((nd j).pm) ((nd j).pc)])] (.opn 0 (fun a52 => (ops [.p 0, .d, .p 0, .d, .d] (.alt (Nat × NV) (fun zx => True) (fun zx => (.exit 2, ((small_ok_L5_inv lv ln lc LB LO nd j u0 a52 zx).up [] [some (a52, .row [vi ((nd j).k), vu ((nd j).i), .string ((nd j).s), .slice (nd j).ba ((nd j).bn) ((nd j).bc), .slice (nd j).pa ((nd j).pm) ((nd j).pc)] 36 5)]))) (fun x54 => (ops [.nw, .d] (.fin [] []))) (.alt (Nat × NV) (fun zx => True) (fun zx => (.ret, ((small_ok_L5_inv lv ln lc LB LO nd j u0 a52 zx).up [(2, .bool false)] [some (a52, .row [vi ((nd j).k), vu ((nd j).i), .string ((nd j).s), .slice (nd j).ba ((nd j).bn) ((nd j).bc), .slice (nd j).pa ((nd j).pm) ((nd j).pc)] 36 5)]))) (fun x55 => (.fin [] [])) .altn)))))) (.fin [] []))) (by kernel_rfl)
    (⟨fun h51 => (have := of_decide_eq_true h51; ⟨⟨(hnd j (by omega)).1, by omega, by omega⟩, ⟨(hnd j (by omega)).2.1, fun a52 => ⟨rfl, ⟨rfl, ⟨small_ok_L5_ct lv ln lc LB LO nd j u0 a52 R (by omega) hln hnd, ⟨fun x54 qx54 => ⟨(nwI (by omega) (by have h9 := (hnd j (by omega)).2.2.pl; omega)), LKn (fun zw => ((j + 1), zw)) ⟨⟨rfl, (show (j + 1) ≤ ln from (by omega))⟩, (show ln - (j + 1) < ln - j from (by omega)), ⟨rfl, rfl, rfl⟩⟩⟩, ⟨fun x55 qx55 => Or.inr (altA (fun zw => (j, zw)) ⟨(show True from trivial), (by show _ = _; kernel_rfl), ⟨(by show _ = _; kernel_rfl), (by show _ = _; kernel_rfl), (by show _ = _; kernel_rfl)⟩⟩), trivial⟩⟩⟩⟩⟩⟩⟩), fun h51 => (have := of_decide_eq_false h51; altA (fun zw => (j, zw)) ⟨(show True from trivial), (by show _ = _; kernel_rfl), ⟨(by show _ = _; kernel_rfl), (by show _ = _; kernel_rfl), (by show _ = _; kernel_rfl)⟩⟩)⟩)
theorem small_ok_L2_ct (lv : Option Addr) (ln lc LB LO : Nat) (nd : Nat → ND)  (R : RO) (hln : ln ≤ 1048576) (hnd : ∀ j, j < ln → lv = some ⟨LB, LO, none⟩ ∧ R.cells LB (LO + j * 5) (nd j).row ∧ (nd j).Ok R)  : CT Tryd.prog (sub (bodyOf Tryd.f9) [1, 0, 1, 0]) ⟨(.slice lv ln lc :: undef :: .bool false :: uns 4 (.slice lv ln lc :: vi (ln : Int) :: vi 0 :: uns 23 [])), [], []⟩ R (small_ok_L2_K lv ln lc LB LO nd R) :=
  CT.loop_eqs (small_ok_L2_inv lv ln lc LB LO nd) (small_ok_L2_I lv ln lc LB LO nd R) (small_ok_L2_mu lv ln lc LB LO nd) (fun zw => (0, zw)) (by kernel_rfl) (by kernel_rfl) ⟨rfl, (show 0 ≤ ln from (Nat.zero_le _))⟩
    (by
      rintro ⟨j, u0⟩ G hG ⟨rfl, hI⟩
      exact small_ok_L2_body lv ln lc LB LO nd _ hln hnd j u0 hI)
theorem small_ok (lv : Option Addr) (ln lc LB LO : Nat) (nd : Nat → ND) (R : RO) (hln : ln ≤ 1048576) (hnd : ∀ j, j < ln → lv = some ⟨LB, LO, none⟩ ∧ R.cells LB (LO + j * 5) (nd j).row ∧ (nd j).Ok R) : GivesX Tryd.prog 9 [.slice lv ln lc] R [] (Bool) (fun x => (.bool x, [])) :=
  Does.of_wp_eq (VC := ((CT Tryd.prog (sub (bodyOf Tryd.f9) [1, 0, 1, 0]) ⟨(.slice lv ln lc :: undef :: .bool false :: uns 4 (.slice lv ln lc :: vi (ln : Int) :: vi 0 :: uns 23 [])), [], []⟩ R (small_ok_L2_K lv ln lc LB LO nd R)) ∧ (∀ x1 : Nat × NV, (True) → GX R (Bool) (fun x => (.bool x, [])) (.ret (.bool (decide ((ln : Int) ≤ 60)))) R []) ∧ ((∀ x2 : Nat × NV, (True) → GX R (Bool) (fun x => (.bool x, [])) (.ret (.bool false)) R []) ∧ True))) (ops [.d, .d, .d, .d] (.alt (Nat × NV) (fun zx => True) (fun zx => (.exit 0, ((small_ok_L2_inv lv ln lc LB LO nd zx).up [] []))) (fun x1 => (ops [.d, .d, .d, .d] (.fin [] []))) (.alt (Nat × NV) (fun zx => True) (fun zx => (.ret, ((small_ok_L2_inv lv ln lc LB LO nd zx).up [(2, .bool false)] []))) (fun x2 => (.fin [] [])) .altn))) Tryd.func9 (by kernel_rfl) (by kernel_rfl)
    (⟨small_ok_L2_ct lv ln lc LB LO nd R hln hnd, ⟨fun x1 qx1 => ⟨rfl, (decide ((ln : Int) ≤ 60)), (by rfl), (by rfl)⟩, ⟨fun x2 qx2 => ⟨rfl, false, (by rfl), (by rfl)⟩, trivial⟩⟩⟩)
end Go.Proofs.YtejpoojgbnppoaaDoor
namespace Go.Proofs.YtejpoojgbnppoaaDoor
open Vc Go
set_option linter.unusedVariables false
set_option linter.unusedSimpArgs false

def L.nil : L := ⟨0, 0, .empty, none, 0, 0, 0, 0, fun j => j.elim0, none, 0, 0, 0, 0, fun _ => (0, 0)⟩
def zat (zs : List L) (k : Nat) : L := zs.getD k L.nil
def kat (ks : List Nat) (k : Nat) : Nat := ks.getD k 0
def intsN (ks : List Nat) : List Value := ks.map fun k => .int .i64 ((k : Nat) : Int)
theorem zat_get {zs : List L} {k : Nat} (h : k < zs.length) : zat zs k = zs[k] := by simp [zat, List.getElem?_eq_getElem h]
theorem zat_snoc {zs : List L} {z : L} {k : Nat} : zat (zs ++ [z]) k = if k < zs.length then zat zs k else if k = zs.length then z else L.nil := by
  unfold zat
  rw [List.getD_eq_getElem?_getD, List.getD_eq_getElem?_getD, List.getElem?_append]
  split
  · rfl
  · split
    · rename_i h; subst h; simp
    · rw [List.getElem?_eq_none (by simp; omega)]; rfl
theorem kat_snoc {ks : List Nat} {z k : Nat} : kat (ks ++ [z]) k = if k < ks.length then kat ks k else if k = ks.length then z else 0 := by
  unfold kat
  rw [List.getD_eq_getElem?_getD, List.getD_eq_getElem?_getD, List.getElem?_append]
  split
  · rfl
  · split
    · rename_i h; subst h; simp
    · rw [List.getElem?_eq_none (by simp; omega)]; rfl
theorem intsN_len (ks : List Nat) : (intsN ks).length = ks.length * 1 := by simp [intsN]
theorem rd_L {zs : List L} {Lr : List Value} {k : Nat} (hr : Lr = rowsL zs) (h : k < zs.length) : readVar Tryd.prog 30 Lr (0 + k * 5) = some (zat zs k).v := by
  subst hr
  have h1 : tinfo Tryd.prog 30 = some (true, 5) := by kernel_rfl
  have h2 := rowsL_at h
  have h3 : 5 ≤ ((rowsL zs).drop (k * 5)).length := by rw [List.length_drop, rowsL_len]; omega
  unfold readVar
  rw [h1, Nat.zero_add]
  show (match takeL 5 ((rowsL zs).drop (k * 5)) with | some l => some (Value.agg l.toArray) | none => none) = _
  rw [takeL_of h3, h2, zat_get h]
  rfl
theorem rd_K {ks : List Nat} {Ls : List Value} {k : Nat} (hr : Ls = intsN ks) (h : k < ks.length) : readVar Tryd.prog 3 Ls (0 + k * 1) = some (vi ((kat ks k : Nat) : Int)) := by
  subst hr
  rw [readVar_one (n := 1) (by kernel_rfl), show 0 + k * 1 = k by omega]
  simp [intsN, kat, List.getElem?_eq_getElem h]
/-- What was made of the nodes so far. -/
structure MI (G : RO) (j : Nat) (b : Option Nat) (cap : Nat) (Lr : List Value) (zs : List L) (b2 : Option Nat) (cap2 : Nat) (Ls : List Value) (ks : List Nat) : Prop where
  zl : zs.length = j
  kl : ks.length = j
  b0 : b = none → cap = 0
  jc : j ≤ cap
  cm : cap ≤ maxLen
  c0 : b2 = none → cap2 = 0
  jd : j ≤ cap2
  dm : cap2 ≤ maxLen
  rows : Lr = rowsL zs
  ints : Ls = intsN ks
  all : ∀ i, i < j → (zat zs i).ok G ∧ (zat zs i).t.okn ∧ (1 ≤ kat ks i ∧ kat ks i ≤ 300) ∧ (zat zs i).t.wt + 1 ≤ 1621 * kat ks i
theorem MI.mono {R S : RO} (h : R.le S) {j : Nat} {b : Option Nat} {cap : Nat} {Lr : List Value} {zs : List L} {b2 : Option Nat} {cap2 : Nat} {Ls : List Value} {ks : List Nat} (m : MI R j b cap Lr zs b2 cap2 Ls ks) : MI S j b cap Lr zs b2 cap2 Ls ks :=
  ⟨m.zl, m.kl, m.b0, m.jc, m.cm, m.c0, m.jd, m.dm, m.rows, m.ints, fun i hi => ⟨L.ok_mono h _ (m.all i hi).1, (m.all i hi).2⟩⟩
/-- What was made of a node's places so far. -/
structure WI (G : RO) (bn i k n : Nat) (cb : Option Nat) (cc : Nat) (Lw : List Value) (ws : List L) : Prop where
  ib : i ≤ bn
  wl : ws.length = n
  ni : n ≤ i
  c0 : cb = none → cc = 0
  nc : n ≤ cc
  cm : cc ≤ maxLen
  rows : Lw = rowsL ws
  k1 : 1 ≤ k
  kb : k ≤ 1 + 300 * i
  all : ∀ z ∈ ws, z.ok G ∧ z.t.okn
  sum : T.wtL (ws.map L.t) + 1621 ≤ 1621 * k
theorem WI.mono {R S : RO} (h : R.le S) {bn i k n : Nat} {cb : Option Nat} {cc : Nat} {Lw : List Value} {ws : List L} (m : WI R bn i k n cb cc Lw ws) : WI S bn i k n cb cc Lw ws :=
  ⟨m.ib, m.wl, m.ni, m.c0, m.nc, m.cm, m.rows, m.k1, m.kb, fun z hz => ⟨L.ok_mono h _ (m.all z hz).1, (m.all z hz).2⟩, m.sum⟩
theorem WI.begin (G : RO) (bn : Nat) : WI G bn 0 1 0 none 0 [] [] :=
  ⟨Nat.zero_le _, rfl, Nat.le_refl _, fun _ => rfl, Nat.le_refl _, Nat.zero_le _, rfl, Nat.le_refl _, Nat.le_refl _, fun z hz => (by cases hz), Nat.le_refl _⟩
theorem WI.skip {G : RO} {bn i k n : Nat} {cb : Option Nat} {cc : Nat} {Lw : List Value} {ws : List L} (m : WI G bn i k n cb cc Lw ws) (h : i < bn) : WI G bn (i + 1) k n cb cc Lw ws :=
  ⟨h, m.wl, by have := m.ni; omega, m.c0, m.nc, m.cm, m.rows, m.k1, by have := m.kb; omega, m.all, m.sum⟩
theorem T.wtL_snoc (l : List T) (a : T) : T.wtL (l ++ [a]) = T.wtL l + a.wt + 1 := by
  induction l with
  | nil => show a.wt + 1 + 0 = 0 + a.wt + 1; omega
  | cons x l ih => show x.wt + 1 + T.wtL (l ++ [a]) = x.wt + 1 + T.wtL l + a.wt + 1; rw [ih]; omega
theorem WI.step {G : RO} {bn i k n j m : Nat} {cb : Option Nat} {cc a c : Nat} {Lw : List Value} {ws : List L} {b : Option Nat} {cap : Nat} {Lr : List Value} {zs : List L} {b2 : Option Nat} {cap2 : Nat} {Ls : List Value} {ks : List Nat}
    (w : WI G bn i k n cb cc Lw ws) (M : MI G j b cap Lr zs b2 cap2 Ls ks) (h : i < bn) (hm : m < j) (h1 : n + 1 ≤ c) (h2 : c ≤ maxLen) :
    WI G bn (i + 1) (k + kat ks m) (n + 1) (some a) c (Lw ++ (zat zs m).row) (ws ++ [zat zs m]) := by
  obtain ⟨a1, a2, a3, a4⟩ := M.all m hm
  refine ⟨h, by rw [List.length_append, w.wl]; rfl, by have := w.ni; omega, fun h => (by cases h), h1, h2, by rw [rowsL_snoc, w.rows], by have := w.k1; omega, by have := w.kb; omega, fun z hz => ?_, ?_⟩
  · rcases List.mem_append.1 hz with hz | hz
    · exact w.all z hz
    · rcases List.mem_singleton.1 hz with rfl; exact ⟨a1, a2⟩
  · rw [List.map_append, List.map_singleton, T.wtL_snoc]; have := w.sum; rw [Nat.mul_add]; omega
/-- The term of a node. -/
def mdL (x : ND) (n : Nat) (cb : Option Nat) (cc : Nat) (ws : List L) : L := ⟨x.k, x.i, x.s, cb.map fun a => ⟨a, 0, none⟩, n, cc, cb.getD 0, 0, fun i => zat ws i, x.pa, x.pm, x.pc, x.PB, x.PO, x.pw⟩
theorem mdL_t {x : ND} {n : Nat} {cb : Option Nat} {cc : Nat} {ws : List L} (h : ws.length = n) : (mdL x n cb cc ws).t = .mk x.k x.i x.s (ws.map L.t) ((List.range x.pm).map x.pw) := by
  rw [L.t_eq]
  have : ((List.range (mdL x n cb cc ws).n).map fun j => ((mdL x n cb cc ws).kid j).t) = ws.map L.t := by
    apply List.ext_getElem (by simp [mdL, h])
    intro i h1 h2
    simp only [List.length_map] at h2
    simp only [List.getElem_map, List.getElem_range]
    rw [L.kid_pos (y := mdL x n cb cc ws) (show i < n by omega)]
    exact congrArg L.t (zat_get h2)
  rw [this]; rfl
theorem mdL_ok {G : RO} {x : ND} {bn i k n : Nat} {cb : Option Nat} {cc : Nat} {Lw : List Value} {ws : List L} (w : WI G bn i k n cb cc Lw ws) (hx : x.Ok G) (hc : ∀ a, cb = some a → G.cells a 0 Lw) : (mdL x n cb cc ws).ok G := by
  have h1 := hx.pl
  rw [L.ok_eq]
  refine ⟨⟨w.nc, w.cm, h1.1, by show x.pc ≤ maxLen; simp only [maxLen]; omega⟩, fun j hj => ?_, fun j hj => ⟨(hx.pp j hj).1, (hx.pp j hj).2.1⟩⟩
  have hj' : j < n := hj
  have hj2 : j < ws.length := by rw [w.wl]; exact hj'
  rw [L.kid_pos hj]
  cases cb with
  | none => have := w.c0 rfl; have := w.nc; omega
  | some a =>
    have e : (mdL x n (some a) cc ws).kd ⟨j, hj⟩ = ws[j] := zat_get hj2
    rw [e]
    refine ⟨rfl, ?_, (w.all _ (List.getElem_mem ..)).1⟩
    have h2 := hc a rfl
    rw [w.rows] at h2
    exact RO.cells_sub (i := j * 5) h2 (l := ws[j].row) (rowsL_at hj2)
theorem mdL_okn {G : RO} {x : ND} {bn i k n : Nat} {cb : Option Nat} {cc : Nat} {Lw : List Value} {ws : List L} (w : WI G bn i k n cb cc Lw ws) (hx : x.Ok G) : (mdL x n cb cc ws).t.okn := by
  rw [mdL_t w.wl]
  refine ⟨⟨hx.k0, hx.k1⟩, ⟨hx.i0, hx.i1⟩, fun p hp => ?_, (T.oknL_iff _).2 fun t ht => ?_⟩
  · obtain ⟨j, hj, rfl⟩ := List.mem_map.1 hp
    exact (hx.pp j (List.mem_range.1 hj)).2.2
  · obtain ⟨z, hz, rfl⟩ := List.mem_map.1 ht
    exact (w.all z hz).2
theorem mdL_wt {G : RO} {x : ND} {bn i k n : Nat} {cb : Option Nat} {cc : Nat} {Lw : List Value} {ws : List L} (w : WI G bn i k n cb cc Lw ws) (h1 : x.s.size ≤ 60) (h2 : x.pm ≤ 20) : (mdL x n cb cc ws).t.wt + 1 ≤ 1621 * k := by
  rw [mdL_t w.wl]
  have h3 : ((List.range x.pm).map x.pw).length = x.pm := by simp
  have := w.sum
  show 300 + 2 * x.s.size + 60 * ((List.range x.pm).map x.pw).length + T.wtL (ws.map L.t) + 1 ≤ _
  rw [h3]; omega
theorem MI.begin (G : RO) : MI G 0 none 0 [] [] none 0 [] [] :=
  ⟨rfl, rfl, fun _ => rfl, Nat.le_refl _, Nat.zero_le _, fun _ => rfl, Nat.le_refl _, Nat.zero_le _, rfl, rfl, fun i hi => by omega⟩
theorem MI.step {G : RO} {x : ND} {bn i k n j : Nat} {cb : Option Nat} {cc a c a' c' : Nat} {Lw : List Value} {ws : List L} {b : Option Nat} {cap : Nat} {Lr : List Value} {zs : List L} {b2 : Option Nat} {cap2 : Nat} {Ls : List Value} {ks : List Nat}
    (M : MI G j b cap Lr zs b2 cap2 Ls ks) (w : WI G bn i k n cb cc Lw ws) (hx : x.Ok G) (hc : ∀ a, cb = some a → G.cells a 0 Lw) (hk : k ≤ 300) (h1 : x.s.size ≤ 60) (h2 : x.pm ≤ 20) (c1 : j + 1 ≤ c) (c2 : c ≤ maxLen) (d1 : j + 1 ≤ c') (d2 : c' ≤ maxLen) :
    MI G (j + 1) (some a) c (Lr ++ (mdL x n cb cc ws).row) (zs ++ [mdL x n cb cc ws]) (some a') c' (Ls ++ [vi (k : Int)]) (ks ++ [k]) := by
  refine ⟨by rw [List.length_append, M.zl]; rfl, by rw [List.length_append, M.kl]; rfl, fun h => (by cases h), c1, c2, fun h => (by cases h), d1, d2, by rw [rowsL_snoc, M.rows], by rw [M.ints]; simp [intsN], fun i hi => ?_⟩
  rw [zat_snoc, kat_snoc, M.zl, M.kl]
  by_cases h : i < j
  · rw [if_pos h, if_pos h]; exact M.all i h
  · rw [if_neg h, if_neg h, if_pos (show i = j by omega), if_pos (show i = j by omega)]
    exact ⟨mdL_ok w hx hc, mdL_okn w hx, ⟨w.k1, hk⟩, mdL_wt w h1 h2⟩
theorem hnd_mono {R S : RO} (h : R.le S) {lv : Option Addr} {ln LB LO : Nat} {nd : Nat → ND} (hnd : ∀ j, j < ln → lv = some ⟨LB, LO, none⟩ ∧ R.cells LB (LO + j * 5) (nd j).row ∧ (nd j).Ok R) :
    ∀ j, j < ln → lv = some ⟨LB, LO, none⟩ ∧ S.cells LB (LO + j * 5) (nd j).row ∧ (nd j).Ok S := fun j hj => ⟨(hnd j hj).1, RO.cells_mono h (hnd j hj).2.1, (hnd j hj).2.2.mono h⟩


theorem made_end {G : RO} {j : Nat} {b : Option Nat} {cap : Nat} {Lr : List Value} {zs : List L} {b2 : Option Nat} {cap2 : Nat} {Ls : List Value} {ks : List Nat} (M : MI G j b cap Lr zs b2 cap2 Ls ks) {i : Nat} (h : i < j) :
    (zat zs i).ok G ∧ (zat zs i).t.okn ∧ (zat zs i).t.wt ≤ 490000 := by
  obtain ⟨h1, h2, h3, h4⟩ := M.all i h
  exact ⟨h1, h2, by omega⟩

noncomputable def made_ok_L9_inv (lv : Option Addr) (ln lc LB LO : Nat) (nd : Nat → ND) (a0 : Nat) (j : Nat) (b : Option Nat) (cap : Nat) (Lr : List Value) (b2 : Option Nat) (cap2 : Nat) (Ls : List Value) (u1 : Nat → Value) (a53 : Nat) (a54 : Nat) (zs : List L) (ks : List Nat) : Nat × Nat × Nat × (Option Nat) × Nat × (List Value) × (List L) × NV → St := fun zx => ⟨(.slice lv ln lc :: undef :: ptA a0 :: (u1 3) :: gsv b j cap :: gsv b2 j cap2 :: vi (j : Int) :: ptA a53 :: ptA a54 :: vi ((zx.2.1 : Nat) : Int) :: undef :: (zx.2.2.2.2.2.2.2 11) :: (zx.2.2.2.2.2.2.2 12) :: .slice lv ln lc :: vi (ln : Int) :: vi (j : Int) :: .bool true :: vi (j : Int) :: .pointer (some ⟨LB, LO + Int.toNat (j : Int) * 5, none⟩) :: .agg #[vi ((nd j).k), vu ((nd j).i), .string ((nd j).s), .slice (nd j).ba ((nd j).bn) ((nd j).bc), .slice (nd j).pa ((nd j).pm) ((nd j).pc)] :: ptA a53 :: vi ((nd j).k) :: .pointer (some ⟨a53, 1, none⟩) :: vu ((nd j).i) :: .pointer (some ⟨a53, 2, none⟩) :: .string ((nd j).s) :: .pointer (some ⟨a53, 4, none⟩) :: .slice (nd j).pa ((nd j).pm) ((nd j).pc) :: .agg #[vi ((nd j).k), vu ((nd j).i), .string ((nd j).s), .slice none 0 0, .slice (nd j).pa ((nd j).pm) ((nd j).pc)] :: .pointer (some ⟨a53, 3, none⟩) :: .slice (nd j).ba ((nd j).bn) ((nd j).bc) :: vi (((nd j).bn : Nat) : Int) :: vi ((zx.1 : Nat) : Int) :: urun zx.2.2.2.2.2.2.2 33 26 (urun u1 59 30 (uns 10 []))), [], [some (a0, .row [vi 0, vu 0, .string ByteArray.empty, .slice none 0 0, .slice none 0 0] 30 5), gsb b Lr 30 (cap * 5), gsb b2 Ls 3 (cap2 * 1), some (a53, .row [vi ((nd j).k), vu ((nd j).i), .string ((nd j).s), .slice (nd j).ba ((nd j).bn) ((nd j).bc), .slice (nd j).pa ((nd j).pm) ((nd j).pc)] 36 5), some (a54, .row [vi ((nd j).k), vu ((nd j).i), .string ((nd j).s), gsv zx.2.2.2.1 zx.2.2.1 zx.2.2.2.2.1, .slice (nd j).pa ((nd j).pm) ((nd j).pc)] 30 5), gsb zx.2.2.2.1 zx.2.2.2.2.2.1 30 (zx.2.2.2.2.1 * 5)]⟩
def made_ok_L9_I (lv : Option Addr) (ln lc LB LO : Nat) (nd : Nat → ND) (a0 : Nat) (j : Nat) (b : Option Nat) (cap : Nat) (Lr : List Value) (b2 : Option Nat) (cap2 : Nat) (Ls : List Value) (u1 : Nat → Value) (a53 : Nat) (a54 : Nat) (zs : List L) (ks : List Nat) (R : RO) : Nat × Nat × Nat × (Option Nat) × Nat × (List Value) × (List L) × NV → RO → Prop := fun zx G => G = R ∧ (WI R (nd j).bn zx.1 zx.2.1 zx.2.2.1 zx.2.2.2.1 zx.2.2.2.2.1 zx.2.2.2.2.2.1 zx.2.2.2.2.2.2.1)
def made_ok_L9_mu (lv : Option Addr) (ln lc LB LO : Nat) (nd : Nat → ND) (a0 : Nat) (j : Nat) (b : Option Nat) (cap : Nat) (Lr : List Value) (b2 : Option Nat) (cap2 : Nat) (Ls : List Value) (u1 : Nat → Value) (a53 : Nat) (a54 : Nat) (zs : List L) (ks : List Nat) : Nat × Nat × Nat × (Option Nat) × Nat × (List Value) × (List L) × NV → Nat := fun zx => (nd j).bn - zx.1
noncomputable def made_ok_L9_K (lv : Option Addr) (ln lc LB LO : Nat) (nd : Nat → ND) (a0 : Nat) (j : Nat) (b : Option Nat) (cap : Nat) (Lr : List Value) (b2 : Option Nat) (cap2 : Nat) (Ls : List Value) (u1 : Nat → Value) (a53 : Nat) (a54 : Nat) (zs : List L) (ks : List Nat) (R : RO) : Exit' → St → RO → Prop := altPost R (.alt (Nat × Nat × Nat × (Option Nat) × Nat × (List Value) × (List L) × NV) (fun zx => zx.1 = (nd j).bn ∧ WI R (nd j).bn zx.1 zx.2.1 zx.2.2.1 zx.2.2.2.1 zx.2.2.2.2.1 zx.2.2.2.2.2.1 zx.2.2.2.2.2.2.1) (fun zx => (.exit 2, ((made_ok_L9_inv lv ln lc LB LO nd a0 j b cap Lr b2 cap2 Ls u1 a53 a54 zs ks zx).up [] [some (a0, .row [vi 0, vu 0, .string ByteArray.empty, .slice none 0 0, .slice none 0 0] 30 5), gsb b Lr 30 (cap * 5), gsb b2 Ls 3 (cap2 * 1), some (a53, .row [vi ((nd j).k), vu ((nd j).i), .string ((nd j).s), .slice (nd j).ba ((nd j).bn) ((nd j).bc), .slice (nd j).pa ((nd j).pm) ((nd j).pc)] 36 5), some (a54, .row [vi ((nd j).k), vu ((nd j).i), .string ((nd j).s), gsv zx.2.2.2.1 zx.2.2.1 zx.2.2.2.2.1, .slice (nd j).pa ((nd j).pm) ((nd j).pc)] 30 5), gsb zx.2.2.2.1 zx.2.2.2.2.2.1 30 (zx.2.2.2.2.1 * 5)]))) (fun _ => .altn) .altn)
theorem made_ok_L9_body (lv : Option Addr) (ln lc LB LO : Nat) (nd : Nat → ND) (a0 : Nat) (j : Nat) (b : Option Nat) (cap : Nat) (Lr : List Value) (b2 : Option Nat) (cap2 : Nat) (Ls : List Value) (u1 : Nat → Value) (a53 : Nat) (a54 : Nat) (zs : List L) (ks : List Nat) (R : RO) (hln : ln ≤ 1048576) (hnd : ∀ j, j < ln → lv = some ⟨LB, LO, none⟩ ∧ R.cells LB (LO + j * 5) (nd j).row ∧ (nd j).Ok R) (hj : j < ln) (hM : MI R j b cap Lr zs b2 cap2 Ls ks) (i : Nat) (k : Nat) (n : Nat) (cb : Option Nat) (cc : Nat) (Lw : List Value) (ws : List L) (u55 : Nat → Value) (hI : WI R (nd j).bn i k n cb cc Lw ws) : CT Tryd.prog (sub (bodyOf Tryd.f8) [1, 1, 1, 0, 1, 0, 0, 1, 1, 0, 0, 1, 1, 1, 0, 1, 0, 0]) (made_ok_L9_inv lv ln lc LB LO nd a0 j b cap Lr b2 cap2 Ls u1 a53 a54 zs ks (i, k, n, cb, cc, Lw, ws, u55)) R (LK (made_ok_L9_inv lv ln lc LB LO nd a0 j b cap Lr b2 cap2 Ls u1 a53 a54 zs ks) (made_ok_L9_I lv ln lc LB LO nd a0 j b cap Lr b2 cap2 Ls u1 a53 a54 zs ks R) (made_ok_L9_mu lv ln lc LB LO nd a0 j b cap Lr b2 cap2 Ls u1 a53 a54 zs ks) (made_ok_L9_K lv ln lc LB LO nd a0 j b cap Lr b2 cap2 Ls u1 a53 a54 zs ks R) (i, k, n, cb, cc, Lw, ws, u55)) :=
  CT.of_wp_eq (VC := (let z22 := (urun u1 59 30 (uns 10 [])); let z20 := ((i : Int) + 1); let z19 := (made_ok_L9_inv lv ln lc LB LO nd a0 j b cap Lr b2 cap2 Ls u1 a53 a54 zs ks (i, k, n, cb, cc, Lw, ws, u55)); let z17 := ((j : Int) - 1); let z16 := (made_ok_L9_mu lv ln lc LB LO nd a0 j b cap Lr b2 cap2 Ls u1 a53 a54 zs ks); let z15 := (made_ok_L9_K lv ln lc LB LO nd a0 j b cap Lr b2 cap2 Ls u1 a53 a54 zs ks R); let z14 := (made_ok_L9_I lv ln lc LB LO nd a0 j b cap Lr b2 cap2 Ls u1 a53 a54 zs ks R); let z13 := (made_ok_L9_inv lv ln lc LB LO nd a0 j b cap Lr b2 cap2 Ls u1 a53 a54 zs ks); let z12 := (((nd j).bn : Nat) : Int); let z11 : Option Addr := (some ⟨LB, LO + Int.toNat (j : Int) * 5, none⟩); let z10 : List Value := [vi ((nd j).k), vu ((nd j).i), .string ((nd j).s), gsv cb n cc, .slice (nd j).pa ((nd j).pm) ((nd j).pc)]; let z9 : List Value := [vi 0, vu 0, .string ByteArray.empty, .slice none 0 0, .slice none 0 0]; let z8 : Option Addr := (some ⟨(nd j).BB, (nd j).BO + Int.toNat (i : Int) * 1, none⟩); let z5 : Array Value := #[vi ((nd j).k), vu ((nd j).i), .string ((nd j).s), .slice none 0 0, .slice (nd j).pa ((nd j).pm) ((nd j).pc)]; let z4 : List Value := [vi ((nd j).k), vu ((nd j).i), .string ((nd j).s), .slice (nd j).ba ((nd j).bn) ((nd j).bc), .slice (nd j).pa ((nd j).pm) ((nd j).pc)]; let z3 : Array Value := #[vi ((nd j).k), vu ((nd j).i), .string ((nd j).s), .slice (nd j).ba ((nd j).bn) ((nd j).bc), .slice (nd j).pa ((nd j).pm) ((nd j).pc)]; let z2 : Hp := [some (a0, .row z9 30 5), gsb b Lr 30 (cap * 5), gsb b2 Ls 3 (cap2 * 1), some (a53, .row z4 36 5), some (a54, .row z10 30 5), gsb cb Lw 30 (cc * 5)]; let z1 := (z17 - ((nd j).bk i)); let z18 := ((kat ks z1.toNat : Nat) : Int); let z0 := (zat zs z1.toNat); let z21 : Array Value := #[vi (z0.k), vu (z0.id), .string (z0.s), .slice z0.aa (z0.n) (z0.ac), .slice z0.pa (z0.m) (z0.pc)]; let z6 : List Value := [vi (z0.k), vu (z0.id), .string (z0.s), .slice z0.aa (z0.n) (z0.ac), .slice z0.pa (z0.m) (z0.pc)]; ((decide ((i : Int) < z12)) = true → ((nd j).ba = some ⟨(nd j).BB, (nd j).BO, none⟩ ∧ (0 : Int) ≤ (i : Int) ∧ ((i : Int) : Int) < z12) ∧ (R.cells (nd j).BB ((nd j).BO + Int.toNat (i : Int) * 1) [.int .u8 ((nd j).bk i)]) ∧ (NW .i64 z17) ∧ (IntKind.i64.wrap ((nd j).bk i) = ((nd j).bk i)) ∧ (NW .i64 z1) ∧ ((decide (z1 ≥ 0)) = true → (∃ a108 : Nat, b = some a108) ∧ ∀ a108 : Nat, let z7 : Hp := [some (a0, .row z9 30 5), gsb (some a108) Lr 30 (cap * 5), gsb b2 Ls 3 (cap2 * 1), some (a53, .row z4 36 5), some (a54, .row z10 30 5), gsb cb Lw 30 (cc * 5)]; b = some a108 → ((⟨(.slice lv ln lc :: undef :: ptA a0 :: (u1 3) :: gsv b j cap :: gsv b2 j cap2 :: vi (j : Int) :: ptA a53 :: ptA a54 :: vi (k : Int) :: undef :: .int .u8 ((nd j).bk i) :: vi z1 :: .slice lv ln lc :: vi (ln : Int) :: vi (j : Int) :: .bool true :: vi (j : Int) :: .pointer z11 :: .agg z3 :: ptA a53 :: vi ((nd j).k) :: .pointer (some ⟨a53, 1, none⟩) :: vu ((nd j).i) :: .pointer (some ⟨a53, 2, none⟩) :: .string ((nd j).s) :: .pointer (some ⟨a53, 4, none⟩) :: .slice (nd j).pa ((nd j).pm) ((nd j).pc) :: .agg z5 :: .pointer (some ⟨a53, 3, none⟩) :: .slice (nd j).ba ((nd j).bn) ((nd j).bc) :: vi z12 :: vi (i : Int) :: .bool true :: .pointer z8 :: .int .u8 ((nd j).bk i) :: vi (j : Int) :: vi z17 :: .int .u8 ((nd j).bk i) :: vi ((nd j).bk i) :: vi z1 :: vi z1 :: .bool true :: urun u55 43 16 z22), [], z2⟩ : St) = ⟨(.slice lv ln lc :: undef :: ptA a0 :: (u1 3) :: gsv (some a108) j cap :: gsv b2 j cap2 :: vi (j : Int) :: ptA a53 :: ptA a54 :: vi (k : Int) :: undef :: .int .u8 ((nd j).bk i) :: vi z1 :: .slice lv ln lc :: vi (ln : Int) :: vi (j : Int) :: .bool true :: vi (j : Int) :: .pointer z11 :: .agg z3 :: ptA a53 :: vi ((nd j).k) :: .pointer (some ⟨a53, 1, none⟩) :: vu ((nd j).i) :: .pointer (some ⟨a53, 2, none⟩) :: .string ((nd j).s) :: .pointer (some ⟨a53, 4, none⟩) :: .slice (nd j).pa ((nd j).pm) ((nd j).pc) :: .agg z5 :: .pointer (some ⟨a53, 3, none⟩) :: .slice (nd j).ba ((nd j).bn) ((nd j).bc) :: vi z12 :: vi (i : Int) :: .bool true :: .pointer z8 :: .int .u8 ((nd j).bk i) :: vi (j : Int) :: vi z17 :: .int .u8 ((nd j).bk i) :: vi ((nd j).bk i) :: vi z1 :: vi z1 :: .bool true :: urun u55 43 16 z22), [], z7⟩ ∧ (∃ a109 : Nat, b2 = some a109) ∧ ∀ a109 : Nat, b2 = some a109 → ((⟨(.slice lv ln lc :: undef :: ptA a0 :: (u1 3) :: gsv (some a108) j cap :: gsv b2 j cap2 :: vi (j : Int) :: ptA a53 :: ptA a54 :: vi (k : Int) :: undef :: .int .u8 ((nd j).bk i) :: vi z1 :: .slice lv ln lc :: vi (ln : Int) :: vi (j : Int) :: .bool true :: vi (j : Int) :: .pointer z11 :: .agg z3 :: ptA a53 :: vi ((nd j).k) :: .pointer (some ⟨a53, 1, none⟩) :: vu ((nd j).i) :: .pointer (some ⟨a53, 2, none⟩) :: .string ((nd j).s) :: .pointer (some ⟨a53, 4, none⟩) :: .slice (nd j).pa ((nd j).pm) ((nd j).pc) :: .agg z5 :: .pointer (some ⟨a53, 3, none⟩) :: .slice (nd j).ba ((nd j).bn) ((nd j).bc) :: vi z12 :: vi (i : Int) :: .bool true :: .pointer z8 :: .int .u8 ((nd j).bk i) :: vi (j : Int) :: vi z17 :: .int .u8 ((nd j).bk i) :: vi ((nd j).bk i) :: vi z1 :: vi z1 :: .bool true :: urun u55 43 16 z22), [], z7⟩ : St) = ⟨(.slice lv ln lc :: undef :: ptA a0 :: (u1 3) :: gsv (some a108) j cap :: gsv (some a109) j cap2 :: vi (j : Int) :: ptA a53 :: ptA a54 :: vi (k : Int) :: undef :: .int .u8 ((nd j).bk i) :: vi z1 :: .slice lv ln lc :: vi (ln : Int) :: vi (j : Int) :: .bool true :: vi (j : Int) :: .pointer z11 :: .agg z3 :: ptA a53 :: vi ((nd j).k) :: .pointer (some ⟨a53, 1, none⟩) :: vu ((nd j).i) :: .pointer (some ⟨a53, 2, none⟩) :: .string ((nd j).s) :: .pointer (some ⟨a53, 4, none⟩) :: .slice (nd j).pa ((nd j).pm) ((nd j).pc) :: .agg z5 :: .pointer (some ⟨a53, 3, none⟩) :: .slice (nd j).ba ((nd j).bn) ((nd j).bc) :: vi z12 :: vi (i : Int) :: .bool true :: .pointer z8 :: .int .u8 ((nd j).bk i) :: vi (j : Int) :: vi z17 :: .int .u8 ((nd j).bk i) :: vi ((nd j).bk i) :: vi z1 :: vi z1 :: .bool true :: urun u55 43 16 z22), [], [some (a0, .row z9 30 5), gsb (some a108) Lr 30 (cap * 5), gsb (some a109) Ls 3 (cap2 * 1), some (a53, .row z4 36 5), some (a54, .row z10 30 5), gsb cb Lw 30 (cc * 5)]⟩ ∧ (a54 = a54) ∧ (IB z1 (j : Nat)) ∧ (a108 = a108 ∧ readVar Tryd.prog 30 Lr (0 + Int.toNat z1 * 5) = some (.agg z21)) ∧ ∀ a110 : Nat, (PrimOK Tryd.prog (.app 27 27 27 (gsv cb n cc) (slA a110 1 1)) R [gsb cb Lw 30 (cc * 5), some (a110, .row z6 30 5)] (Nat × Nat) (fun y111 => n + 1 ≤ y111.2 ∧ y111.2 ≤ maxLen) (fun y111 => (.slice (some ⟨y111.1, 0, none⟩) (n + 1) y111.2, [some (y111.1, .row (Lw ++ (z6 : List Value)) 30 (y111.2 * 5)), some (a110, .row z6 30 5)]))) ∧ ∀ (y111 : Nat × Nat) (qy111 : n + 1 ≤ y111.2 ∧ y111.2 ≤ maxLen), (a54 = a54) ∧ (IB z1 (j : Nat)) ∧ (a109 = a109 ∧ readVar Tryd.prog 3 Ls (0 + Int.toNat z1 * 1) = some (vi z18)) ∧ (NW .i64 ((k : Int) + z18)) ∧ (NW .i64 z20) ∧ LK z13 z14 z16 z15 (i, k, n, cb, cc, Lw, ws, u55) .normal ⟨(.slice lv ln lc :: undef :: ptA a0 :: (u1 3) :: gsv (some a108) j cap :: gsv (some a109) j cap2 :: vi (j : Int) :: ptA a53 :: ptA a54 :: vi ((k : Int) + z18) :: undef :: .int .u8 ((nd j).bk i) :: vi z1 :: .slice lv ln lc :: vi (ln : Int) :: vi (j : Int) :: .bool true :: vi (j : Int) :: .pointer z11 :: .agg z3 :: ptA a53 :: vi ((nd j).k) :: .pointer (some ⟨a53, 1, none⟩) :: vu ((nd j).i) :: .pointer (some ⟨a53, 2, none⟩) :: .string ((nd j).s) :: .pointer (some ⟨a53, 4, none⟩) :: .slice (nd j).pa ((nd j).pm) ((nd j).pc) :: .agg z5 :: .pointer (some ⟨a53, 3, none⟩) :: .slice (nd j).ba ((nd j).bn) ((nd j).bc) :: vi z12 :: vi z20 :: .bool true :: .pointer z8 :: .int .u8 ((nd j).bk i) :: vi (j : Int) :: vi z17 :: .int .u8 ((nd j).bk i) :: vi ((nd j).bk i) :: vi z1 :: vi z1 :: .bool true :: .pointer (some ⟨a54, 3, none⟩) :: gsv cb n cc :: gsv (some a108) j cap :: vi z1 :: .pointer (some ⟨a108, 0 + Int.toNat z1 * 5, none⟩) :: .agg z21 :: slA a110 1 1 :: .slice (some ⟨y111.1, 0, none⟩) (n + 1) y111.2 :: .pointer (some ⟨a54, 3, none⟩) :: vi (k : Int) :: gsv (some a109) j cap2 :: vi z1 :: .pointer (some ⟨a109, 0 + Int.toNat z1 * 1, none⟩) :: vi z18 :: vi ((k : Int) + z18) :: vi z20 :: urun u1 59 30 (uns 10 [])), [], [some (a0, .row z9 30 5), gsb (some a108) Lr 30 (cap * 5), gsb (some a109) Ls 3 (cap2 * 1), some (a53, .row z4 36 5), some (a54, .row [vi ((nd j).k), vu ((nd j).i), .string ((nd j).s), .slice (some ⟨y111.1, 0, none⟩) (n + 1) y111.2, .slice (nd j).pa ((nd j).pm) ((nd j).pc)] 30 5), some (y111.1, .row (Lw ++ (z6 : List Value)) 30 (y111.2 * 5)), some (a110, .row z6 30 5)]⟩ R))) ∧ ((decide (z1 ≥ 0)) = false → (NW .i64 z20) ∧ LK z13 z14 z16 z15 (i, k, n, cb, cc, Lw, ws, u55) .normal (z19.up [(11, .int .u8 ((nd j).bk i)), (12, vi z1), (32, vi z20), (33, .bool true), (34, .pointer z8), (35, .int .u8 ((nd j).bk i)), (36, vi (j : Int)), (37, vi z17), (38, .int .u8 ((nd j).bk i)), (39, vi ((nd j).bk i)), (40, vi z1), (41, vi z1), (42, .bool false), (58, vi z20)] z2) R)) ∧ ((decide ((i : Int) < z12)) = false → LK z13 z14 z16 z15 (i, k, n, cb, cc, Lw, ws, u55) (.exit 2) (z19.up [(33, .bool false)] z2) R))) (let y_7 : List Value := [vi 0, vu 0, .string ByteArray.empty, .slice none 0 0, .slice none 0 0]; let y_6 : List Value := [vi ((nd j).k), vu ((nd j).i), .string ((nd j).s), gsv cb n cc, .slice (nd j).pa ((nd j).pm) ((nd j).pc)]; let y_4 : Array Value := #[vi ((nd j).k), vu ((nd j).i), .string ((nd j).s), .slice none 0 0, .slice (nd j).pa ((nd j).pm) ((nd j).pc)]; let y_3 : List Value := [vi ((nd j).k), vu ((nd j).i), .string ((nd j).s), .slice (nd j).ba ((nd j).bn) ((nd j).bc), .slice (nd j).pa ((nd j).pm) ((nd j).pc)]; let y_2 : Array Value := #[vi ((nd j).k), vu ((nd j).i), .string ((nd j).s), .slice (nd j).ba ((nd j).bn) ((nd j).bc), .slice (nd j).pa ((nd j).pm) ((nd j).pc)]; let y_1 := (((j : Int) - 1) - ((nd j).bk i)); let y_0 := (zat zs y_1.toNat); let y_5 : List Value := [vi (y_0.k), vu (y_0.id), .string (y_0.s), .slice y_0.aa (y_0.n) (y_0.ac), .slice y_0.pa (y_0.m) (y_0.pc)]; ops [.d] (.sp 33 (ops [.ib (nd j).BB (nd j).BO, .ro (fun v => [.int .u8 ((nd j).bk i)]), .d, .d, .nw, .d, .nw, .nw, .d, .d, .d] (.sp 42 (.ex Nat (fun a108 => b = some a108) (fun a108 => .rw (⟨(.slice lv ln lc :: undef :: ptA a0 :: (u1 3) :: gsv (some a108) j cap :: gsv b2 j cap2 :: vi (j : Int) :: ptA a53 :: ptA a54 :: vi (k : Int) :: undef :: .int .u8 ((nd j).bk i) :: vi y_1 :: .slice lv ln lc :: vi (ln : Int) :: vi (j : Int) :: .bool true :: vi (j : Int) :: .pointer (some ⟨LB, LO + Int.toNat (j : Int) * 5, none⟩) :: .agg y_2 :: ptA a53 :: vi ((nd j).k) :: .pointer (some ⟨a53, 1, none⟩) :: vu ((nd j).i) :: .pointer (some ⟨a53, 2, none⟩) :: .string ((nd j).s) :: .pointer (some ⟨a53, 4, none⟩) :: .slice (nd j).pa ((nd j).pm) ((nd j).pc) :: .agg y_4 :: .pointer (some ⟨a53, 3, none⟩) :: .slice (nd j).ba ((nd j).bn) ((nd j).bc) :: vi (((nd j).bn : Nat) : Int) :: vi (i : Int) :: .bool true :: .pointer (some ⟨(nd j).BB, (nd j).BO + Int.toNat (i : Int) * 1, none⟩) :: .int .u8 ((nd j).bk i) :: vi (j : Int) :: vi ((j : Int) - 1) :: .int .u8 ((nd j).bk i) :: vi ((nd j).bk i) :: vi y_1 :: vi y_1 :: .bool true :: urun u55 43 16 (urun u1 59 30 (uns 10 []))), [], [some (a0, .row y_7 30 5), gsb (some a108) Lr 30 (cap * 5), gsb b2 Ls 3 (cap2 * 1), some (a53, .row y_3 36 5), some (a54, .row y_6 30 5), gsb cb Lw 30 (cc * 5)]⟩) (.ex Nat (fun a109 => b2 = some a109) (fun a109 => .rw (⟨(.slice lv ln lc :: undef :: ptA a0 :: (u1 3) :: gsv (some a108) j cap :: gsv (some a109) j cap2 :: vi (j : Int) :: ptA a53 :: ptA a54 :: vi (k : Int) :: undef :: .int .u8 ((nd j).bk i) :: vi y_1 :: .slice lv ln lc :: vi (ln : Int) :: vi (j : Int) :: .bool true :: vi (j : Int) :: .pointer (some ⟨LB, LO + Int.toNat (j : Int) * 5, none⟩) :: .agg y_2 :: ptA a53 :: vi ((nd j).k) :: .pointer (some ⟨a53, 1, none⟩) :: vu ((nd j).i) :: .pointer (some ⟨a53, 2, none⟩) :: .string ((nd j).s) :: .pointer (some ⟨a53, 4, none⟩) :: .slice (nd j).pa ((nd j).pm) ((nd j).pc) :: .agg y_4 :: .pointer (some ⟨a53, 3, none⟩) :: .slice (nd j).ba ((nd j).bn) ((nd j).bc) :: vi (((nd j).bn : Nat) : Int) :: vi (i : Int) :: .bool true :: .pointer (some ⟨(nd j).BB, (nd j).BO + Int.toNat (i : Int) * 1, none⟩) :: .int .u8 ((nd j).bk i) :: vi (j : Int) :: vi ((j : Int) - 1) :: .int .u8 ((nd j).bk i) :: vi ((nd j).bk i) :: vi y_1 :: vi y_1 :: .bool true :: urun u55 43 16 (urun u1 59 30 (uns 10 []))), [], [some (a0, .row y_7 30 5), gsb (some a108) Lr 30 (cap * 5), gsb (some a109) Ls 3 (cap2 * 1), some (a53, .row y_3 36 5), some (a54, .row y_6 30 5), gsb cb Lw 30 (cc * 5)]⟩) (.dr [some (.d), some (.p 4), some (.d), some (.d), some (.ia), some (.q 1 (fun e v => .agg #[vi (y_0.k), vu (y_0.id), .string (y_0.s), .slice y_0.aa (y_0.n) (y_0.ac), .slice y_0.pa (y_0.m) (y_0.pc)])), some (.n 6), some (.pr [5, 6] [] (Nat × Nat) (fun e v y111 => n + 1 ≤ y111.2 ∧ y111.2 ≤ maxLen) (fun e v y111 => (.slice (some ⟨y111.1, 0, none⟩) (n + 1) y111.2, [some (y111.1, .row (Lw ++ (y_5 : List Value)) 30 (y111.2 * 5)), some ((adr e 1), .row y_5 30 5)]))), some (.d), some (.p 4)] (ops [.d, .d, .d, .ia, .q 2 (fun e v => .int .i64 ((kat ks y_1.toNat : Nat) : Int)), .nw, .d, .nw, .d] (.fin [] []))))))) (ops [.nw, .d] (.fin [] [])))) (.fin [] []))) (by kernel_rfl)
    (⟨fun h106 => (have := of_decide_eq_true h106; ⟨⟨((hnd j (by omega)).2.2.bb i (by omega)).1, by omega, by omega⟩, ⟨((hnd j (by omega)).2.2.bb i (by omega)).2.1, ⟨(nwI (by have h9 := (hnd j (by omega)).2.2.bl; have h8 := ((hnd j (by omega)).2.2.bb i (by omega)).2.2; have h7 := hI.kb; have h6 := hI.ni; have h5 := hI.k1; omega) (by have h9 := (hnd j (by omega)).2.2.bl; have h8 := ((hnd j (by omega)).2.2.bb i (by omega)).2.2; have h7 := hI.kb; have h6 := hI.ni; have h5 := hI.k1; omega)), ⟨(wrapI (by have h9 := (hnd j (by omega)).2.2.bl; have h8 := ((hnd j (by omega)).2.2.bb i (by omega)).2.2; have h7 := hI.kb; have h6 := hI.ni; have h5 := hI.k1; omega) (by have h9 := (hnd j (by omega)).2.2.bl; have h8 := ((hnd j (by omega)).2.2.bb i (by omega)).2.2; have h7 := hI.kb; have h6 := hI.ni; have h5 := hI.k1; omega)), ⟨(nwI (by have h9 := (hnd j (by omega)).2.2.bl; have h8 := ((hnd j (by omega)).2.2.bb i (by omega)).2.2; have h7 := hI.kb; have h6 := hI.ni; have h5 := hI.k1; omega) (by have h9 := (hnd j (by omega)).2.2.bl; have h8 := ((hnd j (by omega)).2.2.bb i (by omega)).2.2; have h7 := hI.kb; have h6 := hI.ni; have h5 := hI.k1; omega)), ⟨fun h107 => (have := of_decide_eq_true h107; ⟨(by cases h9 : b with | none => exact absurd (hM.b0 h9) (by have h8 := hM.jc; have h7 := ((hnd j (by omega)).2.2.bb i (by omega)).2.2; omega) | some a => exact ⟨a, rfl⟩), fun a108 hxa108 => ⟨(by rw [hxa108]), ⟨(by cases h9 : b2 with | none => exact absurd (hM.c0 h9) (by have h8 := hM.jd; have h7 := ((hnd j (by omega)).2.2.bb i (by omega)).2.2; omega) | some a => exact ⟨a, rfl⟩), fun a109 hxa109 => ⟨(by rw [hxa109]), ⟨rfl, ⟨⟨by omega, by have h9 := (hnd j (by omega)).2.2.bl; have h8 := ((hnd j (by omega)).2.2.bb i (by omega)).2.2; have h7 := hI.kb; have h6 := hI.ni; have h5 := hI.k1; omega⟩, ⟨⟨rfl, (rd_L hM.rows (by have h3 := hM.zl; have h9 := (hnd j (by omega)).2.2.bl; have h8 := ((hnd j (by omega)).2.2.bb i (by omega)).2.2; have h7 := hI.kb; have h6 := hI.ni; have h5 := hI.k1; omega))⟩, fun a110 => ⟨(app1_ok (e := 30) (e' := 30) (z := 5) (by' := 80) (zc := [vi 0, vu 0, .string ByteArray.empty, .slice none 0 0, .slice none 0 0]) (b := cb) (len := n) (cap := cc) (n := 1) (cs := Lw) (new := [vi ((zat zs (Int.toNat (((j : Int) - 1) - ((nd j).bk i)))).k), vu ((zat zs (Int.toNat (((j : Int) - 1) - ((nd j).bk i)))).id), .string ((zat zs (Int.toNat (((j : Int) - 1) - ((nd j).bk i)))).s), .slice (zat zs (Int.toNat (((j : Int) - 1) - ((nd j).bk i)))).aa ((zat zs (Int.toNat (((j : Int) - 1) - ((nd j).bk i)))).n) ((zat zs (Int.toNat (((j : Int) - 1) - ((nd j).bk i)))).ac), .slice (zat zs (Int.toNat (((j : Int) - 1) - ((nd j).bk i)))).pa ((zat zs (Int.toNat (((j : Int) - 1) - ((nd j).bk i)))).m) ((zat zs (Int.toNat (((j : Int) - 1) - ((nd j).bk i)))).pc)]) (by kernel_rfl) (.inl (by kernel_rfl)) (by kernel_rfl) rfl (by rw [hI.rows, rowsL_len, hI.wl]) hI.nc hI.cm hI.c0 ⟨rfl, .inr (.inr ⟨_, _, _, rfl, .inl ⟨1, _, _, _, rfl, rfl⟩⟩)⟩ (ones_spec rfl) (by have h9 := (hnd j (by omega)).2.2.bl; have h8 := ((hnd j (by omega)).2.2.bb i (by omega)).2.2; have h7 := hI.kb; have h6 := hI.ni; have h5 := hI.k1; omega) (by have h9 := (hnd j (by omega)).2.2.bl; have h8 := ((hnd j (by omega)).2.2.bb i (by omega)).2.2; have h7 := hI.kb; have h6 := hI.ni; have h5 := hI.k1; simp only [maxLen]; omega) (by omega)), fun y111 qy111 => ⟨rfl, ⟨⟨by omega, by have h9 := (hnd j (by omega)).2.2.bl; have h8 := ((hnd j (by omega)).2.2.bb i (by omega)).2.2; have h7 := hI.kb; have h6 := hI.ni; have h5 := hI.k1; omega⟩, ⟨⟨rfl, (rd_K hM.ints (by have h3 := hM.kl; have h9 := (hnd j (by omega)).2.2.bl; have h8 := ((hnd j (by omega)).2.2.bb i (by omega)).2.2; have h7 := hI.kb; have h6 := hI.ni; have h5 := hI.k1; omega))⟩, ⟨(nwI (by have h9 := (hnd j (by omega)).2.2.bl; have h8 := ((hnd j (by omega)).2.2.bb i (by omega)).2.2; have h7 := hI.kb; have h6 := hI.ni; have h5 := hI.k1; have h4 := (hM.all (Int.toNat ((j : Int) - 1 - ((nd j).bk i))) (by omega)).2.2.1; omega) (by have h9 := (hnd j (by omega)).2.2.bl; have h8 := ((hnd j (by omega)).2.2.bb i (by omega)).2.2; have h7 := hI.kb; have h6 := hI.ni; have h5 := hI.k1; have h4 := (hM.all (Int.toNat ((j : Int) - 1 - ((nd j).bk i))) (by omega)).2.2.1; omega)), ⟨(nwI (by have h9 := (hnd j (by omega)).2.2.bl; have h8 := ((hnd j (by omega)).2.2.bb i (by omega)).2.2; have h7 := hI.kb; have h6 := hI.ni; have h5 := hI.k1; omega) (by have h9 := (hnd j (by omega)).2.2.bl; have h8 := ((hnd j (by omega)).2.2.bb i (by omega)).2.2; have h7 := hI.kb; have h6 := hI.ni; have h5 := hI.k1; omega)), LKn (fun zw => ((i + 1), (k + kat ks (Int.toNat ((j : Int) - 1 - ((nd j).bk i)))), (n + 1), (some y111.1), y111.2, (Lw ++ ([vi ((zat zs (Int.toNat (((j : Int) - 1) - ((nd j).bk i)))).k), vu ((zat zs (Int.toNat (((j : Int) - 1) - ((nd j).bk i)))).id), .string ((zat zs (Int.toNat (((j : Int) - 1) - ((nd j).bk i)))).s), .slice (zat zs (Int.toNat (((j : Int) - 1) - ((nd j).bk i)))).aa ((zat zs (Int.toNat (((j : Int) - 1) - ((nd j).bk i)))).n) ((zat zs (Int.toNat (((j : Int) - 1) - ((nd j).bk i)))).ac), .slice (zat zs (Int.toNat (((j : Int) - 1) - ((nd j).bk i)))).pa ((zat zs (Int.toNat (((j : Int) - 1) - ((nd j).bk i)))).m) ((zat zs (Int.toNat (((j : Int) - 1) - ((nd j).bk i)))).pc)] : List Value)), (ws ++ [zat zs (Int.toNat ((j : Int) - 1 - ((nd j).bk i)))]), zw)) ⟨⟨rfl, (show WI R (nd j).bn (i + 1) (k + kat ks (Int.toNat ((j : Int) - 1 - ((nd j).bk i)))) (n + 1) (some y111.1) y111.2 (Lw ++ ([vi ((zat zs (Int.toNat (((j : Int) - 1) - ((nd j).bk i)))).k), vu ((zat zs (Int.toNat (((j : Int) - 1) - ((nd j).bk i)))).id), .string ((zat zs (Int.toNat (((j : Int) - 1) - ((nd j).bk i)))).s), .slice (zat zs (Int.toNat (((j : Int) - 1) - ((nd j).bk i)))).aa ((zat zs (Int.toNat (((j : Int) - 1) - ((nd j).bk i)))).n) ((zat zs (Int.toNat (((j : Int) - 1) - ((nd j).bk i)))).ac), .slice (zat zs (Int.toNat (((j : Int) - 1) - ((nd j).bk i)))).pa ((zat zs (Int.toNat (((j : Int) - 1) - ((nd j).bk i)))).m) ((zat zs (Int.toNat (((j : Int) - 1) - ((nd j).bk i)))).pc)] : List Value)) (ws ++ [zat zs (Int.toNat ((j : Int) - 1 - ((nd j).bk i)))]) from (hI.step hM (by omega) (by have h9 := (hnd j (by omega)).2.2.bl; have h8 := ((hnd j (by omega)).2.2.bb i (by omega)).2.2; have h7 := hI.kb; have h6 := hI.ni; have h5 := hI.k1; omega) qy111.1 qy111.2))⟩, (show (nd j).bn - (i + 1) < (nd j).bn - i from (by omega)), ⟨(by subst hxa108; subst hxa109; rfl), rfl, (by subst hxa108; subst hxa109; rfl)⟩⟩⟩⟩⟩⟩⟩⟩⟩⟩⟩⟩⟩⟩⟩), fun h107 => (have := of_decide_eq_false h107; ⟨(nwI (by have h9 := (hnd j (by omega)).2.2.bl; have h8 := ((hnd j (by omega)).2.2.bb i (by omega)).2.2; have h7 := hI.kb; have h6 := hI.ni; have h5 := hI.k1; omega) (by have h9 := (hnd j (by omega)).2.2.bl; have h8 := ((hnd j (by omega)).2.2.bb i (by omega)).2.2; have h7 := hI.kb; have h6 := hI.ni; have h5 := hI.k1; omega)), LKn (fun zw => ((i + 1), k, n, cb, cc, Lw, ws, zw)) ⟨⟨rfl, (show WI R (nd j).bn (i + 1) k n cb cc Lw ws from (hI.skip (by omega)))⟩, (show (nd j).bn - (i + 1) < (nd j).bn - i from (by omega)), ⟨(by show _ = _; kernel_rfl), rfl, rfl⟩⟩⟩)⟩⟩⟩⟩⟩⟩), fun h106 => (have := of_decide_eq_false h106; altA (fun zw => (i, k, n, cb, cc, Lw, ws, zw)) ⟨(show i = (nd j).bn ∧ WI R (nd j).bn i k n cb cc Lw ws from ⟨by have h9 := hI.ib; omega, hI⟩), (by show _ = _; kernel_rfl), ⟨(by show _ = _; kernel_rfl), (by show _ = _; kernel_rfl), (by show _ = _; kernel_rfl)⟩⟩)⟩)
theorem made_ok_L9_ct (lv : Option Addr) (ln lc LB LO : Nat) (nd : Nat → ND) (a0 : Nat) (j : Nat) (b : Option Nat) (cap : Nat) (Lr : List Value) (b2 : Option Nat) (cap2 : Nat) (Ls : List Value) (u1 : Nat → Value) (a53 : Nat) (a54 : Nat) (zs : List L) (ks : List Nat) (R : RO) (hln : ln ≤ 1048576) (hnd : ∀ j, j < ln → lv = some ⟨LB, LO, none⟩ ∧ R.cells LB (LO + j * 5) (nd j).row ∧ (nd j).Ok R) (hj : j < ln) (hM : MI R j b cap Lr zs b2 cap2 Ls ks)  : CT Tryd.prog (sub (bodyOf Tryd.f8) [1, 1, 1, 0, 1, 0, 0, 1, 1, 0, 0, 1, 1, 1, 0, 1, 0]) ⟨(.slice lv ln lc :: undef :: ptA a0 :: (u1 3) :: gsv b j cap :: gsv b2 j cap2 :: vi (j : Int) :: ptA a53 :: ptA a54 :: vi 1 :: undef :: (u1 11) :: (u1 12) :: .slice lv ln lc :: vi (ln : Int) :: vi (j : Int) :: .bool true :: vi (j : Int) :: .pointer (some ⟨LB, LO + Int.toNat (j : Int) * 5, none⟩) :: .agg #[vi ((nd j).k), vu ((nd j).i), .string ((nd j).s), .slice (nd j).ba ((nd j).bn) ((nd j).bc), .slice (nd j).pa ((nd j).pm) ((nd j).pc)] :: ptA a53 :: vi ((nd j).k) :: .pointer (some ⟨a53, 1, none⟩) :: vu ((nd j).i) :: .pointer (some ⟨a53, 2, none⟩) :: .string ((nd j).s) :: .pointer (some ⟨a53, 4, none⟩) :: .slice (nd j).pa ((nd j).pm) ((nd j).pc) :: .agg #[vi ((nd j).k), vu ((nd j).i), .string ((nd j).s), .slice none 0 0, .slice (nd j).pa ((nd j).pm) ((nd j).pc)] :: .pointer (some ⟨a53, 3, none⟩) :: .slice (nd j).ba ((nd j).bn) ((nd j).bc) :: vi (((nd j).bn : Nat) : Int) :: vi 0 :: urun u1 33 56 (uns 10 [])), [], [some (a0, .row [vi 0, vu 0, .string ByteArray.empty, .slice none 0 0, .slice none 0 0] 30 5), gsb b Lr 30 (cap * 5), gsb b2 Ls 3 (cap2 * 1), some (a53, .row [vi ((nd j).k), vu ((nd j).i), .string ((nd j).s), .slice (nd j).ba ((nd j).bn) ((nd j).bc), .slice (nd j).pa ((nd j).pm) ((nd j).pc)] 36 5), some (a54, .row [vi ((nd j).k), vu ((nd j).i), .string ((nd j).s), .slice none 0 0, .slice (nd j).pa ((nd j).pm) ((nd j).pc)] 30 5)]⟩ R (made_ok_L9_K lv ln lc LB LO nd a0 j b cap Lr b2 cap2 Ls u1 a53 a54 zs ks R) :=
  CT.pad 1 <| CT.loop_eqs (made_ok_L9_inv lv ln lc LB LO nd a0 j b cap Lr b2 cap2 Ls u1 a53 a54 zs ks) (made_ok_L9_I lv ln lc LB LO nd a0 j b cap Lr b2 cap2 Ls u1 a53 a54 zs ks R) (made_ok_L9_mu lv ln lc LB LO nd a0 j b cap Lr b2 cap2 Ls u1 a53 a54 zs ks) (fun zw => (0, 1, 0, (none : Option Nat), 0, ([] : List Value), ([] : List L), zw)) (by kernel_rfl) (by kernel_rfl) ⟨rfl, (show WI R (nd j).bn 0 1 0 (none : Option Nat) 0 ([] : List Value) ([] : List L) from (WI.begin R _))⟩
    (by
      rintro ⟨i, k, n, cb, cc, Lw, ws, u55⟩ G hG ⟨rfl, hI⟩
      exact made_ok_L9_body lv ln lc LB LO nd a0 j b cap Lr b2 cap2 Ls u1 a53 a54 zs ks _ hln hnd hj hM i k n cb cc Lw ws u55 hI)
noncomputable def made_ok_L4_inv (lv : Option Addr) (ln lc LB LO : Nat) (nd : Nat → ND) (a0 : Nat)  : Nat × (Option Nat) × Nat × (List Value) × (List L) × (Option Nat) × Nat × (List Value) × (List Nat) × NV → St := fun zx => ⟨(.slice lv ln lc :: undef :: ptA a0 :: (zx.2.2.2.2.2.2.2.2.2 3) :: gsv zx.2.1 zx.1 zx.2.2.1 :: gsv zx.2.2.2.2.2.1 zx.1 zx.2.2.2.2.2.2.1 :: urun zx.2.2.2.2.2.2.2.2.2 6 4 (undef :: (zx.2.2.2.2.2.2.2.2.2 11) :: (zx.2.2.2.2.2.2.2.2.2 12) :: .slice lv ln lc :: vi (ln : Int) :: vi ((zx.1 : Nat) : Int) :: urun zx.2.2.2.2.2.2.2.2.2 16 73 (uns 10 []))), [], [some (a0, .row [vi 0, vu 0, .string ByteArray.empty, .slice none 0 0, .slice none 0 0] 30 5), gsb zx.2.1 zx.2.2.2.1 30 (zx.2.2.1 * 5), gsb zx.2.2.2.2.2.1 zx.2.2.2.2.2.2.2.1 3 (zx.2.2.2.2.2.2.1 * 1)]⟩
def made_ok_L4_I (lv : Option Addr) (ln lc LB LO : Nat) (nd : Nat → ND) (a0 : Nat)  (R : RO) : Nat × (Option Nat) × Nat × (List Value) × (List L) × (Option Nat) × Nat × (List Value) × (List Nat) × NV → RO → Prop := fun zx G => R.le G ∧ (zx.1 ≤ ln ∧ MI G zx.1 zx.2.1 zx.2.2.1 zx.2.2.2.1 zx.2.2.2.2.1 zx.2.2.2.2.2.1 zx.2.2.2.2.2.2.1 zx.2.2.2.2.2.2.2.1 zx.2.2.2.2.2.2.2.2.1)
def made_ok_L4_mu (lv : Option Addr) (ln lc LB LO : Nat) (nd : Nat → ND) (a0 : Nat)  : Nat × (Option Nat) × Nat × (List Value) × (List L) × (Option Nat) × Nat × (List Value) × (List Nat) × NV → Nat := fun zx => ln - zx.1
noncomputable def made_ok_L4_K (lv : Option Addr) (ln lc LB LO : Nat) (nd : Nat → ND) (a0 : Nat)  (R : RO) : Exit' → St → RO → Prop := altPost R (.altG (Nat × (Option Nat) × Nat × (List Value) × (List L) × (Option Nat) × Nat × (List Value) × (List Nat) × NV) (fun zx G => zx.1 = ln ∧ MI G zx.1 zx.2.1 zx.2.2.1 zx.2.2.2.1 zx.2.2.2.2.1 zx.2.2.2.2.2.1 zx.2.2.2.2.2.2.1 zx.2.2.2.2.2.2.2.1 zx.2.2.2.2.2.2.2.2.1) (fun zx => (.exit 0, ((made_ok_L4_inv lv ln lc LB LO nd a0 zx).up [] [some (a0, .row [vi 0, vu 0, .string ByteArray.empty, .slice none 0 0, .slice none 0 0] 30 5), gsb zx.2.1 zx.2.2.2.1 30 (zx.2.2.1 * 5), gsb zx.2.2.2.2.2.1 zx.2.2.2.2.2.2.2.1 3 (zx.2.2.2.2.2.2.1 * 1)]))) (fun _ => .altn) (.altG (Nat × (Option Nat) × Nat × (List Value) × (List L) × (Option Nat) × Nat × (List Value) × (List Nat) × NV) (fun zx G => True) (fun zx => (.ret, ((made_ok_L4_inv lv ln lc LB LO nd a0 zx).up [(3, .bool false)] [some (a0, .row [vi 0, vu 0, .string ByteArray.empty, .slice none 0 0, .slice none 0 0] 30 5), gsb zx.2.1 zx.2.2.2.1 30 (zx.2.2.1 * 5), gsb zx.2.2.2.2.2.1 zx.2.2.2.2.2.2.2.1 3 (zx.2.2.2.2.2.2.1 * 1)]))) (fun _ => .altn) .altn))
theorem made_ok_L4_body (lv : Option Addr) (ln lc LB LO : Nat) (nd : Nat → ND) (a0 : Nat)  (R0 R : RO) (hle : R0.le R) (hln : ln ≤ 1048576) (hnd : ∀ j, j < ln → lv = some ⟨LB, LO, none⟩ ∧ R.cells LB (LO + j * 5) (nd j).row ∧ (nd j).Ok R) (j : Nat) (b : Option Nat) (cap : Nat) (Lr : List Value) (zs : List L) (b2 : Option Nat) (cap2 : Nat) (Ls : List Value) (ks : List Nat) (u1 : Nat → Value) (hI : j ≤ ln ∧ MI R j b cap Lr zs b2 cap2 Ls ks) : CT Tryd.prog (sub (bodyOf Tryd.f8) [1, 1, 1, 0, 1, 0, 0]) (made_ok_L4_inv lv ln lc LB LO nd a0 (j, b, cap, Lr, zs, b2, cap2, Ls, ks, u1)) R (LK (made_ok_L4_inv lv ln lc LB LO nd a0) (made_ok_L4_I lv ln lc LB LO nd a0 R0) (made_ok_L4_mu lv ln lc LB LO nd a0) (made_ok_L4_K lv ln lc LB LO nd a0 R0) (j, b, cap, Lr, zs, b2, cap2, Ls, ks, u1)) :=
  CT.of_wp_eq (VC := (let z12 := (made_ok_L4_mu lv ln lc LB LO nd a0); let z11 := (made_ok_L4_inv lv ln lc LB LO nd a0); let z10 := (made_ok_L4_K lv ln lc LB LO nd a0 R0); let z9 := (made_ok_L4_I lv ln lc LB LO nd a0 R0); let z8 := (((nd j).bn : Nat) : Int); let z5 : Option Addr := (some ⟨LB, LO + Int.toNat (j : Int) * 5, none⟩); let z4 : List Value := [vi 0, vu 0, .string ByteArray.empty, .slice none 0 0, .slice none 0 0]; let z3 : Array Value := #[vi ((nd j).k), vu ((nd j).i), .string ((nd j).s), .slice none 0 0, .slice (nd j).pa ((nd j).pm) ((nd j).pc)]; let z2 : Array Value := #[vi ((nd j).k), vu ((nd j).i), .string ((nd j).s), .slice (nd j).ba ((nd j).bn) ((nd j).bc), .slice (nd j).pa ((nd j).pm) ((nd j).pc)]; let z1 : List Value := [vi ((nd j).k), vu ((nd j).i), .string ((nd j).s), .slice (nd j).ba ((nd j).bn) ((nd j).bc), .slice (nd j).pa ((nd j).pm) ((nd j).pc)]; ((decide ((j : Int) < (ln : Int))) = true → (lv = some ⟨LB, LO, none⟩ ∧ (0 : Int) ≤ (j : Int) ∧ ((j : Int) : Int) < (ln : Int)) ∧ (R.cells LB (LO + Int.toNat (j : Int) * 5) z1) ∧ ∀ a53 : Nat, (a53 = a53) ∧ (a53 = a53) ∧ (a53 = a53) ∧ (a53 = a53) ∧ (a53 = a53) ∧ ∀ a54 : Nat, (a54 = a54) ∧ (a53 = a53) ∧ (CT Tryd.prog (sub (bodyOf Tryd.f8) [1, 1, 1, 0, 1, 0, 0, 1, 1, 0, 0, 1, 1, 1, 0, 1, 0]) ⟨(.slice lv ln lc :: undef :: ptA a0 :: (u1 3) :: gsv b j cap :: gsv b2 j cap2 :: vi (j : Int) :: ptA a53 :: ptA a54 :: vi 1 :: undef :: (u1 11) :: (u1 12) :: .slice lv ln lc :: vi (ln : Int) :: vi (j : Int) :: .bool true :: vi (j : Int) :: .pointer z5 :: .agg z2 :: ptA a53 :: vi ((nd j).k) :: .pointer (some ⟨a53, 1, none⟩) :: vu ((nd j).i) :: .pointer (some ⟨a53, 2, none⟩) :: .string ((nd j).s) :: .pointer (some ⟨a53, 4, none⟩) :: .slice (nd j).pa ((nd j).pm) ((nd j).pc) :: .agg z3 :: .pointer (some ⟨a53, 3, none⟩) :: .slice (nd j).ba ((nd j).bn) ((nd j).bc) :: vi z8 :: vi 0 :: urun u1 33 56 (uns 10 [])), [], [some (a0, .row z4 30 5), gsb b Lr 30 (cap * 5), gsb b2 Ls 3 (cap2 * 1), some (a53, .row z1 36 5), some (a54, .row [vi ((nd j).k), vu ((nd j).i), .string ((nd j).s), .slice none 0 0, .slice (nd j).pa ((nd j).pm) ((nd j).pc)] 30 5)]⟩ R (made_ok_L9_K lv ln lc LB LO nd a0 j b cap Lr b2 cap2 Ls u1 a53 a54 zs ks R)) ∧ (∀ x56 : Nat × Nat × Nat × (Option Nat) × Nat × (List Value) × (List L) × NV, let z6 := (x56.2.1 : Int); let z0 : List Value := [vi ((nd j).k), vu ((nd j).i), .string ((nd j).s), gsv x56.2.2.2.1 x56.2.2.1 x56.2.2.2.2.1, .slice (nd j).pa ((nd j).pm) ((nd j).pc)]; let z7 : Hp := [some (a0, .row z4 30 5), gsb b Lr 30 (cap * 5), gsb b2 Ls 3 (cap2 * 1), some (a53, .row z1 36 5), some (a54, .row z0 30 5), none]; (x56.1 = (nd j).bn ∧ WI R (nd j).bn x56.1 x56.2.1 x56.2.2.1 x56.2.2.2.1 x56.2.2.2.2.1 x56.2.2.2.2.2.1 x56.2.2.2.2.2.2.1) → (CT Tryd.prog (sub (bodyOf Tryd.f8) [1, 1, 1, 0, 1, 0, 0, 1, 1, 0, 0, 1, 1, 1, 1, 0, 0]) ⟨(.slice lv ln lc :: undef :: ptA a0 :: (u1 3) :: gsv b j cap :: gsv b2 j cap2 :: vi (j : Int) :: ptA a53 :: ptA a54 :: vi z6 :: undef :: (x56.2.2.2.2.2.2.2 11) :: (x56.2.2.2.2.2.2.2 12) :: .slice lv ln lc :: vi (ln : Int) :: vi (j : Int) :: .bool true :: vi (j : Int) :: .pointer z5 :: .agg z2 :: ptA a53 :: vi ((nd j).k) :: .pointer (some ⟨a53, 1, none⟩) :: vu ((nd j).i) :: .pointer (some ⟨a53, 2, none⟩) :: .string ((nd j).s) :: .pointer (some ⟨a53, 4, none⟩) :: .slice (nd j).pa ((nd j).pm) ((nd j).pc) :: .agg z3 :: .pointer (some ⟨a53, 3, none⟩) :: .slice (nd j).ba ((nd j).bn) ((nd j).bc) :: vi z8 :: vi (x56.1 : Int) :: urun x56.2.2.2.2.2.2.2 33 26 (urun u1 59 30 (uns 10 []))), [], [some (a0, .row z4 30 5), gsb b Lr 30 (cap * 5), gsb b2 Ls 3 (cap2 * 1), some (a53, .row z1 36 5), some (a54, .row z0 30 5), gsb x56.2.2.2.1 x56.2.2.2.2.2.1 30 (x56.2.2.2.2.1 * 5)]⟩ R (altPost R (.altG (Bool × NV) (fun zx G => (zx.1 = false → x56.2.1 ≤ 300 ∧ (nd j).s.size ≤ 60 ∧ (nd j).pm ≤ 20 ∧ (nd j).bn ≤ 20) ∧ ∀ a, x56.2.2.2.1 = some a → G.cells a 0 x56.2.2.2.2.2.1) (fun zx => (.normal, ⟨(.slice lv ln lc :: undef :: ptA a0 :: (u1 3) :: gsv b j cap :: gsv b2 j cap2 :: vi (j : Int) :: ptA a53 :: ptA a54 :: vi z6 :: undef :: (x56.2.2.2.2.2.2.2 11) :: (x56.2.2.2.2.2.2.2 12) :: .slice lv ln lc :: vi (ln : Int) :: vi (j : Int) :: .bool true :: vi (j : Int) :: .pointer z5 :: .agg z2 :: ptA a53 :: vi ((nd j).k) :: .pointer (some ⟨a53, 1, none⟩) :: vu ((nd j).i) :: .pointer (some ⟨a53, 2, none⟩) :: .string ((nd j).s) :: .pointer (some ⟨a53, 4, none⟩) :: .slice (nd j).pa ((nd j).pm) ((nd j).pc) :: .agg z3 :: .pointer (some ⟨a53, 3, none⟩) :: .slice (nd j).ba ((nd j).bn) ((nd j).bc) :: vi z8 :: vi (x56.1 : Int) :: urun x56.2.2.2.2.2.2.2 33 26 (urun zx.2 59 19 (.bool zx.1 :: urun u1 79 10 (uns 10 [])))), [], z7⟩)) (fun _ => .altn) .altn))) ∧ (∀ (x62 : Bool × NV) (G63 : RO), R.le G63 → ((x62.1 = false → x56.2.1 ≤ 300 ∧ (nd j).s.size ≤ 60 ∧ (nd j).pm ≤ 20 ∧ (nd j).bn ≤ 20) ∧ ∀ a, x56.2.2.2.1 = some a → G63.cells a 0 x56.2.2.2.2.2.1) → ((x62.1) = true → (a0 = a0) ∧ LK z11 z9 z12 z10 (j, b, cap, Lr, zs, b2, cap2, Ls, ks, u1) (.ret) ⟨(.slice lv ln lc :: undef :: ptA a0 :: .bool false :: gsv b j cap :: gsv b2 j cap2 :: vi (j : Int) :: ptA a53 :: ptA a54 :: vi z6 :: undef :: (x56.2.2.2.2.2.2.2 11) :: (x56.2.2.2.2.2.2.2 12) :: .slice lv ln lc :: vi (ln : Int) :: vi (j : Int) :: .bool true :: vi (j : Int) :: .pointer z5 :: .agg z2 :: ptA a53 :: vi ((nd j).k) :: .pointer (some ⟨a53, 1, none⟩) :: vu ((nd j).i) :: .pointer (some ⟨a53, 2, none⟩) :: .string ((nd j).s) :: .pointer (some ⟨a53, 4, none⟩) :: .slice (nd j).pa ((nd j).pm) ((nd j).pc) :: .agg z3 :: .pointer (some ⟨a53, 3, none⟩) :: .slice (nd j).ba ((nd j).bn) ((nd j).bc) :: vi z8 :: vi (x56.1 : Int) :: urun x56.2.2.2.2.2.2.2 33 26 (urun x62.2 59 19 (.bool true :: .agg #[vi 0, vu 0, .string ByteArray.empty, .slice none 0 0, .slice none 0 0] :: urun u1 80 9 (uns 10 [])))), [], z7⟩ G63) ∧ ((x62.1) = false → (a54 = a54) ∧ ∀ a95 : Nat, (PrimOK Tryd.prog (.app 27 27 27 (gsv b j cap) (slA a95 1 1)) G63 [gsb b Lr 30 (cap * 5), some (a95, .row z0 30 5)] (Nat × Nat) (fun y96 => j + 1 ≤ y96.2 ∧ y96.2 ≤ maxLen) (fun y96 => (.slice (some ⟨y96.1, 0, none⟩) (j + 1) y96.2, [some (y96.1, .row (Lr ++ (z0 : List Value)) 30 (y96.2 * 5)), some (a95, .row z0 30 5)]))) ∧ ∀ y96 : Nat × Nat, (j + 1 ≤ y96.2 ∧ y96.2 ≤ maxLen) → ∀ a97 : Nat, (PrimOK Tryd.prog (.app 64 64 64 (gsv b2 j cap2) (slA a97 1 1)) G63 [gsb b2 Ls 3 (cap2 * 1), some (a97, .row [vi z6] 3 1)] (Nat × Nat) (fun y98 => j + 1 ≤ y98.2 ∧ y98.2 ≤ maxLen) (fun y98 => (.slice (some ⟨y98.1, 0, none⟩) (j + 1) y98.2, [some (y98.1, .row (Ls ++ ([vi z6] : List Value)) 3 (y98.2 * 1)), some (a97, .row [vi z6] 3 1)]))) ∧ ∀ y98 : Nat × Nat, (j + 1 ≤ y98.2 ∧ y98.2 ≤ maxLen) → (NW .i64 ((j : Int) + 1)) ∧ LK z11 z9 z12 z10 (j, b, cap, Lr, zs, b2, cap2, Ls, ks, u1) .normal ⟨(.slice lv ln lc :: undef :: ptA a0 :: (u1 3) :: .slice (some ⟨y96.1, 0, none⟩) (j + 1) y96.2 :: .slice (some ⟨y98.1, 0, none⟩) (j + 1) y98.2 :: vi (j : Int) :: ptA a53 :: ptA a54 :: vi z6 :: undef :: (x56.2.2.2.2.2.2.2 11) :: (x56.2.2.2.2.2.2.2 12) :: .slice lv ln lc :: vi (ln : Int) :: vi ((j : Int) + 1) :: .bool true :: vi (j : Int) :: .pointer z5 :: .agg z2 :: ptA a53 :: vi ((nd j).k) :: .pointer (some ⟨a53, 1, none⟩) :: vu ((nd j).i) :: .pointer (some ⟨a53, 2, none⟩) :: .string ((nd j).s) :: .pointer (some ⟨a53, 4, none⟩) :: .slice (nd j).pa ((nd j).pm) ((nd j).pc) :: .agg z3 :: .pointer (some ⟨a53, 3, none⟩) :: .slice (nd j).ba ((nd j).bn) ((nd j).bc) :: vi z8 :: vi (x56.1 : Int) :: urun x56.2.2.2.2.2.2.2 33 26 (urun x62.2 59 19 (.bool false :: (u1 79) :: gsv b j cap :: .agg #[vi ((nd j).k), vu ((nd j).i), .string ((nd j).s), gsv x56.2.2.2.1 x56.2.2.1 x56.2.2.2.2.1, .slice (nd j).pa ((nd j).pm) ((nd j).pc)] :: slA a95 1 1 :: .slice (some ⟨y96.1, 0, none⟩) (j + 1) y96.2 :: gsv b2 j cap2 :: vi z6 :: slA a97 1 1 :: .slice (some ⟨y98.1, 0, none⟩) (j + 1) y98.2 :: vi ((j : Int) + 1) :: uns 10 []))), [], [some (a0, .row z4 30 5), some (y96.1, .row (Lr ++ (z0 : List Value)) 30 (y96.2 * 5)), some (y98.1, .row (Ls ++ ([vi z6] : List Value)) 3 (y98.2 * 1)), some (a53, .row z1 36 5), some (a54, .row z0 30 5), none, some (a95, .row z0 30 5), some (a97, .row [vi z6] 3 1)]⟩ G63)) ∧ True) ∧ True) ∧ ((decide ((j : Int) < (ln : Int))) = false → LK z11 z9 z12 z10 (j, b, cap, Lr, zs, b2, cap2, Ls, ks, u1) (.exit 0) ((made_ok_L4_inv lv ln lc LB LO nd a0 (j, b, cap, Lr, zs, b2, cap2, Ls, ks, u1)).up [(16, .bool false)] [some (a0, .row z4 30 5), gsb b Lr 30 (cap * 5), gsb b2 Ls 3 (cap2 * 1)]) R))) (let y_2 : List Value := [vi 0, vu 0, .string ByteArray.empty, .slice none 0 0, .slice none 0 0]; let y_0 : List Value := [vi ((nd j).k), vu ((nd j).i), .string ((nd j).s), .slice (nd j).ba ((nd j).bn) ((nd j).bc), .slice (nd j).pa ((nd j).pm) ((nd j).pc)]; ops [.d] (.sp 16 (ops [.d, .ib LB LO, .ro (fun v => y_0)] (.opn 3 (fun a53 => (ops [.d, .p 3, .d, .p 3, .d, .p 3, .d, .p 3, .d, .p 3, .d] (.opn 4 (fun a54 => (ops [.p 4, .d, .d, .p 3, .d, .d] (.alt (Nat × Nat × Nat × (Option Nat) × Nat × (List Value) × (List L) × NV) (fun zx => zx.1 = (nd j).bn ∧ WI R (nd j).bn zx.1 zx.2.1 zx.2.2.1 zx.2.2.2.1 zx.2.2.2.2.1 zx.2.2.2.2.2.1 zx.2.2.2.2.2.2.1) (fun zx => (.exit 2, ((made_ok_L9_inv lv ln lc LB LO nd a0 j b cap Lr b2 cap2 Ls u1 a53 a54 zs ks zx).up [] [some (a0, .row y_2 30 5), gsb b Lr 30 (cap * 5), gsb b2 Ls 3 (cap2 * 1), some (a53, .row y_0 36 5), some (a54, .row [vi ((nd j).k), vu ((nd j).i), .string ((nd j).s), gsv zx.2.2.2.1 zx.2.2.1 zx.2.2.2.2.1, .slice (nd j).pa ((nd j).pm) ((nd j).pc)] 30 5), gsb zx.2.2.2.1 zx.2.2.2.2.2.1 30 (zx.2.2.2.2.1 * 5)]))) (fun x56 => let y_1 : List Value := [vi ((nd j).k), vu ((nd j).i), .string ((nd j).s), gsv x56.2.2.2.1 x56.2.2.1 x56.2.2.2.2.1, .slice (nd j).pa ((nd j).pm) ((nd j).pc)]; (.altG (Bool × NV) (fun zx G => (zx.1 = false → x56.2.1 ≤ 300 ∧ (nd j).s.size ≤ 60 ∧ (nd j).pm ≤ 20 ∧ (nd j).bn ≤ 20) ∧ ∀ a, x56.2.2.2.1 = some a → G.cells a 0 x56.2.2.2.2.2.1) (fun zx => (.normal, ⟨(.slice lv ln lc :: undef :: ptA a0 :: (u1 3) :: gsv b j cap :: gsv b2 j cap2 :: vi (j : Int) :: ptA a53 :: ptA a54 :: vi ((x56.2.1 : Nat) : Int) :: undef :: (x56.2.2.2.2.2.2.2 11) :: (x56.2.2.2.2.2.2.2 12) :: .slice lv ln lc :: vi (ln : Int) :: vi (j : Int) :: .bool true :: vi (j : Int) :: .pointer (some ⟨LB, LO + Int.toNat (j : Int) * 5, none⟩) :: .agg #[vi ((nd j).k), vu ((nd j).i), .string ((nd j).s), .slice (nd j).ba ((nd j).bn) ((nd j).bc), .slice (nd j).pa ((nd j).pm) ((nd j).pc)] :: ptA a53 :: vi ((nd j).k) :: .pointer (some ⟨a53, 1, none⟩) :: vu ((nd j).i) :: .pointer (some ⟨a53, 2, none⟩) :: .string ((nd j).s) :: .pointer (some ⟨a53, 4, none⟩) :: .slice (nd j).pa ((nd j).pm) ((nd j).pc) :: .agg #[vi ((nd j).k), vu ((nd j).i), .string ((nd j).s), .slice none 0 0, .slice (nd j).pa ((nd j).pm) ((nd j).pc)] :: .pointer (some ⟨a53, 3, none⟩) :: .slice (nd j).ba ((nd j).bn) ((nd j).bc) :: vi (((nd j).bn : Nat) : Int) :: vi ((x56.1 : Nat) : Int) :: urun x56.2.2.2.2.2.2.2 33 26 (urun zx.2 59 19 (.bool zx.1 :: urun u1 79 10 (uns 10 [])))), [], [some (a0, .row y_2 30 5), gsb b Lr 30 (cap * 5), gsb b2 Ls 3 (cap2 * 1), some (a53, .row y_0 36 5), some (a54, .row y_1 30 5), none]⟩)) (fun x62 => (.sp 78 (ops [.d, .p 0, .d] (.fin [] [])) (ops [.d, .p 4] (.opn 6 (fun a95 => (.opp [1, 6] [] (Nat × Nat) (fun y96 => j + 1 ≤ y96.2 ∧ y96.2 ≤ maxLen) (fun y96 => (.slice (some ⟨y96.1, 0, none⟩) (j + 1) y96.2, [some (y96.1, .row (Lr ++ (y_1 : List Value)) 30 (y96.2 * 5)), some (a95, .row y_1 30 5)])) (fun y96 => (ops [.d, .d] (.opn 7 (fun a97 => (.opp [2, 7] [] (Nat × Nat) (fun y98 => j + 1 ≤ y98.2 ∧ y98.2 ≤ maxLen) (fun y98 => (.slice (some ⟨y98.1, 0, none⟩) (j + 1) y98.2, [some (y98.1, .row (Ls ++ ([vi ((x56.2.1 : Nat) : Int)] : List Value)) 3 (y98.2 * 1)), some (a97, .row [vi ((x56.2.1 : Nat) : Int)] 3 1)])) (fun y98 => (ops [.d, .d, .nw, .d] (.fin [] [])))))))))))))) .altn)) .altn)))))))) (.fin [] []))) (by kernel_rfl)
    (⟨fun h52 => (have := of_decide_eq_true h52; ⟨⟨(hnd j (by omega)).1, by omega, by omega⟩, ⟨(hnd j (by omega)).2.1, fun a53 => ⟨rfl, ⟨rfl, ⟨rfl, ⟨rfl, ⟨rfl, fun a54 => ⟨rfl, ⟨rfl, ⟨made_ok_L9_ct lv ln lc LB LO nd a0 j b cap Lr b2 cap2 Ls u1 a53 a54 zs ks R hln hnd (by omega) hI.2, ⟨fun x56 qx56 => ⟨CT.frz 5 rfl (fun S hS hc => (have hle := RO.le_trans hle hS; have hnd := hnd_mono hS hnd; have hI := And.intro hI.1 (MI.mono hS hI.2); have qx56 := And.intro qx56.1 (qx56.2.mono hS);  show CT Tryd.prog (sub (bodyOf Tryd.f8) [1, 1, 1, 0, 1, 0, 0, 1, 1, 0, 0, 1, 1, 1, 1, 0, 0]) ⟨(.slice lv ln lc :: undef :: ptA a0 :: (u1 3) :: gsv b j cap :: gsv b2 j cap2 :: vi (j : Int) :: ptA a53 :: ptA a54 :: vi ((x56.2.1 : Nat) : Int) :: undef :: (x56.2.2.2.2.2.2.2 11) :: (x56.2.2.2.2.2.2.2 12) :: .slice lv ln lc :: vi (ln : Int) :: vi (j : Int) :: .bool true :: vi (j : Int) :: .pointer (some ⟨LB, LO + Int.toNat (j : Int) * 5, none⟩) :: .agg #[vi ((nd j).k), vu ((nd j).i), .string ((nd j).s), .slice (nd j).ba ((nd j).bn) ((nd j).bc), .slice (nd j).pa ((nd j).pm) ((nd j).pc)] :: ptA a53 :: vi ((nd j).k) :: .pointer (some ⟨a53, 1, none⟩) :: vu ((nd j).i) :: .pointer (some ⟨a53, 2, none⟩) :: .string ((nd j).s) :: .pointer (some ⟨a53, 4, none⟩) :: .slice (nd j).pa ((nd j).pm) ((nd j).pc) :: .agg #[vi ((nd j).k), vu ((nd j).i), .string ((nd j).s), .slice none 0 0, .slice (nd j).pa ((nd j).pm) ((nd j).pc)] :: .pointer (some ⟨a53, 3, none⟩) :: .slice (nd j).ba ((nd j).bn) ((nd j).bc) :: vi (((nd j).bn : Nat) : Int) :: vi ((x56.1 : Nat) : Int) :: urun x56.2.2.2.2.2.2.2 33 26 (urun u1 59 30 (uns 10 []))), [], [some (a0, .row [vi 0, vu 0, .string ByteArray.empty, .slice none 0 0, .slice none 0 0] 30 5), gsb b Lr 30 (cap * 5), gsb b2 Ls 3 (cap2 * 1), some (a53, .row [vi ((nd j).k), vu ((nd j).i), .string ((nd j).s), .slice (nd j).ba ((nd j).bn) ((nd j).bc), .slice (nd j).pa ((nd j).pm) ((nd j).pc)] 36 5), some (a54, .row [vi ((nd j).k), vu ((nd j).i), .string ((nd j).s), gsv x56.2.2.2.1 x56.2.2.1 x56.2.2.2.2.1, .slice (nd j).pa ((nd j).pm) ((nd j).pc)] 30 5), none]⟩ S (altPost R (.altG (Bool × NV) (fun zx G => (zx.1 = false → x56.2.1 ≤ 300 ∧ (nd j).s.size ≤ 60 ∧ (nd j).pm ≤ 20 ∧ (nd j).bn ≤ 20) ∧ ∀ a, x56.2.2.2.1 = some a → G.cells a 0 x56.2.2.2.2.2.1) (fun zx => (.normal, ⟨(.slice lv ln lc :: undef :: ptA a0 :: (u1 3) :: gsv b j cap :: gsv b2 j cap2 :: vi (j : Int) :: ptA a53 :: ptA a54 :: vi ((x56.2.1 : Nat) : Int) :: undef :: (x56.2.2.2.2.2.2.2 11) :: (x56.2.2.2.2.2.2.2 12) :: .slice lv ln lc :: vi (ln : Int) :: vi (j : Int) :: .bool true :: vi (j : Int) :: .pointer (some ⟨LB, LO + Int.toNat (j : Int) * 5, none⟩) :: .agg #[vi ((nd j).k), vu ((nd j).i), .string ((nd j).s), .slice (nd j).ba ((nd j).bn) ((nd j).bc), .slice (nd j).pa ((nd j).pm) ((nd j).pc)] :: ptA a53 :: vi ((nd j).k) :: .pointer (some ⟨a53, 1, none⟩) :: vu ((nd j).i) :: .pointer (some ⟨a53, 2, none⟩) :: .string ((nd j).s) :: .pointer (some ⟨a53, 4, none⟩) :: .slice (nd j).pa ((nd j).pm) ((nd j).pc) :: .agg #[vi ((nd j).k), vu ((nd j).i), .string ((nd j).s), .slice none 0 0, .slice (nd j).pa ((nd j).pm) ((nd j).pc)] :: .pointer (some ⟨a53, 3, none⟩) :: .slice (nd j).ba ((nd j).bn) ((nd j).bc) :: vi (((nd j).bn : Nat) : Int) :: vi ((x56.1 : Nat) : Int) :: urun x56.2.2.2.2.2.2.2 33 26 (urun zx.2 59 19 (.bool zx.1 :: urun u1 79 10 (uns 10 [])))), [], [some (a0, .row [vi 0, vu 0, .string ByteArray.empty, .slice none 0 0, .slice none 0 0] 30 5), gsb b Lr 30 (cap * 5), gsb b2 Ls 3 (cap2 * 1), some (a53, .row [vi ((nd j).k), vu ((nd j).i), .string ((nd j).s), .slice (nd j).ba ((nd j).bn) ((nd j).bc), .slice (nd j).pa ((nd j).pm) ((nd j).pc)] 36 5), some (a54, .row [vi ((nd j).k), vu ((nd j).i), .string ((nd j).s), gsv x56.2.2.2.1 x56.2.2.1 x56.2.2.2.2.1, .slice (nd j).pa ((nd j).pm) ((nd j).pc)] 30 5), none]⟩)) (fun _ => .altn) .altn)) from CT.of_wp_eq (VC := (let z10 := (((nd j).s).size : Int); let z9 := (x56.2.2.2.2.2.2.2 12); let z8 := (x56.2.2.2.2.2.2.2 11); let z7 := (decide ((((nd j).pm : Nat) : Int) > 20)); let z6 := (((nd j).bn : Nat) : Int); let z5 := (decide (z10 > 60)); let z4 := ((x56.2.1 : Nat) : Int); let z3 : Option Addr := (some ⟨LB, LO + Int.toNat (j : Int) * 5, none⟩); let z2 : Array Value := #[vi ((nd j).k), vu ((nd j).i), .string ((nd j).s), .slice none 0 0, .slice (nd j).pa ((nd j).pm) ((nd j).pc)]; let z1 : Array Value := #[vi ((nd j).k), vu ((nd j).i), .string ((nd j).s), .slice (nd j).ba ((nd j).bn) ((nd j).bc), .slice (nd j).pa ((nd j).pm) ((nd j).pc)]; let z0 : Hp := [some (a0, .row [vi 0, vu 0, .string ByteArray.empty, .slice none 0 0, .slice none 0 0] 30 5), gsb b Lr 30 (cap * 5), gsb b2 Ls 3 (cap2 * 1), some (a53, .row [vi ((nd j).k), vu ((nd j).i), .string ((nd j).s), .slice (nd j).ba ((nd j).bn) ((nd j).bc), .slice (nd j).pa ((nd j).pm) ((nd j).pc)] 36 5), some (a54, .row [vi ((nd j).k), vu ((nd j).i), .string ((nd j).s), gsv x56.2.2.2.1 x56.2.2.1 x56.2.2.2.2.1, .slice (nd j).pa ((nd j).pm) ((nd j).pc)] 30 5), none]; ((decide (z4 > 300)) = true → altPost R (.altG (Bool × NV) (fun zx G => (zx.1 = false → x56.2.1 ≤ 300 ∧ (nd j).s.size ≤ 60 ∧ (nd j).pm ≤ 20 ∧ (nd j).bn ≤ 20) ∧ ∀ a, x56.2.2.2.1 = some a → G.cells a 0 x56.2.2.2.2.2.1) (fun zx => (.normal, ⟨(.slice lv ln lc :: undef :: ptA a0 :: (u1 3) :: gsv b j cap :: gsv b2 j cap2 :: vi (j : Int) :: ptA a53 :: ptA a54 :: vi z4 :: undef :: z8 :: z9 :: .slice lv ln lc :: vi (ln : Int) :: vi (j : Int) :: .bool true :: vi (j : Int) :: .pointer z3 :: .agg z1 :: ptA a53 :: vi ((nd j).k) :: .pointer (some ⟨a53, 1, none⟩) :: vu ((nd j).i) :: .pointer (some ⟨a53, 2, none⟩) :: .string ((nd j).s) :: .pointer (some ⟨a53, 4, none⟩) :: .slice (nd j).pa ((nd j).pm) ((nd j).pc) :: .agg z2 :: .pointer (some ⟨a53, 3, none⟩) :: .slice (nd j).ba ((nd j).bn) ((nd j).bc) :: vi z6 :: vi ((x56.1 : Nat) : Int) :: urun x56.2.2.2.2.2.2.2 33 26 (urun zx.2 59 19 (.bool zx.1 :: urun u1 79 10 (uns 10 [])))), [], z0⟩)) (fun _ => .altn) .altn) .normal ⟨(.slice lv ln lc :: undef :: ptA a0 :: (u1 3) :: gsv b j cap :: gsv b2 j cap2 :: vi (j : Int) :: ptA a53 :: ptA a54 :: vi z4 :: undef :: z8 :: z9 :: .slice lv ln lc :: vi (ln : Int) :: vi (j : Int) :: .bool true :: vi (j : Int) :: .pointer z3 :: .agg z1 :: ptA a53 :: vi ((nd j).k) :: .pointer (some ⟨a53, 1, none⟩) :: vu ((nd j).i) :: .pointer (some ⟨a53, 2, none⟩) :: .string ((nd j).s) :: .pointer (some ⟨a53, 4, none⟩) :: .slice (nd j).pa ((nd j).pm) ((nd j).pc) :: .agg z2 :: .pointer (some ⟨a53, 3, none⟩) :: .slice (nd j).ba ((nd j).bn) ((nd j).bc) :: vi z6 :: vi ((x56.1 : Nat) : Int) :: urun x56.2.2.2.2.2.2.2 33 26 (vi z4 :: .bool (decide (z4 > 300)) :: .bool true :: uns 4 (.bool true :: .bool true :: uns 4 (.bool true :: .bool true :: uns 4 (.bool true :: urun u1 79 10 (uns 10 [])))))), [], z0⟩ S) ∧ ((decide (z4 > 300)) = false → (a53 = a53) ∧ (z5 = true → altPost R (.altG (Bool × NV) (fun zx G => (zx.1 = false → x56.2.1 ≤ 300 ∧ (nd j).s.size ≤ 60 ∧ (nd j).pm ≤ 20 ∧ (nd j).bn ≤ 20) ∧ ∀ a, x56.2.2.2.1 = some a → G.cells a 0 x56.2.2.2.2.2.1) (fun zx => (.normal, ⟨(.slice lv ln lc :: undef :: ptA a0 :: (u1 3) :: gsv b j cap :: gsv b2 j cap2 :: vi (j : Int) :: ptA a53 :: ptA a54 :: vi z4 :: undef :: z8 :: z9 :: .slice lv ln lc :: vi (ln : Int) :: vi (j : Int) :: .bool true :: vi (j : Int) :: .pointer z3 :: .agg z1 :: ptA a53 :: vi ((nd j).k) :: .pointer (some ⟨a53, 1, none⟩) :: vu ((nd j).i) :: .pointer (some ⟨a53, 2, none⟩) :: .string ((nd j).s) :: .pointer (some ⟨a53, 4, none⟩) :: .slice (nd j).pa ((nd j).pm) ((nd j).pc) :: .agg z2 :: .pointer (some ⟨a53, 3, none⟩) :: .slice (nd j).ba ((nd j).bn) ((nd j).bc) :: vi z6 :: vi ((x56.1 : Nat) : Int) :: urun x56.2.2.2.2.2.2.2 33 26 (urun zx.2 59 19 (.bool zx.1 :: urun u1 79 10 (uns 10 [])))), [], z0⟩)) (fun _ => .altn) .altn) .normal ⟨(.slice lv ln lc :: undef :: ptA a0 :: (u1 3) :: gsv b j cap :: gsv b2 j cap2 :: vi (j : Int) :: ptA a53 :: ptA a54 :: vi z4 :: undef :: z8 :: z9 :: .slice lv ln lc :: vi (ln : Int) :: vi (j : Int) :: .bool true :: vi (j : Int) :: .pointer z3 :: .agg z1 :: ptA a53 :: vi ((nd j).k) :: .pointer (some ⟨a53, 1, none⟩) :: vu ((nd j).i) :: .pointer (some ⟨a53, 2, none⟩) :: .string ((nd j).s) :: .pointer (some ⟨a53, 4, none⟩) :: .slice (nd j).pa ((nd j).pm) ((nd j).pc) :: .agg z2 :: .pointer (some ⟨a53, 3, none⟩) :: .slice (nd j).ba ((nd j).bn) ((nd j).bc) :: vi z6 :: vi ((x56.1 : Nat) : Int) :: urun x56.2.2.2.2.2.2.2 33 26 (vi z4 :: .bool (decide (z4 > 300)) :: .bool false :: .pointer (some ⟨a53, 2, none⟩) :: .string ((nd j).s) :: vi z10 :: .bool z5 :: .bool z5 :: .bool true :: uns 4 (.bool true :: .bool true :: uns 4 (.bool true :: urun u1 79 10 (uns 10 []))))), [], z0⟩ S) ∧ (z5 = false → (a53 = a53) ∧ (z7 = true → altPost R (.altG (Bool × NV) (fun zx G => (zx.1 = false → x56.2.1 ≤ 300 ∧ (nd j).s.size ≤ 60 ∧ (nd j).pm ≤ 20 ∧ (nd j).bn ≤ 20) ∧ ∀ a, x56.2.2.2.1 = some a → G.cells a 0 x56.2.2.2.2.2.1) (fun zx => (.normal, ⟨(.slice lv ln lc :: undef :: ptA a0 :: (u1 3) :: gsv b j cap :: gsv b2 j cap2 :: vi (j : Int) :: ptA a53 :: ptA a54 :: vi z4 :: undef :: z8 :: z9 :: .slice lv ln lc :: vi (ln : Int) :: vi (j : Int) :: .bool true :: vi (j : Int) :: .pointer z3 :: .agg z1 :: ptA a53 :: vi ((nd j).k) :: .pointer (some ⟨a53, 1, none⟩) :: vu ((nd j).i) :: .pointer (some ⟨a53, 2, none⟩) :: .string ((nd j).s) :: .pointer (some ⟨a53, 4, none⟩) :: .slice (nd j).pa ((nd j).pm) ((nd j).pc) :: .agg z2 :: .pointer (some ⟨a53, 3, none⟩) :: .slice (nd j).ba ((nd j).bn) ((nd j).bc) :: vi z6 :: vi ((x56.1 : Nat) : Int) :: urun x56.2.2.2.2.2.2.2 33 26 (urun zx.2 59 19 (.bool zx.1 :: urun u1 79 10 (uns 10 [])))), [], z0⟩)) (fun _ => .altn) .altn) .normal ⟨(.slice lv ln lc :: undef :: ptA a0 :: (u1 3) :: gsv b j cap :: gsv b2 j cap2 :: vi (j : Int) :: ptA a53 :: ptA a54 :: vi z4 :: undef :: z8 :: z9 :: .slice lv ln lc :: vi (ln : Int) :: vi (j : Int) :: .bool true :: vi (j : Int) :: .pointer z3 :: .agg z1 :: ptA a53 :: vi ((nd j).k) :: .pointer (some ⟨a53, 1, none⟩) :: vu ((nd j).i) :: .pointer (some ⟨a53, 2, none⟩) :: .string ((nd j).s) :: .pointer (some ⟨a53, 4, none⟩) :: .slice (nd j).pa ((nd j).pm) ((nd j).pc) :: .agg z2 :: .pointer (some ⟨a53, 3, none⟩) :: .slice (nd j).ba ((nd j).bn) ((nd j).bc) :: vi z6 :: vi ((x56.1 : Nat) : Int) :: urun x56.2.2.2.2.2.2.2 33 26 (vi z4 :: .bool (decide (z4 > 300)) :: .bool false :: .pointer (some ⟨a53, 2, none⟩) :: .string ((nd j).s) :: vi z10 :: .bool z5 :: .bool z5 :: .bool false :: .pointer (some ⟨a53, 4, none⟩) :: .slice (nd j).pa ((nd j).pm) ((nd j).pc) :: vi (((nd j).pm : Nat) : Int) :: .bool z7 :: .bool z7 :: .bool true :: uns 4 (.bool true :: urun u1 79 10 (uns 10 [])))), [], z0⟩ S) ∧ (z7 = false → (a53 = a53) ∧ altPost R (.altG (Bool × NV) (fun zx G => (zx.1 = false → x56.2.1 ≤ 300 ∧ (nd j).s.size ≤ 60 ∧ (nd j).pm ≤ 20 ∧ (nd j).bn ≤ 20) ∧ ∀ a, x56.2.2.2.1 = some a → G.cells a 0 x56.2.2.2.2.2.1) (fun zx => (.normal, ⟨(.slice lv ln lc :: undef :: ptA a0 :: (u1 3) :: gsv b j cap :: gsv b2 j cap2 :: vi (j : Int) :: ptA a53 :: ptA a54 :: vi z4 :: undef :: z8 :: z9 :: .slice lv ln lc :: vi (ln : Int) :: vi (j : Int) :: .bool true :: vi (j : Int) :: .pointer z3 :: .agg z1 :: ptA a53 :: vi ((nd j).k) :: .pointer (some ⟨a53, 1, none⟩) :: vu ((nd j).i) :: .pointer (some ⟨a53, 2, none⟩) :: .string ((nd j).s) :: .pointer (some ⟨a53, 4, none⟩) :: .slice (nd j).pa ((nd j).pm) ((nd j).pc) :: .agg z2 :: .pointer (some ⟨a53, 3, none⟩) :: .slice (nd j).ba ((nd j).bn) ((nd j).bc) :: vi z6 :: vi ((x56.1 : Nat) : Int) :: urun x56.2.2.2.2.2.2.2 33 26 (urun zx.2 59 19 (.bool zx.1 :: urun u1 79 10 (uns 10 [])))), [], z0⟩)) (fun _ => .altn) .altn) .normal ⟨(.slice lv ln lc :: undef :: ptA a0 :: (u1 3) :: gsv b j cap :: gsv b2 j cap2 :: vi (j : Int) :: ptA a53 :: ptA a54 :: vi z4 :: undef :: z8 :: z9 :: .slice lv ln lc :: vi (ln : Int) :: vi (j : Int) :: .bool true :: vi (j : Int) :: .pointer z3 :: .agg z1 :: ptA a53 :: vi ((nd j).k) :: .pointer (some ⟨a53, 1, none⟩) :: vu ((nd j).i) :: .pointer (some ⟨a53, 2, none⟩) :: .string ((nd j).s) :: .pointer (some ⟨a53, 4, none⟩) :: .slice (nd j).pa ((nd j).pm) ((nd j).pc) :: .agg z2 :: .pointer (some ⟨a53, 3, none⟩) :: .slice (nd j).ba ((nd j).bn) ((nd j).bc) :: vi z6 :: vi ((x56.1 : Nat) : Int) :: urun x56.2.2.2.2.2.2.2 33 26 (vi z4 :: .bool (decide (z4 > 300)) :: .bool false :: .pointer (some ⟨a53, 2, none⟩) :: .string ((nd j).s) :: vi z10 :: .bool z5 :: .bool z5 :: .bool false :: .pointer (some ⟨a53, 4, none⟩) :: .slice (nd j).pa ((nd j).pm) ((nd j).pc) :: vi (((nd j).pm : Nat) : Int) :: .bool z7 :: .bool z7 :: .bool false :: .pointer (some ⟨a53, 3, none⟩) :: .slice (nd j).ba ((nd j).bn) ((nd j).bc) :: vi z6 :: .bool (decide (z6 > 20)) :: .bool (decide (z6 > 20)) :: urun u1 79 10 (uns 10 []))), [], z0⟩ S))))) (ops [.d, .d, .d] (.sp 61 (ops [.d, .d, .d, .d, .d] (.fin [] [])) (ops [.d, .p 3, .d, .d, .d, .d] (.sp 67 (ops [.d, .d, .d] (.fin [] [])) (ops [.d, .p 3, .d, .d, .d, .d] (.sp 73 (ops [.d] (.fin [] [])) (ops [.d, .p 3, .d, .d, .d] (.fin [] [])))))))) (by kernel_rfl) (⟨fun h62 => (have := of_decide_eq_true h62; Or.inl ⟨(true, tget (.slice lv ln lc :: undef :: ptA a0 :: (u1 3) :: gsv b j cap :: gsv b2 j cap2 :: vi (j : Int) :: ptA a53 :: ptA a54 :: vi ((x56.2.1 : Nat) : Int) :: undef :: (x56.2.2.2.2.2.2.2 11) :: (x56.2.2.2.2.2.2.2 12) :: .slice lv ln lc :: vi (ln : Int) :: vi (j : Int) :: .bool true :: vi (j : Int) :: .pointer (some ⟨LB, LO + Int.toNat (j : Int) * 5, none⟩) :: .agg #[vi ((nd j).k), vu ((nd j).i), .string ((nd j).s), .slice (nd j).ba ((nd j).bn) ((nd j).bc), .slice (nd j).pa ((nd j).pm) ((nd j).pc)] :: ptA a53 :: vi ((nd j).k) :: .pointer (some ⟨a53, 1, none⟩) :: vu ((nd j).i) :: .pointer (some ⟨a53, 2, none⟩) :: .string ((nd j).s) :: .pointer (some ⟨a53, 4, none⟩) :: .slice (nd j).pa ((nd j).pm) ((nd j).pc) :: .agg #[vi ((nd j).k), vu ((nd j).i), .string ((nd j).s), .slice none 0 0, .slice (nd j).pa ((nd j).pm) ((nd j).pc)] :: .pointer (some ⟨a53, 3, none⟩) :: .slice (nd j).ba ((nd j).bn) ((nd j).bc) :: vi (((nd j).bn : Nat) : Int) :: vi ((x56.1 : Nat) : Int) :: urun x56.2.2.2.2.2.2.2 33 26 (vi ((x56.2.1 : Nat) : Int) :: .bool (decide (((x56.2.1 : Nat) : Int) > 300)) :: .bool true :: uns 4 (.bool true :: .bool true :: uns 4 (.bool true :: .bool true :: uns 4 (.bool true :: urun u1 79 10 (uns 10 []))))))), (show (true = false → x56.2.1 ≤ 300 ∧ (nd j).s.size ≤ 60 ∧ (nd j).pm ≤ 20 ∧ (nd j).bn ≤ 20) ∧ ∀ a, x56.2.2.2.1 = some a → S.cells a 0 x56.2.2.2.2.2.1 from ⟨fun h9 => (by first | (exact absurd h9 (by decide)) | (have := of_decide_eq_false h9; exact ⟨by omega, by omega, by omega, by omega⟩)), hc⟩), rfl, ⟨rfl, rfl, rfl⟩⟩), fun h62 => (have := of_decide_eq_false h62; ⟨rfl, ⟨fun h63 => (have := of_decide_eq_true h63; Or.inl ⟨(true, tget (.slice lv ln lc :: undef :: ptA a0 :: (u1 3) :: gsv b j cap :: gsv b2 j cap2 :: vi (j : Int) :: ptA a53 :: ptA a54 :: vi ((x56.2.1 : Nat) : Int) :: undef :: (x56.2.2.2.2.2.2.2 11) :: (x56.2.2.2.2.2.2.2 12) :: .slice lv ln lc :: vi (ln : Int) :: vi (j : Int) :: .bool true :: vi (j : Int) :: .pointer (some ⟨LB, LO + Int.toNat (j : Int) * 5, none⟩) :: .agg #[vi ((nd j).k), vu ((nd j).i), .string ((nd j).s), .slice (nd j).ba ((nd j).bn) ((nd j).bc), .slice (nd j).pa ((nd j).pm) ((nd j).pc)] :: ptA a53 :: vi ((nd j).k) :: .pointer (some ⟨a53, 1, none⟩) :: vu ((nd j).i) :: .pointer (some ⟨a53, 2, none⟩) :: .string ((nd j).s) :: .pointer (some ⟨a53, 4, none⟩) :: .slice (nd j).pa ((nd j).pm) ((nd j).pc) :: .agg #[vi ((nd j).k), vu ((nd j).i), .string ((nd j).s), .slice none 0 0, .slice (nd j).pa ((nd j).pm) ((nd j).pc)] :: .pointer (some ⟨a53, 3, none⟩) :: .slice (nd j).ba ((nd j).bn) ((nd j).bc) :: vi (((nd j).bn : Nat) : Int) :: vi ((x56.1 : Nat) : Int) :: urun x56.2.2.2.2.2.2.2 33 26 (vi ((x56.2.1 : Nat) : Int) :: .bool (decide (((x56.2.1 : Nat) : Int) > 300)) :: .bool false :: .pointer (some ⟨a53, 2, none⟩) :: .string ((nd j).s) :: vi (((nd j).s).size : Int) :: .bool (decide ((((nd j).s).size : Int) > 60)) :: .bool (decide ((((nd j).s).size : Int) > 60)) :: .bool true :: uns 4 (.bool true :: .bool true :: uns 4 (.bool true :: urun u1 79 10 (uns 10 [])))))), (show (true = false → x56.2.1 ≤ 300 ∧ (nd j).s.size ≤ 60 ∧ (nd j).pm ≤ 20 ∧ (nd j).bn ≤ 20) ∧ ∀ a, x56.2.2.2.1 = some a → S.cells a 0 x56.2.2.2.2.2.1 from ⟨fun h9 => (by first | (exact absurd h9 (by decide)) | (have := of_decide_eq_false h9; exact ⟨by omega, by omega, by omega, by omega⟩)), hc⟩), rfl, ⟨rfl, rfl, rfl⟩⟩), fun h63 => (have := of_decide_eq_false h63; ⟨rfl, ⟨fun h64 => (have := of_decide_eq_true h64; Or.inl ⟨(true, tget (.slice lv ln lc :: undef :: ptA a0 :: (u1 3) :: gsv b j cap :: gsv b2 j cap2 :: vi (j : Int) :: ptA a53 :: ptA a54 :: vi ((x56.2.1 : Nat) : Int) :: undef :: (x56.2.2.2.2.2.2.2 11) :: (x56.2.2.2.2.2.2.2 12) :: .slice lv ln lc :: vi (ln : Int) :: vi (j : Int) :: .bool true :: vi (j : Int) :: .pointer (some ⟨LB, LO + Int.toNat (j : Int) * 5, none⟩) :: .agg #[vi ((nd j).k), vu ((nd j).i), .string ((nd j).s), .slice (nd j).ba ((nd j).bn) ((nd j).bc), .slice (nd j).pa ((nd j).pm) ((nd j).pc)] :: ptA a53 :: vi ((nd j).k) :: .pointer (some ⟨a53, 1, none⟩) :: vu ((nd j).i) :: .pointer (some ⟨a53, 2, none⟩) :: .string ((nd j).s) :: .pointer (some ⟨a53, 4, none⟩) :: .slice (nd j).pa ((nd j).pm) ((nd j).pc) :: .agg #[vi ((nd j).k), vu ((nd j).i), .string ((nd j).s), .slice none 0 0, .slice (nd j).pa ((nd j).pm) ((nd j).pc)] :: .pointer (some ⟨a53, 3, none⟩) :: .slice (nd j).ba ((nd j).bn) ((nd j).bc) :: vi (((nd j).bn : Nat) : Int) :: vi ((x56.1 : Nat) : Int) :: urun x56.2.2.2.2.2.2.2 33 26 (vi ((x56.2.1 : Nat) : Int) :: .bool (decide (((x56.2.1 : Nat) : Int) > 300)) :: .bool false :: .pointer (some ⟨a53, 2, none⟩) :: .string ((nd j).s) :: vi (((nd j).s).size : Int) :: .bool (decide ((((nd j).s).size : Int) > 60)) :: .bool (decide ((((nd j).s).size : Int) > 60)) :: .bool false :: .pointer (some ⟨a53, 4, none⟩) :: .slice (nd j).pa ((nd j).pm) ((nd j).pc) :: vi (((nd j).pm : Nat) : Int) :: .bool (decide ((((nd j).pm : Nat) : Int) > 20)) :: .bool (decide ((((nd j).pm : Nat) : Int) > 20)) :: .bool true :: uns 4 (.bool true :: urun u1 79 10 (uns 10 []))))), (show (true = false → x56.2.1 ≤ 300 ∧ (nd j).s.size ≤ 60 ∧ (nd j).pm ≤ 20 ∧ (nd j).bn ≤ 20) ∧ ∀ a, x56.2.2.2.1 = some a → S.cells a 0 x56.2.2.2.2.2.1 from ⟨fun h9 => (by first | (exact absurd h9 (by decide)) | (have := of_decide_eq_false h9; exact ⟨by omega, by omega, by omega, by omega⟩)), hc⟩), rfl, ⟨rfl, rfl, rfl⟩⟩), fun h64 => (have := of_decide_eq_false h64; ⟨rfl, Or.inl ⟨(decide ((((nd j).bn : Nat) : Int) > 20), tget (.slice lv ln lc :: undef :: ptA a0 :: (u1 3) :: gsv b j cap :: gsv b2 j cap2 :: vi (j : Int) :: ptA a53 :: ptA a54 :: vi ((x56.2.1 : Nat) : Int) :: undef :: (x56.2.2.2.2.2.2.2 11) :: (x56.2.2.2.2.2.2.2 12) :: .slice lv ln lc :: vi (ln : Int) :: vi (j : Int) :: .bool true :: vi (j : Int) :: .pointer (some ⟨LB, LO + Int.toNat (j : Int) * 5, none⟩) :: .agg #[vi ((nd j).k), vu ((nd j).i), .string ((nd j).s), .slice (nd j).ba ((nd j).bn) ((nd j).bc), .slice (nd j).pa ((nd j).pm) ((nd j).pc)] :: ptA a53 :: vi ((nd j).k) :: .pointer (some ⟨a53, 1, none⟩) :: vu ((nd j).i) :: .pointer (some ⟨a53, 2, none⟩) :: .string ((nd j).s) :: .pointer (some ⟨a53, 4, none⟩) :: .slice (nd j).pa ((nd j).pm) ((nd j).pc) :: .agg #[vi ((nd j).k), vu ((nd j).i), .string ((nd j).s), .slice none 0 0, .slice (nd j).pa ((nd j).pm) ((nd j).pc)] :: .pointer (some ⟨a53, 3, none⟩) :: .slice (nd j).ba ((nd j).bn) ((nd j).bc) :: vi (((nd j).bn : Nat) : Int) :: vi ((x56.1 : Nat) : Int) :: urun x56.2.2.2.2.2.2.2 33 26 (vi ((x56.2.1 : Nat) : Int) :: .bool (decide (((x56.2.1 : Nat) : Int) > 300)) :: .bool false :: .pointer (some ⟨a53, 2, none⟩) :: .string ((nd j).s) :: vi (((nd j).s).size : Int) :: .bool (decide ((((nd j).s).size : Int) > 60)) :: .bool (decide ((((nd j).s).size : Int) > 60)) :: .bool false :: .pointer (some ⟨a53, 4, none⟩) :: .slice (nd j).pa ((nd j).pm) ((nd j).pc) :: vi (((nd j).pm : Nat) : Int) :: .bool (decide ((((nd j).pm : Nat) : Int) > 20)) :: .bool (decide ((((nd j).pm : Nat) : Int) > 20)) :: .bool false :: .pointer (some ⟨a53, 3, none⟩) :: .slice (nd j).ba ((nd j).bn) ((nd j).bc) :: vi (((nd j).bn : Nat) : Int) :: .bool (decide ((((nd j).bn : Nat) : Int) > 20)) :: .bool (decide ((((nd j).bn : Nat) : Int) > 20)) :: urun u1 79 10 (uns 10 [])))), (show ((decide ((((nd j).bn : Nat) : Int) > 20)) = false → x56.2.1 ≤ 300 ∧ (nd j).s.size ≤ 60 ∧ (nd j).pm ≤ 20 ∧ (nd j).bn ≤ 20) ∧ ∀ a, x56.2.2.2.1 = some a → S.cells a 0 x56.2.2.2.2.2.1 from ⟨fun h9 => (by first | (exact absurd h9 (by decide)) | (have := of_decide_eq_false h9; exact ⟨by omega, by omega, by omega, by omega⟩)), hc⟩), rfl, ⟨rfl, rfl, rfl⟩⟩⟩)⟩⟩)⟩⟩)⟩))), ⟨fun x62 G63 hG63 qx62 => (have hle := RO.le_trans hle hG63; have hnd := hnd_mono hG63 hnd; have hI := And.intro hI.1 (MI.mono hG63 hI.2); have qx56 := And.intro qx56.1 (qx56.2.mono hG63); ⟨fun h94 => ⟨rfl, LKr (Or.inr (altGA (G := G63) (fun zw => (j, b, cap, Lr, zs, b2, cap2, Ls, ks, zw)) ⟨(show True from trivial), (by show _ = _; kernel_rfl), ⟨(by show _ = _; kernel_rfl), (by show _ = _; kernel_rfl), (by show _ = _; kernel_rfl)⟩⟩))⟩, fun h94 => ⟨rfl, fun a95 => ⟨(app1_ok (e := 30) (e' := 30) (z := 5) (by' := 80) (zc := [vi 0, vu 0, .string ByteArray.empty, .slice none 0 0, .slice none 0 0]) (b := b) (len := j) (cap := cap) (n := 1) (cs := Lr) (new := [vi ((nd j).k), vu ((nd j).i), .string ((nd j).s), gsv x56.2.2.2.1 x56.2.2.1 x56.2.2.2.2.1, .slice (nd j).pa ((nd j).pm) ((nd j).pc)]) (by kernel_rfl) (.inl (by kernel_rfl)) (by kernel_rfl) rfl (by rw [hI.2.rows, rowsL_len, hI.2.zl]) hI.2.jc hI.2.cm hI.2.b0 ⟨rfl, .inr (.inr ⟨_, _, _, rfl, .inl ⟨1, _, _, _, rfl, rfl⟩⟩)⟩ (ones_spec rfl) (by omega) (by simp only [maxLen]; omega) (by omega)), fun y96 qy96 => fun a97 => ⟨(app1_ok (e := 3) (e' := 3) (z := 1) (by' := 8) (zc := [vi 0]) (b := b2) (len := j) (cap := cap2) (n := 1) (cs := Ls) (new := [vi ((x56.2.1 : Nat) : Int)]) (by kernel_rfl) (.inl (by kernel_rfl)) (by kernel_rfl) rfl (by rw [hI.2.ints, intsN_len, hI.2.kl]) hI.2.jd hI.2.dm hI.2.c0 ⟨rfl, .inr (.inr ⟨_, _, _, rfl, .inl ⟨1, _, _, _, rfl, rfl⟩⟩)⟩ (ones_spec rfl) (by omega) (by simp only [maxLen]; omega) (by omega)), fun y98 qy98 => ⟨(nwI (by omega) (by omega)), LKn (fun zw => ((j + 1), (some y96.1), y96.2, (Lr ++ ([vi ((nd j).k), vu ((nd j).i), .string ((nd j).s), gsv x56.2.2.2.1 x56.2.2.1 x56.2.2.2.2.1, .slice (nd j).pa ((nd j).pm) ((nd j).pc)] : List Value)), (zs ++ [mdL (nd j) x56.2.2.1 x56.2.2.2.1 x56.2.2.2.2.1 x56.2.2.2.2.2.2.1]), (some y98.1), y98.2, (Ls ++ ([vi ((x56.2.1 : Nat) : Int)] : List Value)), (ks ++ [x56.2.1]), zw)) ⟨⟨hle, (show (j + 1) ≤ ln ∧ MI G63 (j + 1) (some y96.1) y96.2 (Lr ++ ([vi ((nd j).k), vu ((nd j).i), .string ((nd j).s), gsv x56.2.2.2.1 x56.2.2.1 x56.2.2.2.2.1, .slice (nd j).pa ((nd j).pm) ((nd j).pc)] : List Value)) (zs ++ [mdL (nd j) x56.2.2.1 x56.2.2.2.1 x56.2.2.2.2.1 x56.2.2.2.2.2.2.1]) (some y98.1) y98.2 (Ls ++ ([vi ((x56.2.1 : Nat) : Int)] : List Value)) (ks ++ [x56.2.1]) from ⟨by omega, (hI.2.step qx56.2 (hnd j (by omega)).2.2 qx62.2 (qx62.1 h94).1 (qx62.1 h94).2.1 (qx62.1 h94).2.2.1 qy96.1 qy96.2 qy98.1 qy98.2)⟩)⟩, (show ln - (j + 1) < ln - j from (by omega)), ⟨rfl, rfl, rfl⟩⟩⟩⟩⟩⟩⟩), trivial⟩⟩, trivial⟩⟩⟩⟩⟩⟩⟩⟩⟩⟩⟩), fun h52 => (have := of_decide_eq_false h52; LKe (altGA (G := R) (fun zw => (j, b, cap, Lr, zs, b2, cap2, Ls, ks, zw)) ⟨(show j = ln ∧ MI R j b cap Lr zs b2 cap2 Ls ks from ⟨by have h9 := hI.1; omega, hI.2⟩), (by show _ = _; kernel_rfl), ⟨(by show _ = _; kernel_rfl), (by show _ = _; kernel_rfl), (by show _ = _; kernel_rfl)⟩⟩))⟩)
theorem made_ok_L4_ct (lv : Option Addr) (ln lc LB LO : Nat) (nd : Nat → ND) (a0 : Nat)  (R : RO) (hln : ln ≤ 1048576) (hnd : ∀ j, j < ln → lv = some ⟨LB, LO, none⟩ ∧ R.cells LB (LO + j * 5) (nd j).row ∧ (nd j).Ok R)  : CT Tryd.prog (sub (bodyOf Tryd.f8) [1, 1, 1, 0, 1, 0]) ⟨(.slice lv ln lc :: undef :: ptA a0 :: .bool false :: .slice none 0 0 :: .slice none 0 0 :: uns 7 (.slice lv ln lc :: vi (ln : Int) :: vi 0 :: uns 83 [])), [], [some (a0, .row [vi 0, vu 0, .string ByteArray.empty, .slice none 0 0, .slice none 0 0] 30 5)]⟩ R (made_ok_L4_K lv ln lc LB LO nd a0 R) :=
  CT.pad 2 <| CT.loop_eqs (made_ok_L4_inv lv ln lc LB LO nd a0) (made_ok_L4_I lv ln lc LB LO nd a0 R) (made_ok_L4_mu lv ln lc LB LO nd a0) (fun zw => (0, (none : Option Nat), 0, ([] : List Value), ([] : List L), (none : Option Nat), 0, ([] : List Value), ([] : List Nat), zw)) (by kernel_rfl) (by kernel_rfl) ⟨RO.le_refl R, (show 0 ≤ ln ∧ MI R 0 (none : Option Nat) 0 ([] : List Value) ([] : List L) (none : Option Nat) 0 ([] : List Value) ([] : List Nat) from ⟨Nat.zero_le _, MI.begin R⟩)⟩
    (by
      rintro ⟨j, b, cap, Lr, zs, b2, cap2, Ls, ks, u1⟩ G hG ⟨hle, hI⟩
      have hnd := hnd_mono hle hnd
      exact made_ok_L4_body lv ln lc LB LO nd a0 R G hle hln hnd j b cap Lr zs b2 cap2 Ls ks u1 hI)
theorem made_ok (lv : Option Addr) (ln lc LB LO : Nat) (nd : Nat → ND) (R : RO) (hln : ln ≤ 1048576) (hnd : ∀ j, j < ln → lv = some ⟨LB, LO, none⟩ ∧ R.cells LB (LO + j * 5) (nd j).row ∧ (nd j).Ok R) : Does Tryd.prog 8 [.slice lv ln lc] R [] (fun (r : Out) (G : RO) (B : Hp) => ∃ x : Bool × L, (x.1 = true → x.2.ok G ∧ x.2.t.okn ∧ x.2.t.wt ≤ 490000) ∧ r = .ret (.tuple #[.agg x.2.row.toArray, .bool x.1]) ∧ B = []) :=
  Does.of_wp_eq (VC := (let z4 : Array Value := #[.agg #[vi 0, vu 0, .string ByteArray.empty, .slice none 0 0, .slice none 0 0], .bool false]; let z2 : List Value := [vi 0, vu 0, .string ByteArray.empty, .slice none 0 0, .slice none 0 0]; ∀ a0 : Nat, (CT Tryd.prog (sub (bodyOf Tryd.f8) [1, 1, 1, 0, 1, 0]) ⟨(.slice lv ln lc :: undef :: ptA a0 :: .bool false :: .slice none 0 0 :: .slice none 0 0 :: uns 7 (.slice lv ln lc :: vi (ln : Int) :: vi 0 :: uns 83 [])), [], [some (a0, .row z2 30 5)]⟩ R (made_ok_L4_K lv ln lc LB LO nd a0 R)) ∧ (∀ (x2 : Nat × (Option Nat) × Nat × (List Value) × (List L) × (Option Nat) × Nat × (List Value) × (List Nat) × NV) (G3 : RO), let z5 := ((x2.1 : Int) - 1); let z1 := (undef :: (x2.2.2.2.2.2.2.2.2.2 11) :: (x2.2.2.2.2.2.2.2.2.2 12) :: .slice lv ln lc :: vi (ln : Int) :: vi (x2.1 : Int) :: urun x2.2.2.2.2.2.2.2.2.2 16 73 (gsv x2.2.1 x2.1 x2.2.2.1 :: vi (x2.1 : Int) :: .bool false :: uns 7 [])); let z0 := (zat x2.2.2.2.2.1 z5.toNat); let z3 : Array Value := #[vi (z0.k), vu (z0.id), .string (z0.s), .slice z0.aa (z0.n) (z0.ac), .slice z0.pa (z0.m) (z0.pc)]; R.le G3 → (x2.1 = ln ∧ MI G3 x2.1 x2.2.1 x2.2.2.1 x2.2.2.2.1 x2.2.2.2.2.1 x2.2.2.2.2.2.1 x2.2.2.2.2.2.2.1 x2.2.2.2.2.2.2.2.1 x2.2.2.2.2.2.2.2.2.1) → (((x2.1 : Int) == 0) = true → (a0 = a0) ∧ (a0 = a0) ∧ (fun (r : Out) (G : RO) (B : Hp) => ∃ x : Bool × L, (x.1 = true → x.2.ok G ∧ x.2.t.okn ∧ x.2.t.wt ≤ 490000) ∧ r = .ret (.tuple #[.agg x.2.row.toArray, .bool x.1]) ∧ B = []) (.ret (.tuple z4)) G3 []) ∧ (((x2.1 : Int) == 0) = false → (∃ a9 : Nat, x2.2.1 = some a9) ∧ ∀ a9 : Nat, x2.2.1 = some a9 → ((⟨(.slice lv ln lc :: undef :: ptA a0 :: (x2.2.2.2.2.2.2.2.2.2 3) :: gsv x2.2.1 x2.1 x2.2.2.1 :: gsv x2.2.2.2.2.2.1 x2.1 x2.2.2.2.2.2.2.1 :: urun x2.2.2.2.2.2.2.2.2.2 6 4 z1), [], [some (a0, .row z2 30 5), gsb x2.2.1 x2.2.2.2.1 30 (x2.2.2.1 * 5), gsb x2.2.2.2.2.2.1 x2.2.2.2.2.2.2.2.1 3 (x2.2.2.2.2.2.2.1 * 1)]⟩ : St) = ⟨(.slice lv ln lc :: undef :: ptA a0 :: (x2.2.2.2.2.2.2.2.2.2 3) :: gsv (some a9) x2.1 x2.2.2.1 :: gsv x2.2.2.2.2.2.1 x2.1 x2.2.2.2.2.2.2.1 :: urun x2.2.2.2.2.2.2.2.2.2 6 4 z1), [], [some (a0, .row z2 30 5), gsb (some a9) x2.2.2.2.1 30 (x2.2.2.1 * 5), gsb x2.2.2.2.2.2.1 x2.2.2.2.2.2.2.2.1 3 (x2.2.2.2.2.2.2.1 * 1)]⟩ ∧ (NW .i64 z5) ∧ (IB z5 (x2.1 : Nat)) ∧ (a9 = a9 ∧ readVar Tryd.prog 30 x2.2.2.2.1 (0 + Int.toNat z5 * 5) = some (.agg z3)) ∧ (a0 = a0) ∧ (a0 = a0) ∧ (fun (r : Out) (G : RO) (B : Hp) => ∃ x : Bool × L, (x.1 = true → x.2.ok G ∧ x.2.t.okn ∧ x.2.t.wt ≤ 490000) ∧ r = .ret (.tuple #[.agg x.2.row.toArray, .bool x.1]) ∧ B = []) (.ret (.tuple #[.agg z3, .bool true])) G3 []))) ∧ ((∀ (x4 : Nat × (Option Nat) × Nat × (List Value) × (List L) × (Option Nat) × Nat × (List Value) × (List Nat) × NV) (G5 : RO), R.le G5 → (True) → (a0 = a0) ∧ (fun (r : Out) (G : RO) (B : Hp) => ∃ x : Bool × L, (x.1 = true → x.2.ok G ∧ x.2.t.okn ∧ x.2.t.wt ≤ 490000) ∧ r = .ret (.tuple #[.agg x.2.row.toArray, .bool x.1]) ∧ B = []) (.ret (.tuple z4)) G5 []) ∧ True))) (let y_1 : List Value := [vi 0, vu 0, .string ByteArray.empty, .slice none 0 0, .slice none 0 0]; .opn 0 (fun a0 => (ops [.d, .d, .d, .d, .d, .d] (.altG (Nat × (Option Nat) × Nat × (List Value) × (List L) × (Option Nat) × Nat × (List Value) × (List Nat) × NV) (fun zx G => zx.1 = ln ∧ MI G zx.1 zx.2.1 zx.2.2.1 zx.2.2.2.1 zx.2.2.2.2.1 zx.2.2.2.2.2.1 zx.2.2.2.2.2.2.1 zx.2.2.2.2.2.2.2.1 zx.2.2.2.2.2.2.2.2.1) (fun zx => (.exit 0, ((made_ok_L4_inv lv ln lc LB LO nd a0 zx).up [] [some (a0, .row y_1 30 5), gsb zx.2.1 zx.2.2.2.1 30 (zx.2.2.1 * 5), gsb zx.2.2.2.2.2.1 zx.2.2.2.2.2.2.2.1 3 (zx.2.2.2.2.2.2.1 * 1)]))) (fun x2 => let y_0 := (zat x2.2.2.2.2.1 (Int.toNat (((x2.1 : Nat) : Int) - 1))); (ops [.d, .d, .d] (.sp 91 (ops [.d, .p 0, .d] (.fin [] [(0, none)])) (.ex Nat (fun a9 => x2.2.1 = some a9) (fun a9 => .rw (⟨(.slice lv ln lc :: undef :: ptA a0 :: (x2.2.2.2.2.2.2.2.2.2 3) :: gsv (some a9) x2.1 x2.2.2.1 :: gsv x2.2.2.2.2.2.1 x2.1 x2.2.2.2.2.2.2.1 :: urun x2.2.2.2.2.2.2.2.2.2 6 4 (undef :: (x2.2.2.2.2.2.2.2.2.2 11) :: (x2.2.2.2.2.2.2.2.2.2 12) :: .slice lv ln lc :: vi (ln : Int) :: vi ((x2.1 : Nat) : Int) :: urun x2.2.2.2.2.2.2.2.2.2 16 73 (gsv x2.2.1 x2.1 x2.2.2.1 :: vi ((x2.1 : Nat) : Int) :: .bool false :: uns 7 []))), [], [some (a0, .row y_1 30 5), gsb (some a9) x2.2.2.2.1 30 (x2.2.2.1 * 5), gsb x2.2.2.2.2.2.1 x2.2.2.2.2.2.2.2.1 3 (x2.2.2.2.2.2.2.1 * 1)]⟩) (ops [.d, .d, .d, .nw, .ia, .q 1 (fun e v => .agg #[vi (y_0.k), vu (y_0.id), .string (y_0.s), .slice y_0.aa (y_0.n) (y_0.ac), .slice y_0.pa (y_0.m) (y_0.pc)]), .p 0, .d] (.fin [] [(0, none)]))))))) (.altG (Nat × (Option Nat) × Nat × (List Value) × (List L) × (Option Nat) × Nat × (List Value) × (List Nat) × NV) (fun zx G => True) (fun zx => (.ret, ((made_ok_L4_inv lv ln lc LB LO nd a0 zx).up [(3, .bool false)] [some (a0, .row y_1 30 5), gsb zx.2.1 zx.2.2.2.1 30 (zx.2.2.1 * 5), gsb zx.2.2.2.2.2.1 zx.2.2.2.2.2.2.2.1 3 (zx.2.2.2.2.2.2.1 * 1)]))) (fun x4 => (.fin [] [(0, none)])) .altn))))) Tryd.func8 (by kernel_rfl) (by kernel_rfl)
    (fun a0 => ⟨made_ok_L4_ct lv ln lc LB LO nd a0 R hln hnd, ⟨fun x2 G3 hG3 qx2 => (have hnd := hnd_mono hG3 hnd; ⟨fun h8 => (have := eq_of_beq h8; ⟨rfl, ⟨rfl, ⟨(false, L.nil), fun h => (by cases h), (by rfl), (by rfl)⟩⟩⟩), fun h8 => (have := ne_of_beq_false h8; ⟨(by cases h9 : x2.2.1 with | none => exact absurd (qx2.2.b0 h9) (by have h8 := qx2.2.jc; omega) | some a => exact ⟨a, rfl⟩), fun a9 hxa9 => ⟨(by rw [hxa9]), ⟨(nwI (by omega) (by omega)), ⟨⟨by omega, by omega⟩, ⟨⟨rfl, (rd_L qx2.2.rows (by have h3 := qx2.2.zl; omega))⟩, ⟨rfl, ⟨rfl, ⟨(true, zat x2.2.2.2.2.1 (Int.toNat (((x2.1 : Nat) : Int) - 1))), fun _ => made_end qx2.2 (by omega), (by rfl), (by rfl)⟩⟩⟩⟩⟩⟩⟩⟩)⟩), ⟨fun x4 G5 hG5 qx4 => (have hnd := hnd_mono hG5 hnd; ⟨rfl, ⟨(false, L.nil), fun h => (by cases h), (by rfl), (by rfl)⟩⟩), trivial⟩⟩⟩)
end Go.Proofs.YtejpoojgbnppoaaDoor
namespace Go.Proofs.YtejpoojgbnppoaaDoor
open Vc Go
set_option linter.unusedVariables false
set_option linter.unusedSimpArgs false

namespace T
theorem isN_4 {d : Nat} {x : T} (hd : d ≤ 40) (h : isN d x) (h4 : x.k = 4) : ∃ a ps, x = .mk 4 0 .empty [a] ps ∧ a.k ≠ 4 ∧ prod ps = ps ∧ ps ≠ [] := by
  cases x with
  | mk k i s xs ps =>
    have h4 : k = 4 := h4
    rw [isN, if_neg (by omega)] at h
    rcases h with ⟨h, _⟩ | ⟨h, _⟩ | ⟨h, _⟩ | ⟨rfl, rfl, rfl, ⟨a, rfl, ha⟩, h5, h6, h7⟩
    · omega
    · omega
    · omega
    · exact ⟨a, ps, rfl, ha, h6, h7⟩
theorem pow_congr (x : T) {l m : List PW} (h : ∀ a, IntKind.i64.wrap (sm l a) = IntKind.i64.wrap (sm m a)) : pow x l = pow x m := by
  have h1 := prod_congr h
  have h2 : prod (x.ps ++ l) = prod (x.ps ++ m) := prod_congr fun a => by
    rw [sm_append, sm_append, Int.add_comm, ← wrap_add, h a, wrap_add, Int.add_comm]
  unfold pow
  rw [h1, h2]
theorem pow_nil {x : T} {d : Nat} (hd : d ≤ 40) (h : isN d x) : pow x [] = x := by
  by_cases h4 : x.k = 4
  · obtain ⟨a, ps, rfl, ha, hp, hn⟩ := isN_4 hd h h4
    unfold pow
    rw [if_pos (show (mk 4 0 .empty [a] ps).k = 4 from rfl)]
    show (if prod (ps ++ []) = [] then a else .mk 4 0 .empty [a] (prod (ps ++ []))) = _
    rw [List.append_nil, hp, if_neg hn]
  · unfold pow; rw [if_neg h4, if_pos prod_nil]
/-- A term raised, told normally. -/
def rs (t : T) (l : List PW) : T := nrm 1 (.mk 4 0 .empty [t] l)
theorem rs_eq (t : T) (l : List PW) : rs t l = pow (nrm 2 t) l := by
  unfold rs; rw [nrm, if_neg (by decide), if_neg (by decide), if_neg (by decide), if_neg (by decide), if_pos rfl]; rfl
theorem nrm_12 {t : T} (h : ht t ≤ 37) : nrm 1 (nrm 2 t) = nrm 1 t := by
  rw [nrm_of 1 _ (isN_down 1 _ (isN_nrm 2 t)), nrm_shift 2 1 t (by omega) (by omega)]
theorem nrm_hash (s : ByteArray) (t : T) (i : Int) : nrm 1 (.mk 3 0 s [t, atom i] []) = .mk 3 0 s [nrm 2 t, nrm 2 (atom i)] [] := by
  rw [nrm, if_neg (by decide), if_neg (by decide), if_neg (by decide), if_pos rfl]; rfl
mutual
theorem okn_good : ∀ (t : T), good t → okn t
  | .mk k i s xs ps => by
    intro h
    obtain ⟨h1, h2, h3, h4⟩ := h
    refine ⟨?_, h1, fun p hp => ⟨(h2 p hp).1, (h2 p hp).2⟩, oknL_good xs h4⟩
    have e1 : IntKind.i64.min = -9223372036854775808 := by decide
    have e2 : IntKind.i64.max = 9223372036854775807 := by decide
    rcases h3 with rfl | rfl | rfl | ⟨rfl, _⟩ <;> omega
theorem oknL_good : ∀ (l : List T), goodL l → oknL l
  | [], _ => trivial
  | a :: l, h => ⟨okn_good a h.1, oknL_good l h.2⟩
end
theorem okn_nrm (d : Nat) {t : T} (h : okn t) : okn (nrm d t) := okn_good _ (good_nrm d t h)
def pwR (l : List PW) : Prop := ∀ p ∈ l, (0 ≤ p.1 ∧ p.1 ≤ 4294967295) ∧ IntKind.i64.min ≤ p.2 ∧ p.2 ≤ IntKind.i64.max
theorem okn_rs {t : T} {l : List PW} (h : okn t) (hl : pwR l) : okn (rs t l) := okn_nrm 1 ⟨by decide, by decide, hl, h, trivial⟩
theorem wt_rs {t : T} {l : List PW} {n : Nat} (h : t.wt ≤ n) : (rs t l).wt ≤ n + 301 + 60 * l.length :=
  Nat.le_trans (wt_nrm 1 _) (by show 300 + 2 * 0 + 60 * l.length + (t.wt + 1 + 0) ≤ _; omega)
theorem pwR_2 {a n b m : Int} (h : 0 ≤ a ∧ a ≤ 4294967295) (h' : IntKind.i64.min ≤ n ∧ n ≤ IntKind.i64.max) (k : 0 ≤ b ∧ b ≤ 4294967295) (k' : IntKind.i64.min ≤ m ∧ m ≤ IntKind.i64.max) : pwR [(a, n), (b, m)] := fun p hp => by
  rcases List.mem_cons.1 hp with rfl | hp
  · exact ⟨h, h'⟩
  · rcases List.mem_singleton.1 hp with rfl; exact ⟨k, k'⟩
theorem txt_5 : txt (nrm 1 (atom 5)) = (⟨#[35, 53]⟩ : ByteArray) := by
  rw [show nrm 1 (atom 5) = atom 5 from nrm_of 1 _ (by unfold atom; rw [isN, if_neg (by decide)]; exact .inl ⟨rfl, rfl, rfl, rfl⟩)]
  unfold atom; rw [txt, if_pos rfl]; kernel_rfl
end T
theorem L.range_getD (l : List PW) : ((List.range l.length).map fun j => l.getD j (0, 0)) = l := by
  apply List.ext_getElem (by simp)
  intro i h1 h2
  simp [List.getElem?_eq_getElem h2]
theorem pows_cells {G : RO} {a : Nat} {l : List PW} (h : G.cells a 0 (powR l)) : ∀ j, j < l.length → some (⟨a, 0, none⟩ : Addr) = some ⟨a, 0, none⟩ ∧ G.cells a (0 + j * 2) [vu (l.getD j (0, 0)).1, vi (l.getD j (0, 0)).2] := fun j hj =>
  ⟨rfl, RO.cells_sub (i := j * 2) h (by show List.take 2 _ = _; rw [powR_at hj]; simp [List.getElem?_eq_getElem hj])⟩
theorem raise2 (y : L) (a : Nat) (l : List PW) (R : RO) (hy : y.ok R) (hw : y.t.wt + 400 + 60 * l.length ≤ 1000000) :
    Does Tryd.prog 10 [y.v, slA a l.length l.length] R [some (a, .row (powR l) 25 (l.length * 2))] (fun r G B => ∃ z : L, (z.ok G ∧ z.t = T.rs y.t l) ∧ r = .ret z.v ∧ B = [none]) :=
  (Does.give fun S hS hc => raise_ok y (some ⟨a, 0, none⟩) l.length l.length a 0 (fun j => l.getD j (0, 0)) S (L.ok_mono hS _ hy) hw ⟨Nat.le_refl _, by simp only [maxLen]; omega⟩ (pows_cells hc)).mono (by
    rintro o G B hle ⟨B', rfl, z, ⟨h1, h2⟩, rfl, rfl⟩
    rw [L.range_getD] at h2
    exact ⟨z, ⟨h1, h2⟩, rfl, rfl⟩)
theorem same_true (y z : L) (R : RO) (hy : y.ok R) (hw : y.t.wt ≤ 1000000) (ho : y.t.okn) (hy' : z.ok R) (hw' : z.t.wt ≤ 1000000) (ho' : z.t.okn) (hT : TabR R) (e : T.nrm 1 y.t = T.nrm 1 z.t) : Gives Tryd.prog 12 [y.v, z.v] R [] (.ret (.bool true)) [] := by
  have h := same_ok y z R hy hw ho hy' hw' ho' hT
  rw [e] at h
  rwa [show ((T.txt (T.nrm 1 z.t)).toList == (T.txt (T.nrm 1 z.t)).toList) = true from beq_self_eq_true _] at h
theorem T.same_aw : T.nrm 1 (T.rs (T.word (⟨#[97]⟩ : ByteArray)) [(3, 1), (3, (-1))]) = T.nrm 1 (T.word (⟨#[97]⟩ : ByteArray)) := by
  rw [T.rs_eq, show T.pow (T.nrm 2 (T.word (⟨#[97]⟩ : ByteArray))) [(3, 1), (3, (-1))] = T.pow (T.nrm 2 (T.word (⟨#[97]⟩ : ByteArray))) [] from T.pow_congr _ fun b => by
    show IntKind.i64.wrap ((if (3 : Int) = b then 1 else 0) + ((if (3 : Int) = b then -1 else 0) + 0)) = IntKind.i64.wrap 0
    split <;> rfl, T.pow_nil (d := 2) (by decide) (T.isN_nrm 2 _), T.nrm_12 (by decide)]

theorem awake_own  (R : RO) (hT : TabR R) : Does Tryd.prog 7 [] R [] (fun (r : Out) (G : RO) (B : Hp) => ∃ x : Unit, (True) ∧ r = .ret (.bool true) ∧ B = []) :=
  Does.of_wp_eq (VC := (let z1 : Array Value := #[vi 1, vu 5, .string ByteArray.empty, .slice none 0 0, .slice none 0 0]; let z0 : Array Value := #[vi 2, vu 0, .string (⟨#[97]⟩ : ByteArray), .slice none 0 0, .slice none 0 0]; (Gives Tryd.prog 15 [.string (⟨#[97]⟩ : ByteArray)] R [] (.ret (.agg z0)) []) ∧ ∀ a0 : Nat, (a0 = a0) ∧ (a0 = a0) ∧ ∀ a1 : Nat, (Does Tryd.prog 10 [.agg z0, slA a1 2 2] R [some (a1, .row [vu 3, vi 1, vu 3, vi (-1)] 25 4)] (fun r G B => ∃ z2 : L, (z2.ok G ∧ z2.t = T.rs (L.word (⟨#[97]⟩ : ByteArray)).t [(3, 1), (3, (-1))]) ∧ r = .ret (.agg z2.row.toArray) ∧ B = [none])) ∧ ∀ (z2 : L) (G3 : RO), R.le G3 → (z2.ok G3 ∧ z2.t = T.rs (L.word (⟨#[97]⟩ : ByteArray)).t [(3, 1), (3, (-1))]) → (a0 = a0) ∧ (Gives Tryd.prog 12 [.agg z2.row.toArray, .agg z0] G3 [] (.ret (.bool true)) []) ∧ (Gives Tryd.prog 14 [vu 5] G3 [] (.ret (.agg z1)) []) ∧ (Gives Tryd.prog 19 [.agg z1] G3 [] (.ret (.string (⟨#[35, 53]⟩ : ByteArray))) []) ∧ (fun (r : Out) (G : RO) (B : Hp) => ∃ x : Unit, (True) ∧ r = .ret (.bool true) ∧ B = []) (.ret (.bool ((⟨#[35, 53]⟩ : ByteArray).toList == (⟨#[35, 53]⟩ : ByteArray).toList))) G3 [])) (ops [.d, .call0 [] [] (fun e v => .ret (.agg #[vi 2, vu 0, .string (⟨#[97]⟩ : ByteArray), .slice none 0 0, .slice none 0 0])) (fun e v => [])] (.opn 0 (fun a0 => (ops [.p 0] (.dr [some (.p 0), some (.d), some (.d), some (.n 1), some (.callG [1] [] (L) (fun e v z2 G => z2.ok G ∧ z2.t = T.rs (L.word (⟨#[97]⟩ : ByteArray)).t [(3, 1), (3, (-1))]) (fun e v z2 => (.agg z2.row.toArray, [none]))), some (.p 0), some (.call0 [] [] (fun e v => .ret (.bool true)) (fun e v => [])), some (.d), some (.call0 [] [] (fun e v => .ret (.agg #[vi 1, vu 5, .string ByteArray.empty, .slice none 0 0, .slice none 0 0])) (fun e v => [])), some (.call0 [] [] (fun e v => .ret (.string (⟨#[35, 53]⟩ : ByteArray))) (fun e v => [])), some (.d), some (.d), some (.d)] (.fin [] [])))))) Tryd.func7 (by kernel_rfl) (by kernel_rfl)
    (⟨(word_ok (⟨#[97]⟩ : ByteArray) R), fun a0 => ⟨rfl, ⟨rfl, fun a1 => ⟨(raise2 (L.word (⟨#[97]⟩ : ByteArray)) _ [(3, 1), (3, (-1))] R (L.word_ok _ _) (by rw [(L.word_t _)]; exact Nat.le_trans (Nat.add_le_add_right (Nat.add_le_add_right (show T.wt (T.word (⟨#[97]⟩ : ByteArray)) ≤ 302 from Nat.le_refl _) _) _) (by (try simp only [List.length_cons, List.length_nil]); omega))), fun z2 G3 hG3 qz2 => (have hT := tab_mono hG3 hT; ⟨rfl, ⟨(same_true z2 (L.word (⟨#[97]⟩ : ByteArray)) G3 qz2.1 (by rw [(qz2.2.trans (congrArg (T.rs · [(3, 1), (3, (-1))]) (L.word_t _)))]; exact Nat.le_trans (T.wt_rs (l := [(3, 1), (3, (-1))]) (show T.wt (T.word (⟨#[97]⟩ : ByteArray)) ≤ 302 from Nat.le_refl _)) (by (try simp only [List.length_cons, List.length_nil]); omega)) (by rw [(qz2.2.trans (congrArg (T.rs · [(3, 1), (3, (-1))]) (L.word_t _)))]; exact (T.okn_rs (show T.okn (T.word (⟨#[97]⟩ : ByteArray)) from ⟨by decide, by decide, fun p hp => (by cases hp), trivial⟩) (T.pwR_2 (by decide) (by decide) (by decide) (by decide)))) (L.word_ok _ _) (by rw [(L.word_t _)]; exact Nat.le_trans (show T.wt (T.word (⟨#[97]⟩ : ByteArray)) ≤ 302 from Nat.le_refl _) (by (try simp only [List.length_cons, List.length_nil]); omega)) (by rw [(L.word_t _)]; exact (show T.okn (T.word (⟨#[97]⟩ : ByteArray)) from ⟨by decide, by decide, fun p hp => (by cases hp), trivial⟩)) hT (by rw [(qz2.2.trans (congrArg (T.rs · [(3, 1), (3, (-1))]) (L.word_t _))), (L.word_t _)]; exact T.same_aw)), ⟨(atom_ok 5 G3), ⟨(by have h9 := texu_ok (L.atom 5) G3 (L.atom_ok 5 G3) (by rw [L.atom_t]; decide) (by rw [L.atom_t]; exact ⟨by decide, by decide, fun p hp => (by cases hp), trivial⟩) hT; rw [L.atom_t, T.txt_5] at h9; exact h9), ⟨(), trivial, (by exact congrArg (fun z => Out.ret (.bool z)) (beq_self_eq_true _)), (by rfl)⟩⟩⟩⟩⟩)⟩⟩⟩⟩)


theorem awake_ok (R : RO) (hT : TabR R) : Gives Tryd.prog 7 [] R [] (.ret (.bool true)) [] :=
  Does.forget ((awake_own R hT).mono (by rintro o G B hle ⟨-, -, rfl, rfl⟩; exact ⟨rfl, rfl⟩))
end Go.Proofs.YtejpoojgbnppoaaDoor
/-
  DERIVED: THE SHELF's CONTRACTS AT THIS DUMP, IN PLAIN WORDS (tools/lay-plain.mjs out of 'YtejpoojgbnppoaaDoorLy2x.lean', which tools/lay-shelf.mjs wrote): THE SAME DECLARATIONS UNDER THE SAME NAMES: 'import', 'namespace', 'open', 'def', 'theorem' AND NOTHING ELSE: no command of the shelf's: FOR A HAND-IN. Each laying: the table of numbers ('.._ren') and one theorem, a field a fact of the dump's own or the kernel's comparison; each contract: ONE APPLICATION.
-/
namespace Go.Proofs
open Go.Shelf
def Tryd.sortF_ren : Go.Shelf.Ren := ⟨fun | 6 => 37 | 15 => 44 | 14 => 51 | 28 => 64 | 29 => 65 | 20 => 74 | 21 => 75 | 22 => 76 | 23 => 77 | 24 => 78 | 25 => 79 | 26 => 80 | 27 => 81 | 46 => 98 | 47 => 83 | 48 => 84 | 49 => 99 | 50 => 100 | 57 => 110 | n => n, fun | 22 => 54 | 24 => 23 | 25 => 73 | 3 => 3 | 39 => 79 | 0 => 0 | 53 => 23 | 55 => 82 | 4 => 4 | 46 => 92 | 45 => 91 | 50 => 97 | 5 => 5 | 9 => 9 | 66 => 116 | 70 => 120 | 76 => 138 | 77 => 139 | n => n, fun | n => n⟩
theorem Tryd.sortF : Go.Proofs.SlLaysF.n6 Tryd.prog Tryd.sortF_ren := {
  mixed := by kernel_rfl
  f6 := ⟨Tryd.f37.name, by decide, Tryd.func37.trans (congrArg some (by kernel_rfl))⟩
  f14 := ⟨Tryd.f51.name, by decide, Tryd.func51.trans (congrArg some (by kernel_rfl))⟩
  f15 := Tryd.func44.trans (congrArg some (by kernel_rfl))
  f20 := ⟨Tryd.f74.name, by decide, Tryd.func74.trans (congrArg some (by kernel_rfl))⟩
  f21 := ⟨Tryd.f75.name, by decide, Tryd.func75.trans (congrArg some (by kernel_rfl))⟩
  f22 := ⟨Tryd.f76.name, by decide, Tryd.func76.trans (congrArg some (by kernel_rfl))⟩
  f23 := ⟨Tryd.f77.name, by decide, Tryd.func77.trans (congrArg some (by kernel_rfl))⟩
  f24 := ⟨Tryd.f78.name, by decide, Tryd.func78.trans (congrArg some (by kernel_rfl))⟩
  f25 := ⟨Tryd.f79.name, by decide, Tryd.func79.trans (congrArg some (by kernel_rfl))⟩
  f26 := ⟨Tryd.f80.name, by decide, Tryd.func80.trans (congrArg some (by kernel_rfl))⟩
  f27 := ⟨Tryd.f81.name, by decide, Tryd.func81.trans (congrArg some (by kernel_rfl))⟩
  f28 := Tryd.func64.trans (congrArg some (by kernel_rfl))
  f29 := Tryd.func65.trans (congrArg some (by kernel_rfl))
  f46 := ⟨Tryd.f98.name, by decide, Tryd.func98.trans (congrArg some (by kernel_rfl))⟩
  f47 := Tryd.func83.trans (congrArg some (by kernel_rfl))
  f48 := Tryd.func84.trans (congrArg some (by kernel_rfl))
  f49 := ⟨Tryd.f99.name, by decide, Tryd.func99.trans (congrArg some (by kernel_rfl))⟩
  f50 := ⟨Tryd.f100.name, by decide, Tryd.func100.trans (congrArg some (by kernel_rfl))⟩
  f57 := ⟨Tryd.f110.name, by decide, Tryd.func110.trans (congrArg some (by kernel_rfl))⟩
  t0 := Tryd.underlying0
  a0 := Tryd.isAgg0
  z0 := Tryd.sizeOf0
  v0 := Tryd.zeroValue0
  t3 := Tryd.underlying3
  a3 := Tryd.isAgg3
  z3 := Tryd.sizeOf3
  v3 := Tryd.zeroValue3
  t4 := Tryd.underlying4
  a4 := Tryd.isAgg4
  z4 := Tryd.sizeOf4
  v4 := Tryd.zeroValue4
  t5 := Tryd.underlying5
  a5 := Tryd.isAgg5
  z5 := Tryd.sizeOf5
  v5 := Tryd.zeroValue5
  t9 := Tryd.underlying9
  a9 := Tryd.isAgg9
  z9 := Tryd.sizeOf9
  v9 := Tryd.zeroValue9
  t22 := Tryd.underlying54
  a22 := Tryd.isAgg54
  z22 := Tryd.sizeOf54
  v22 := Tryd.zeroValue54
  a24 := Tryd.isAgg23
  z24 := Tryd.sizeOf23
  t25 := Tryd.underlying73
  a25 := Tryd.isAgg73
  z25 := Tryd.sizeOf73
  v25 := Tryd.zeroValue73
  t39 := Tryd.underlying79
  a39 := Tryd.isAgg79
  z39 := Tryd.sizeOf79
  v39 := Tryd.zeroValue79
  t45 := Tryd.underlying91
  a45 := Tryd.isAgg91
  z45 := Tryd.sizeOf91
  v45 := Tryd.zeroValue91
  t46 := Tryd.underlying92
  a46 := Tryd.isAgg92
  z46 := Tryd.sizeOf92
  v46 := Tryd.zeroValue92
  t50 := Tryd.underlying97
  a50 := Tryd.isAgg97
  z50 := Tryd.sizeOf97
  v50 := Tryd.zeroValue97
  t53 := Tryd.underlying23
  a53 := Tryd.isAgg23
  z53 := Tryd.sizeOf23
  v53 := Tryd.zeroValue23
  t55 := Tryd.underlying82
  a55 := Tryd.isAgg82
  z55 := Tryd.sizeOf82
  v55 := Tryd.zeroValue82
  t66 := Tryd.underlying116
  a66 := Tryd.isAgg116
  z66 := Tryd.sizeOf116
  v66 := Tryd.zeroValue116
  t70 := Tryd.underlying120
  a70 := Tryd.isAgg120
  z70 := Tryd.sizeOf120
  v70 := Tryd.zeroValue120
  t76 := Tryd.underlying138
  a76 := Tryd.isAgg138
  z76 := Tryd.sizeOf138
  v76 := Tryd.zeroValue138
  t77 := Tryd.underlying139
  a77 := Tryd.isAgg139
  z77 := Tryd.sizeOf139
  v77 := Tryd.zeroValue139 }
end Go.Proofs
namespace Go.Proofs.YtejpoojgbnppoaaDoor
open Vc Go Go.RowKit
set_option linter.unusedVariables false
set_option linter.unusedSimpArgs false


namespace T
mutual
/-- The atoms within, as they are seen. -/
def atm : T → List Int
  | .mk k i _ xs ps => (if k = 1 then [i] else []) ++ ps.map (·.1) ++ atmL xs
def atmL : List T → List Int
  | [] => []
  | a :: l => atm a ++ atmL l
end
theorem atmL_snoc (l : List T) (a : T) : atmL (l ++ [a]) = atmL l ++ atm a := by
  induction l with
  | nil => show atm a ++ [] = [] ++ atm a; simp
  | cons x l ih => show atm x ++ atmL (l ++ [a]) = atm x ++ atmL l ++ atm a; rw [ih, List.append_assoc]
mutual
theorem atm_len : ∀ t : T, (atm t).length ≤ wt t
  | .mk k i s xs ps => by
    have := atmL_len xs
    have e : atm (.mk k i s xs ps) = (if k = 1 then [i] else []) ++ ps.map (·.1) ++ atmL xs := rfl
    have e2 : wt (.mk k i s xs ps) = 300 + 2 * s.size + 60 * ps.length + wtL xs := rfl
    rw [e, e2]
    simp only [List.length_append, List.length_map]
    split
    · simp only [List.length_singleton]; omega
    · simp only [List.length_nil]; omega
theorem atmL_len : ∀ l : List T, (atmL l).length ≤ wtL l
  | [] => Nat.le_refl 0
  | a :: l => by
    have := atm_len a
    have := atmL_len l
    show (atm a ++ atmL l).length ≤ wt a + 1 + wtL l
    rw [List.length_append]; omega
end
end T
theorem L.atm_eq (y : L) : y.t.atm = (if y.k = 1 then [y.id] else []) ++ ((List.range y.m).map fun i => (y.pw i).1) ++ T.atmL ((List.range y.n).map fun i => (y.kid i).t) := by
  rw [L.t_eq]
  show (if y.k = 1 then [y.id] else []) ++ y.pl.map (·.1) ++ _ = _
  unfold L.pl
  rw [List.map_map]; rfl
theorem kJ_cast {p q : List Int} {w : KS} (h : kJ p w) (e : p = q) : kJ q w := e ▸ h
/-- cmp.Compare at uint32. -/
def cmpI (x y : Int) : Int := if x < y then -1 else if y < x then 1 else 0
theorem lt_cmpI : ltOf cmpI = Sort.ltInt := by
  funext x y
  rw [lt_dec]
  unfold ltOf cmpI
  by_cases h : x < y
  · rw [if_pos h]; simp [h]
  · rw [if_neg h]
    split <;> simp [h]
theorem nan_walk (x : Int) (W : World) : Calls Tryd.prog 52 #[vu x] W fun e w' => e = .returned (.bool false) ∧ w' = W := by
  go_enter Tryd.func52, Tryd.ntmps52
  go_wp2
  go_ret
  exact ⟨by simp, rfl⟩
theorem cmp_walk (x y : Int) (W : World) : Calls Tryd.prog 38 #[vu x, vu y] W fun e w' => e = .returned (vi (cmpI x y)) ∧ w' = W := by
  unfold cmpI
  by_cases h1 : x < y
  · go_enter Tryd.func38, Tryd.ntmps38
    go_wp2_with (go_at_call 52; refine (nan_walk _ _).mono ?_; rintro e w' ⟨rfl, rfl⟩)
    go_ret
    exact ⟨rfl, rfl⟩
  · by_cases h2 : y < x
    · go_enter Tryd.func38, Tryd.ntmps38
      go_wp2_with (go_at_call 52; refine (nan_walk _ _).mono ?_; rintro e w' ⟨rfl, rfl⟩)
      go_ret
      exact ⟨rfl, rfl⟩
    · go_enter Tryd.func38, Tryd.ntmps38
      go_wp2_with (go_at_call 52; refine (nan_walk _ _).mono ?_; rintro e w' ⟨rfl, rfl⟩)
      go_ret
      exact ⟨rfl, rfl⟩
theorem sat_putRow {w : World} {Rx : RO} {A N n : Nat} {d d' : Array Int} {os : Array Obj} (hs : Sat w Rx [some (A, .row (u32l d) 23 N)]) (hsz : d'.size = d.size) :
    Sat (Sort.grow (Sort.putRow (Value.int .u32) (Sort.ahead w n) A 0 d') os) Rx [some (A, .row (u32l d') 23 N)] := by
  obtain ⟨c, lo, hi0, hc, hn, ht, hf⟩ := hs.own 0 A _ rfl
  have hlt := (Array.getElem?_eq_some_iff.1 hc).1
  have hoff := hs.off 0 A _ rfl
  have hh : (Sort.grow (Sort.putRow (Value.int .u32) (Sort.ahead w n) A 0 d') os).heap = w.heap.modify A (Sort.onCells (Sort.putCells (Value.int .u32) 0 d')) ++ os := rfl
  have hl : ∀ b, b < w.heap.size → (Sort.grow (Sort.putRow (Value.int .u32) (Sort.ahead w n) A 0 d') os).heap[b]? = (w.heap.modify A (Sort.onCells (Sort.putCells (Value.int .u32) 0 d')))[b]? := fun b hb => by
    rw [hh, Array.getElem?_append_left (by simpa using hb)]
  have lt : ∀ b x, w.heap[b]? = some x → b < w.heap.size := fun b x hb => (Array.getElem?_eq_some_iff.1 hb).1
  refine ⟨fun b ob hb => ?_, fun i a B hi => ?_, fun i a B hi => ?_, fun i j a B C hi hj => ?_, hs.os, hs.tape, hs.out⟩
  · have h1 := hs.ro b ob hb
    rw [hl b (lt b _ h1), Array.getElem?_modify]
    have hne : ¬ A = b := fun e => by subst e; rw [hoff] at hb; cases hb
    rw [if_neg hne]; exact h1
  · cases i with
    | succ i => simp [Hp.at, Hp.at_nil] at hi
    | zero =>
      obtain ⟨rfl, rfl⟩ : A = a ∧ Blk.row (u32l d') 23 N = B := by
        have := Option.some.inj hi; exact ⟨congrArg Prod.fst this, congrArg Prod.snd this⟩
      refine ⟨Sort.putCells (Value.int .u32) 0 d' c, lo, hi0, ?_, by simpa [Sort.putCells] using hn, ?_, hf⟩
      · rw [hl A hlt, Array.getElem?_modify, if_pos rfl, hc]; rfl
      · apply List.ext_getElem?
        intro k
        rw [u32l_len, List.getElem?_take, Array.getElem?_toList]
        unfold Sort.putCells
        rw [Array.getElem?_mapIdx]
        by_cases hk : k < d'.size
        · rw [if_pos hk, u32l_get hk]
          have h2 : c[k]? = some (vu d[k]!) := by
            have h3 := congrArg (·[k]?) ht
            simp only [u32l_len] at h3
            rw [List.getElem?_take_of_lt (by omega), u32l_get (by omega), Array.getElem?_toList] at h3
            exact h3
          rw [h2]
          simp only [Option.map_some, Nat.zero_add, Nat.zero_le, true_and, Nat.sub_zero, hk, if_true]
        · rw [if_neg hk, List.getElem?_eq_none (by rw [u32l_len]; omega)]
  · cases i with
    | succ i => simp [Hp.at, Hp.at_nil] at hi
    | zero => cases hi; exact hoff
  · cases i with
    | succ i => simp [Hp.at, Hp.at_nil] at hi
    | zero => cases j with
      | succ j => simp [Hp.at, Hp.at_nil] at hj
      | zero => rfl
theorem sortF_ok (A n cap N : Nat) (d : Array Int) (R : RO) (hd : d.size = n) (hn : n ≤ 1152921504606846976) :
    Gives Tryd.prog 37 [slA A n cap, .func (.func 38) #[] #[]] R [some (A, .row (u32l d) 23 N)] (.ret (.tuple #[])) [some (A, .row (u32l (sortA d)) 23 N)] := by
  intro Rx w hR hs
  subst hd
  have hb := hs.own 0 A _ rfl
  have hH : Sort.Holds (Value.int .u32) w A 0 d := fun j hj => by
    obtain ⟨c, lo, hi, hc, hn, ht, hf⟩ := hb
    have hl : d.size ≤ c.size := by have := congrArg List.length ht; simp [u32l_len] at this; omega
    refine ⟨?_, ?_⟩
    · rw [Nat.zero_add]
      exact cell_of_take hc ht (u32l_get hj)
    · have h9 := hf j (by omega)
      simp only [World.frozen?, hc, Nat.zero_add, Bool.and_eq_false_iff, decide_eq_false_iff_not]
      omega
  have h := Any.slices_SortFunc Tryd.sortF (Value.int .u32) (fun _ => rfl) cmpI (by rw [lt_cmpI]; exact Sort.swo_ltInt) 38 #[] A 0 cap d w (enters_of Tryd.func38 (by kernel_rfl) rfl)
    (fun m os dk hs x y => (cmp_walk x y _).mono fun e w' ⟨he, hw⟩ => ⟨he, 0, #[], by rw [hw]; simp [World.drewN_zero]⟩) hH (Blk.at_lt hb) (by omega)
  refine h.mono ?_
  rintro e w' ⟨rfl, d', m, os, h1, h2, rfl⟩
  rw [lt_cmpI] at h2
  have e : d' = sortA d := sort_eq rfl ⟨h1, h2⟩
  subst e
  exact ⟨.ret (.tuple #[]), R, _, Rx, rfl, ⟨rfl, rfl, rfl⟩, .refl hR, sat_putRow hs (sortA_size d)⟩
end Go.Proofs.YtejpoojgbnppoaaDoor
namespace Go.Proofs.YtejpoojgbnppoaaDoor
open Vc Go
set_option linter.unusedVariables false
set_option linter.unusedSimpArgs false

theorem ite_len (y : L) : (if y.k = 1 then [y.id] else []).length ≤ 1 := by split <;> simp
theorem wtL_mono (f : Nat → T) {j n : Nat} (h : j ≤ n) : T.wtL ((List.range j).map f) ≤ T.wtL ((List.range n).map f) := by
  obtain ⟨d, rfl⟩ : ∃ d, n = j + d := ⟨n - j, by omega⟩
  clear h
  induction d with
  | zero => exact Nat.le_refl _
  | succ d ih => rw [← Nat.add_assoc, List.range_succ, List.map_append, List.map_singleton, T.wtL_snoc]; omega
theorem atk_next (y : L) {j : Nat} (h : j < y.n) : (T.atmL ((List.range j).map fun i => (y.kid i).t)).length + (y.kid j).t.wt + y.m + 1 ≤ y.t.wt := by
  have h1 := T.atmL_len ((List.range j).map fun i => (y.kid i).t)
  have h2 := wtL_mono (fun i => (y.kid i).t) (show j + 1 ≤ y.n by omega)
  rw [List.range_succ, List.map_append, List.map_singleton, T.wtL_snoc] at h2
  have h3 := L.wt_eq y
  omega

theorem see_ok (x : Int) (A : Nat) (w : KS) (pre : List Int) (R : RO) (hJ : kJ pre w) (hb : pre.length ≤ 1000000000) : GivesX Tryd.prog 36 [vu x, ptA A] R [some (A, .row [gsv w.1.1 w.2.1 w.1.2] 54 1), gsb w.1.1 w.2.2 23 (w.1.2 * 1)] ({w2 : KS // kJ (pre ++ [x]) w2}) (fun z => (.tuple #[], [some (A, .row [gsv z.1.1.1 z.1.2.1 z.1.1.2] 54 1), gsb z.1.1.1 z.1.2.2 23 (z.1.1.2 * 1)])) :=
  Does.of_wp_eq (VC := ((A = A) ∧ ∀ a0 : Nat, (PrimOK Tryd.prog (.app 54 54 54 (gsv w.1.1 w.2.1 w.1.2) (slA a0 1 1)) R [gsb w.1.1 w.2.2 23 (w.1.2 * 1), some (a0, .row [vu x] 23 1)] (Nat × Nat) (fun y1 => w.2.1 + 1 ≤ y1.2 ∧ y1.2 ≤ maxLen) (fun y1 => (.slice (some ⟨y1.1, 0, none⟩) (w.2.1 + 1) y1.2, [some (y1.1, .row (w.2.2 ++ ([vu x] : List Value)) 23 (y1.2 * 1)), some (a0, .row [vu x] 23 1)]))) ∧ ∀ y1 : Nat × Nat, (w.2.1 + 1 ≤ y1.2 ∧ y1.2 ≤ maxLen) → (A = A) ∧ GX R ({w2 : KS // kJ (pre ++ [x]) w2}) (fun z => (.tuple #[], [some (A, .row [gsv z.1.1.1 z.1.2.1 z.1.1.2] 54 1), gsb z.1.1.1 z.1.2.2 23 (z.1.1.2 * 1)])) (.ret (.tuple #[])) R [some (A, .row [.slice (some ⟨y1.1, 0, none⟩) (w.2.1 + 1) y1.2] 54 1), some (y1.1, .row (w.2.2 ++ ([vu x] : List Value)) 23 (y1.2 * 1))])) (ops [.p 0, .d] (.opn 2 (fun a0 => (.opp [1, 2] [] (Nat × Nat) (fun y1 => w.2.1 + 1 ≤ y1.2 ∧ y1.2 ≤ maxLen) (fun y1 => (.slice (some ⟨y1.1, 0, none⟩) (w.2.1 + 1) y1.2, [some (y1.1, .row (w.2.2 ++ ([vu x] : List Value)) 23 (y1.2 * 1)), some (a0, .row [vu x] 23 1)])) (fun y1 => (ops [.p 0] (.fin [0, 1] []))))))) Tryd.func36 (by kernel_rfl) (by kernel_rfl)
    (⟨rfl, fun a0 => ⟨(app1_ok (e := 23) (e' := 23) (z := 1) (by' := 4) (zc := [vu 0]) (b := w.1.1) (len := w.2.1) (cap := w.1.2) (n := 1) (cs := w.2.2) (new := [vu x]) (by kernel_rfl) (.inl (by kernel_rfl)) (by kernel_rfl) rfl (by rw [hJ.2.1, List.length_map, hJ.1, Nat.mul_one]) (by rw [hJ.1]; exact hJ.2.2.2.2.1) hJ.2.2.2.2.2 hJ.2.2.2.1 ⟨rfl, .inr (.inr ⟨_, _, _, rfl, .inl ⟨1, _, _, _, rfl, rfl⟩⟩)⟩ (ones_spec rfl) (by have := hJ.1; omega) (by have := hJ.1; simp only [maxLen]; omega) (by omega)), fun y1 qy1 => ⟨rfl, ⟨rfl, ⟨((some y1.1, y1.2), w.2.1 + 1, w.2.2 ++ [vu x]), kJ_snoc hJ qy1⟩, (by rfl), (by rfl)⟩⟩⟩⟩)

noncomputable def each_own_L4_inv (y : L) (A : Nat) (w : KS) (pre : List Int) (a0 : Nat) (x1 : KS × NV)  : Nat × KS × NV → St := fun zx => ⟨(.agg y.row.toArray :: .func (.func 36) #[] #[ptA A] :: ptA a0 :: undef :: undef :: (zx.2.2 5) :: undef :: undef :: ptA a0 :: vi y.k :: urun x1.2 10 5 (.pointer (some ⟨a0, 4, none⟩) :: .slice y.pa y.m y.pc :: vi (y.m : Int) :: vi ((zx.1 : Nat) : Int) :: urun zx.2.2 19 8 (uns 11 []))), [], [some (A, .row [gsv zx.2.1.1.1 zx.2.1.2.1 zx.2.1.1.2] 54 1), gsb zx.2.1.1.1 zx.2.1.2.2 23 (zx.2.1.1.2 * 1), some (a0, .row y.row 30 5)]⟩
def each_own_L4_I (y : L) (A : Nat) (w : KS) (pre : List Int) (a0 : Nat) (x1 : KS × NV)  (R : RO) : Nat × KS × NV → RO → Prop := fun zx G => G = R ∧ (zx.1 ≤ y.m ∧ kJ ((pre ++ (if y.k = 1 then [y.id] else [])) ++ (List.range zx.1).map (fun i => (y.pw i).1)) zx.2.1)
def each_own_L4_mu (y : L) (A : Nat) (w : KS) (pre : List Int) (a0 : Nat) (x1 : KS × NV)  : Nat × KS × NV → Nat := fun zx => y.m - zx.1
noncomputable def each_own_L4_K (y : L) (A : Nat) (w : KS) (pre : List Int) (a0 : Nat) (x1 : KS × NV)  (R : RO) : Exit' → St → RO → Prop := altPost R (.alt (Nat × KS × NV) (fun zx => zx.1 = y.m ∧ kJ ((pre ++ (if y.k = 1 then [y.id] else [])) ++ (List.range zx.1).map (fun i => (y.pw i).1)) zx.2.1) (fun zx => (.exit 0, ((each_own_L4_inv y A w pre a0 x1 zx).up [] [some (A, .row [gsv zx.2.1.1.1 zx.2.1.2.1 zx.2.1.1.2] 54 1), gsb zx.2.1.1.1 zx.2.1.2.2 23 (zx.2.1.1.2 * 1), some (a0, .row y.row 30 5)]))) (fun _ => .altn) .altn)
theorem each_own_L4_body (y : L) (A : Nat) (w : KS) (pre : List Int) (a0 : Nat) (x1 : KS × NV)  (R : RO) (hrec : ∀ (j : Nat) (R : RO) (w : KS) (pre : List Int), y.ok R → j < y.n → kJ pre w → pre.length + (y.kid j).t.wt ≤ 1000000000 → GivesX Tryd.prog 35 [(y.kid j).v, .func (.func 36) #[] #[ptA A]] R [some (A, .row [gsv w.1.1 w.2.1 w.1.2] 54 1), gsb w.1.1 w.2.2 23 (w.1.2 * 1)] {w2 : KS // kJ (pre ++ (y.kid j).t.atm) w2} (fun z => (.tuple #[], [some (A, .row [gsv z.1.1.1 z.1.2.1 z.1.1.2] 54 1), gsb z.1.1.1 z.1.2.2 23 (z.1.1.2 * 1)]))) (hy : y.ok R) (hw : y.t.wt ≤ 1000000) (hb : pre.length + y.t.wt ≤ 1000000000) (j : Nat) (w2 : KS) (u32 : Nat → Value) (hI : j ≤ y.m ∧ kJ ((pre ++ (if y.k = 1 then [y.id] else [])) ++ (List.range j).map (fun i => (y.pw i).1)) w2) : CT Tryd.prog (sub (bodyOf Tryd.f35) [1, 1, 0, 1, 0, 0]) (each_own_L4_inv y A w pre a0 x1 (j, w2, u32)) R (LK (each_own_L4_inv y A w pre a0 x1) (each_own_L4_I y A w pre a0 x1 R) (each_own_L4_mu y A w pre a0 x1) (each_own_L4_K y A w pre a0 x1 R) (j, w2, u32)) :=
  CT.of_wp_eq (VC := (let z0 : List Value := y.row; ((decide ((j : Int) < (y.m : Int))) = true → (y.pa = some ⟨y.PB, y.PO, none⟩ ∧ (0 : Int) ≤ (j : Int) ∧ ((j : Int) : Int) < (y.m : Int)) ∧ (R.cells y.PB (y.PO + Int.toNat (j : Int) * 2) [vu ((y.pw j).1), vi ((y.pw j).2)]) ∧ ∀ a84 : Nat, (a84 = a84) ∧ (a84 = a84) ∧ (GivesX Tryd.prog 36 [vu ((y.pw j).1), ptA A] R [some (A, .row [gsv w2.1.1 w2.2.1 w2.1.2] 54 1), gsb w2.1.1 w2.2.2 23 (w2.1.2 * 1)] ({w2 : KS // kJ (((pre ++ (if y.k = 1 then [y.id] else [])) ++ (List.range j).map (fun i => (y.pw i).1)) ++ [((y.pw j).1)]) w2}) (fun z85 => (.tuple #[], [some (A, .row [gsv z85.1.1.1 z85.1.2.1 z85.1.1.2] 54 1), gsb z85.1.1.1 z85.1.2.2 23 (z85.1.1.2 * 1)]))) ∧ ∀ z85 : {w2 : KS // kJ (((pre ++ (if y.k = 1 then [y.id] else [])) ++ (List.range j).map (fun i => (y.pw i).1)) ++ [((y.pw j).1)]) w2}, (NW .i64 ((j : Int) + 1)) ∧ LK (each_own_L4_inv y A w pre a0 x1) (each_own_L4_I y A w pre a0 x1 R) (each_own_L4_mu y A w pre a0 x1) (each_own_L4_K y A w pre a0 x1 R) (j, w2, u32) .normal ((each_own_L4_inv y A w pre a0 x1 (j, w2, u32)).up [(5, ptA a84), (18, vi ((j : Int) + 1)), (19, .bool true), (20, .pointer (some ⟨y.PB, y.PO + Int.toNat (j : Int) * 2, none⟩)), (21, .agg #[vu ((y.pw j).1), vi ((y.pw j).2)]), (22, .func (.func 36) #[] #[ptA A]), (23, ptA a84), (24, vu ((y.pw j).1)), (25, .tuple #[]), (26, vi ((j : Int) + 1))] [some (A, .row [gsv z85.1.1.1 z85.1.2.1 z85.1.1.2] 54 1), gsb z85.1.1.1 z85.1.2.2 23 (z85.1.1.2 * 1), some (a0, .row z0 30 5), some (a84, .row [vu ((y.pw j).1), vi ((y.pw j).2)] 25 2)]) R) ∧ ((decide ((j : Int) < (y.m : Int))) = false → LK (each_own_L4_inv y A w pre a0 x1) (each_own_L4_I y A w pre a0 x1 R) (each_own_L4_mu y A w pre a0 x1) (each_own_L4_K y A w pre a0 x1 R) (j, w2, u32) (.exit 0) ((each_own_L4_inv y A w pre a0 x1 (j, w2, u32)).up [(19, .bool false)] [some (A, .row [gsv w2.1.1 w2.2.1 w2.1.2] 54 1), gsb w2.1.1 w2.2.2 23 (w2.1.2 * 1), some (a0, .row z0 30 5)]) R))) (ops [.d] (.sp 19 (ops [.ib y.PB y.PO, .ro (fun v => [vu ((y.pw j).1), vi ((y.pw j).2)])] (.opn 3 (fun a84 => (ops [.p 3, .d, .d, .p 3] (.opx [0, 1] [] ({w2 : KS // kJ (((pre ++ (if y.k = 1 then [y.id] else [])) ++ (List.range j).map (fun i => (y.pw i).1)) ++ [((y.pw j).1)]) w2}) (fun z85 => (.tuple #[], [some (A, .row [gsv z85.1.1.1 z85.1.2.1 z85.1.1.2] 54 1), gsb z85.1.1.1 z85.1.2.2 23 (z85.1.1.2 * 1)])) (fun z85 => (ops [.nw, .d] (.fin [] [])))))))) (.fin [] []))) (by kernel_rfl)
    (⟨fun h83 => (have := of_decide_eq_true h83; ⟨⟨(hy.pow j (by omega)).1, by omega, by omega⟩, ⟨(hy.pow j (by omega)).2, fun a84 => ⟨rfl, ⟨rfl, ⟨(see_ok ((y.pw j).1) A w2 ((pre ++ (if y.k = 1 then [y.id] else [])) ++ (List.range j).map (fun i => (y.pw i).1)) R hI.2 (by have h8 := ite_len y; have h9 := L.wt_m y; (try simp only [List.length_append, List.length_map, List.length_range]); omega)), fun z85 => ⟨(nwI (by omega) (by have h9 := L.wt_n y; have h8 := L.wt_m y; omega)), LKn (fun zw => ((j + 1), z85.1, zw)) ⟨⟨rfl, (show (j + 1) ≤ y.m ∧ kJ ((pre ++ (if y.k = 1 then [y.id] else [])) ++ (List.range (j + 1)).map (fun i => (y.pw i).1)) z85.1 from ⟨by omega, kJ_cast z85.2 (by rw [List.range_succ, List.map_append, ← List.append_assoc]; rfl)⟩)⟩, (show y.m - (j + 1) < y.m - j from (by omega)), ⟨(by show _ = _; kernel_rfl), rfl, rfl⟩⟩⟩⟩⟩⟩⟩⟩), fun h83 => (have := of_decide_eq_false h83; altA (fun zw => (j, w2, zw)) ⟨(show j = y.m ∧ kJ ((pre ++ (if y.k = 1 then [y.id] else [])) ++ (List.range j).map (fun i => (y.pw i).1)) w2 from ⟨by omega, hI.2⟩), (by show _ = _; kernel_rfl), ⟨(by show _ = _; kernel_rfl), (by show _ = _; kernel_rfl), (by show _ = _; kernel_rfl)⟩⟩)⟩)
theorem each_own_L4_ct (y : L) (A : Nat) (w : KS) (pre : List Int) (a0 : Nat) (x1 : KS × NV)  (R : RO) (hrec : ∀ (j : Nat) (R : RO) (w : KS) (pre : List Int), y.ok R → j < y.n → kJ pre w → pre.length + (y.kid j).t.wt ≤ 1000000000 → GivesX Tryd.prog 35 [(y.kid j).v, .func (.func 36) #[] #[ptA A]] R [some (A, .row [gsv w.1.1 w.2.1 w.1.2] 54 1), gsb w.1.1 w.2.2 23 (w.1.2 * 1)] {w2 : KS // kJ (pre ++ (y.kid j).t.atm) w2} (fun z => (.tuple #[], [some (A, .row [gsv z.1.1.1 z.1.2.1 z.1.1.2] 54 1), gsb z.1.1.1 z.1.2.2 23 (z.1.1.2 * 1)]))) (hy : y.ok R) (hw : y.t.wt ≤ 1000000) (hb : pre.length + y.t.wt ≤ 1000000000) (h0 : kJ (pre ++ (if y.k = 1 then [y.id] else [])) x1.1) : CT Tryd.prog (sub (bodyOf Tryd.f35) [1, 1, 0, 1, 0]) ⟨(.agg y.row.toArray :: .func (.func 36) #[] #[ptA A] :: ptA a0 :: uns 5 (ptA a0 :: vi y.k :: urun x1.2 10 5 (.pointer (some ⟨a0, 4, none⟩) :: .slice y.pa y.m y.pc :: vi (y.m : Int) :: vi 0 :: uns 19 []))), [], [some (A, .row [gsv x1.1.1.1 x1.1.2.1 x1.1.1.2] 54 1), gsb x1.1.1.1 x1.1.2.2 23 (x1.1.1.2 * 1), some (a0, .row y.row 30 5)]⟩ R (each_own_L4_K y A w pre a0 x1 R) :=
  CT.loop_eqs (each_own_L4_inv y A w pre a0 x1) (each_own_L4_I y A w pre a0 x1 R) (each_own_L4_mu y A w pre a0 x1) (fun zw => (0, x1.1, zw)) (by kernel_rfl) (by kernel_rfl) ⟨rfl, (show 0 ≤ y.m ∧ kJ ((pre ++ (if y.k = 1 then [y.id] else [])) ++ (List.range 0).map (fun i => (y.pw i).1)) x1.1 from ⟨Nat.zero_le _, kJ_cast h0 (by simp)⟩)⟩
    (by
      rintro ⟨j, w2, u32⟩ G hG ⟨rfl, hI⟩
      exact each_own_L4_body y A w pre a0 x1 _ hrec hy hw hb j w2 u32 hI)
noncomputable def each_own_L9_inv (y : L) (A : Nat) (w : KS) (pre : List Int) (a0 : Nat) (x1 : KS × NV) (x33 : Nat × KS × NV)  : Nat × KS × NV → St := fun zx => ⟨(.agg y.row.toArray :: .func (.func 36) #[] #[ptA A] :: ptA a0 :: undef :: undef :: (x33.2.2 5) :: undef :: (zx.2.2 7) :: ptA a0 :: vi y.k :: urun x1.2 10 5 (.pointer (some ⟨a0, 4, none⟩) :: .slice y.pa y.m y.pc :: vi (y.m : Int) :: vi (x33.1 : Int) :: urun x33.2.2 19 8 (.pointer (some ⟨a0, 3, none⟩) :: .slice y.aa y.n y.ac :: vi (y.n : Int) :: vi ((zx.1 : Nat) : Int) :: urun zx.2.2 31 7 []))), [], [some (A, .row [gsv zx.2.1.1.1 zx.2.1.2.1 zx.2.1.1.2] 54 1), gsb zx.2.1.1.1 zx.2.1.2.2 23 (zx.2.1.1.2 * 1), some (a0, .row y.row 30 5)]⟩
def each_own_L9_I (y : L) (A : Nat) (w : KS) (pre : List Int) (a0 : Nat) (x1 : KS × NV) (x33 : Nat × KS × NV)  (R : RO) : Nat × KS × NV → RO → Prop := fun zx G => G = R ∧ (zx.1 ≤ y.n ∧ kJ (((pre ++ (if y.k = 1 then [y.id] else [])) ++ (List.range y.m).map (fun i => (y.pw i).1)) ++ T.atmL ((List.range zx.1).map (fun i => (y.kid i).t))) zx.2.1)
def each_own_L9_mu (y : L) (A : Nat) (w : KS) (pre : List Int) (a0 : Nat) (x1 : KS × NV) (x33 : Nat × KS × NV)  : Nat × KS × NV → Nat := fun zx => y.n - zx.1
noncomputable def each_own_L9_K (y : L) (A : Nat) (w : KS) (pre : List Int) (a0 : Nat) (x1 : KS × NV) (x33 : Nat × KS × NV)  (R : RO) : Exit' → St → RO → Prop := altPost R (.alt (Nat × KS × NV) (fun zx => zx.1 = y.n ∧ kJ (((pre ++ (if y.k = 1 then [y.id] else [])) ++ (List.range y.m).map (fun i => (y.pw i).1)) ++ T.atmL ((List.range zx.1).map (fun i => (y.kid i).t))) zx.2.1) (fun zx => (.exit 2, ((each_own_L9_inv y A w pre a0 x1 x33 zx).up [] [some (A, .row [gsv zx.2.1.1.1 zx.2.1.2.1 zx.2.1.1.2] 54 1), gsb zx.2.1.1.1 zx.2.1.2.2 23 (zx.2.1.1.2 * 1), some (a0, .row y.row 30 5)]))) (fun _ => .altn) .altn)
theorem each_own_L9_body (y : L) (A : Nat) (w : KS) (pre : List Int) (a0 : Nat) (x1 : KS × NV) (x33 : Nat × KS × NV)  (R : RO) (hrec : ∀ (j : Nat) (R : RO) (w : KS) (pre : List Int), y.ok R → j < y.n → kJ pre w → pre.length + (y.kid j).t.wt ≤ 1000000000 → GivesX Tryd.prog 35 [(y.kid j).v, .func (.func 36) #[] #[ptA A]] R [some (A, .row [gsv w.1.1 w.2.1 w.1.2] 54 1), gsb w.1.1 w.2.2 23 (w.1.2 * 1)] {w2 : KS // kJ (pre ++ (y.kid j).t.atm) w2} (fun z => (.tuple #[], [some (A, .row [gsv z.1.1.1 z.1.2.1 z.1.1.2] 54 1), gsb z.1.1.1 z.1.2.2 23 (z.1.1.2 * 1)]))) (hy : y.ok R) (hw : y.t.wt ≤ 1000000) (hb : pre.length + y.t.wt ≤ 1000000000) (j : Nat) (w2 : KS) (u39 : Nat → Value) (hI : j ≤ y.n ∧ kJ (((pre ++ (if y.k = 1 then [y.id] else [])) ++ (List.range y.m).map (fun i => (y.pw i).1)) ++ T.atmL ((List.range j).map (fun i => (y.kid i).t))) w2) : CT Tryd.prog (sub (bodyOf Tryd.f35) [1, 1, 1, 1, 0, 0]) (each_own_L9_inv y A w pre a0 x1 x33 (j, w2, u39)) R (LK (each_own_L9_inv y A w pre a0 x1 x33) (each_own_L9_I y A w pre a0 x1 x33 R) (each_own_L9_mu y A w pre a0 x1 x33) (each_own_L9_K y A w pre a0 x1 x33 R) (j, w2, u39)) :=
  CT.of_wp_eq (VC := (let z2 : List Value := y.row; let z1 : List Value := [vi ((y.kid j).k), vu ((y.kid j).id), .string ((y.kid j).s), .slice (y.kid j).aa ((y.kid j).n) ((y.kid j).ac), .slice (y.kid j).pa ((y.kid j).m) ((y.kid j).pc)]; let z0 : Array Value := #[vi ((y.kid j).k), vu ((y.kid j).id), .string ((y.kid j).s), .slice (y.kid j).aa ((y.kid j).n) ((y.kid j).ac), .slice (y.kid j).pa ((y.kid j).m) ((y.kid j).pc)]; ((decide ((j : Int) < (y.n : Int))) = true → (y.aa = some ⟨y.AB, y.AO, none⟩ ∧ (0 : Int) ≤ (j : Int) ∧ ((j : Int) : Int) < (y.n : Int)) ∧ (R.cells y.AB (y.AO + Int.toNat (j : Int) * 5) z1) ∧ ∀ a91 : Nat, (a91 = a91) ∧ (a91 = a91) ∧ (GivesX Tryd.prog 35 [.agg z0, .func (.func 36) #[] #[ptA A]] R [some (A, .row [gsv w2.1.1 w2.2.1 w2.1.2] 54 1), gsb w2.1.1 w2.2.2 23 (w2.1.2 * 1)] ({w2 : KS // kJ ((((pre ++ (if y.k = 1 then [y.id] else [])) ++ (List.range y.m).map (fun i => (y.pw i).1)) ++ T.atmL ((List.range j).map (fun i => (y.kid i).t))) ++ (y.kid j).t.atm) w2}) (fun z92 => (.tuple #[], [some (A, .row [gsv z92.1.1.1 z92.1.2.1 z92.1.1.2] 54 1), gsb z92.1.1.1 z92.1.2.2 23 (z92.1.1.2 * 1)]))) ∧ ∀ z92 : {w2 : KS // kJ ((((pre ++ (if y.k = 1 then [y.id] else [])) ++ (List.range y.m).map (fun i => (y.pw i).1)) ++ T.atmL ((List.range j).map (fun i => (y.kid i).t))) ++ (y.kid j).t.atm) w2}, (NW .i64 ((j : Int) + 1)) ∧ LK (each_own_L9_inv y A w pre a0 x1 x33) (each_own_L9_I y A w pre a0 x1 x33 R) (each_own_L9_mu y A w pre a0 x1 x33) (each_own_L9_K y A w pre a0 x1 x33 R) (j, w2, u39) .normal ((each_own_L9_inv y A w pre a0 x1 x33 (j, w2, u39)).up [(7, ptA a91), (30, vi ((j : Int) + 1)), (31, .bool true), (32, .pointer (some ⟨y.AB, y.AO + Int.toNat (j : Int) * 5, none⟩)), (33, .agg z0), (34, .agg z0), (35, .func (.func 36) #[] #[ptA A]), (36, .tuple #[]), (37, vi ((j : Int) + 1))] [some (A, .row [gsv z92.1.1.1 z92.1.2.1 z92.1.1.2] 54 1), gsb z92.1.1.1 z92.1.2.2 23 (z92.1.1.2 * 1), some (a0, .row z2 30 5), some (a91, .row z1 30 5)]) R) ∧ ((decide ((j : Int) < (y.n : Int))) = false → LK (each_own_L9_inv y A w pre a0 x1 x33) (each_own_L9_I y A w pre a0 x1 x33 R) (each_own_L9_mu y A w pre a0 x1 x33) (each_own_L9_K y A w pre a0 x1 x33 R) (j, w2, u39) (.exit 2) ((each_own_L9_inv y A w pre a0 x1 x33 (j, w2, u39)).up [(31, .bool false)] [some (A, .row [gsv w2.1.1 w2.2.1 w2.1.2] 54 1), gsb w2.1.1 w2.2.2 23 (w2.1.2 * 1), some (a0, .row z2 30 5)]) R))) (ops [.d] (.sp 31 (ops [.ib y.AB y.AO, .ro (fun v => [vi ((y.kid j).k), vu ((y.kid j).id), .string ((y.kid j).s), .slice (y.kid j).aa ((y.kid j).n) ((y.kid j).ac), .slice (y.kid j).pa ((y.kid j).m) ((y.kid j).pc)])] (.opn 3 (fun a91 => (ops [.p 3, .p 3, .d] (.opx [0, 1] [] ({w2 : KS // kJ ((((pre ++ (if y.k = 1 then [y.id] else [])) ++ (List.range y.m).map (fun i => (y.pw i).1)) ++ T.atmL ((List.range j).map (fun i => (y.kid i).t))) ++ (y.kid j).t.atm) w2}) (fun z92 => (.tuple #[], [some (A, .row [gsv z92.1.1.1 z92.1.2.1 z92.1.1.2] 54 1), gsb z92.1.1.1 z92.1.2.2 23 (z92.1.1.2 * 1)])) (fun z92 => (ops [.nw, .d] (.fin [] [])))))))) (.fin [] []))) (by kernel_rfl)
    (⟨fun h90 => (have := of_decide_eq_true h90; ⟨⟨(hy.arg (j := j) (by omega)).1, by omega, by omega⟩, ⟨(hy.arg (j := j) (by omega)).2, fun a91 => ⟨rfl, ⟨rfl, ⟨(hrec j R w2 (((pre ++ (if y.k = 1 then [y.id] else [])) ++ (List.range y.m).map (fun i => (y.pw i).1)) ++ T.atmL ((List.range j).map (fun i => (y.kid i).t))) hy (by omega) hI.2 (by have h7 := atk_next y (j := j) (by omega); have h8 := ite_len y; have h9 := L.wt_m y; (try simp only [List.length_append, List.length_map, List.length_range]); omega)), fun z92 => ⟨(nwI (by omega) (by have h9 := L.wt_n y; have h8 := L.wt_m y; omega)), LKn (fun zw => ((j + 1), z92.1, zw)) ⟨⟨rfl, (show (j + 1) ≤ y.n ∧ kJ (((pre ++ (if y.k = 1 then [y.id] else [])) ++ (List.range y.m).map (fun i => (y.pw i).1)) ++ T.atmL ((List.range (j + 1)).map (fun i => (y.kid i).t))) z92.1 from ⟨by omega, kJ_cast z92.2 (by rw [List.range_succ, List.map_append, List.map_singleton, T.atmL_snoc, List.append_assoc])⟩)⟩, (show y.n - (j + 1) < y.n - j from (by omega)), ⟨(by show _ = _; kernel_rfl), rfl, rfl⟩⟩⟩⟩⟩⟩⟩⟩), fun h90 => (have := of_decide_eq_false h90; altA (fun zw => (j, w2, zw)) ⟨(show j = y.n ∧ kJ (((pre ++ (if y.k = 1 then [y.id] else [])) ++ (List.range y.m).map (fun i => (y.pw i).1)) ++ T.atmL ((List.range j).map (fun i => (y.kid i).t))) w2 from ⟨by omega, hI.2⟩), (by show _ = _; kernel_rfl), ⟨(by show _ = _; kernel_rfl), (by show _ = _; kernel_rfl), (by show _ = _; kernel_rfl)⟩⟩)⟩)
theorem each_own_L9_ct (y : L) (A : Nat) (w : KS) (pre : List Int) (a0 : Nat) (x1 : KS × NV) (x33 : Nat × KS × NV)  (R : RO) (hrec : ∀ (j : Nat) (R : RO) (w : KS) (pre : List Int), y.ok R → j < y.n → kJ pre w → pre.length + (y.kid j).t.wt ≤ 1000000000 → GivesX Tryd.prog 35 [(y.kid j).v, .func (.func 36) #[] #[ptA A]] R [some (A, .row [gsv w.1.1 w.2.1 w.1.2] 54 1), gsb w.1.1 w.2.2 23 (w.1.2 * 1)] {w2 : KS // kJ (pre ++ (y.kid j).t.atm) w2} (fun z => (.tuple #[], [some (A, .row [gsv z.1.1.1 z.1.2.1 z.1.1.2] 54 1), gsb z.1.1.1 z.1.2.2 23 (z.1.1.2 * 1)]))) (hy : y.ok R) (hw : y.t.wt ≤ 1000000) (hb : pre.length + y.t.wt ≤ 1000000000) (h0 : kJ ((pre ++ (if y.k = 1 then [y.id] else [])) ++ (List.range y.m).map (fun i => (y.pw i).1)) x33.2.1) : CT Tryd.prog (sub (bodyOf Tryd.f35) [1, 1, 1, 1, 0]) ⟨(.agg y.row.toArray :: .func (.func 36) #[] #[ptA A] :: ptA a0 :: undef :: undef :: (x33.2.2 5) :: undef :: undef :: ptA a0 :: vi y.k :: urun x1.2 10 5 (.pointer (some ⟨a0, 4, none⟩) :: .slice y.pa y.m y.pc :: vi (y.m : Int) :: vi (x33.1 : Int) :: urun x33.2.2 19 8 (.pointer (some ⟨a0, 3, none⟩) :: .slice y.aa y.n y.ac :: vi (y.n : Int) :: vi 0 :: uns 7 []))), [], [some (A, .row [gsv x33.2.1.1.1 x33.2.1.2.1 x33.2.1.1.2] 54 1), gsb x33.2.1.1.1 x33.2.1.2.2 23 (x33.2.1.1.2 * 1), some (a0, .row y.row 30 5)]⟩ R (each_own_L9_K y A w pre a0 x1 x33 R) :=
  CT.loop_eqs (each_own_L9_inv y A w pre a0 x1 x33) (each_own_L9_I y A w pre a0 x1 x33 R) (each_own_L9_mu y A w pre a0 x1 x33) (fun zw => (0, x33.2.1, zw)) (by kernel_rfl) (by kernel_rfl) ⟨rfl, (show 0 ≤ y.n ∧ kJ (((pre ++ (if y.k = 1 then [y.id] else [])) ++ (List.range y.m).map (fun i => (y.pw i).1)) ++ T.atmL ((List.range 0).map (fun i => (y.kid i).t))) x33.2.1 from ⟨Nat.zero_le _, kJ_cast h0 (by simp [T.atmL])⟩)⟩
    (by
      rintro ⟨j, w2, u39⟩ G hG ⟨rfl, hI⟩
      exact each_own_L9_body y A w pre a0 x1 x33 _ hrec hy hw hb j w2 u39 hI)
theorem each_own (y : L) (A : Nat) (w : KS) (pre : List Int) (R : RO) (hJ : kJ pre w) (hrec : ∀ (j : Nat) (R : RO) (w : KS) (pre : List Int), y.ok R → j < y.n → kJ pre w → pre.length + (y.kid j).t.wt ≤ 1000000000 → GivesX Tryd.prog 35 [(y.kid j).v, .func (.func 36) #[] #[ptA A]] R [some (A, .row [gsv w.1.1 w.2.1 w.1.2] 54 1), gsb w.1.1 w.2.2 23 (w.1.2 * 1)] {w2 : KS // kJ (pre ++ (y.kid j).t.atm) w2} (fun z => (.tuple #[], [some (A, .row [gsv z.1.1.1 z.1.2.1 z.1.1.2] 54 1), gsb z.1.1.1 z.1.2.2 23 (z.1.1.2 * 1)]))) (hy : y.ok R) (hw : y.t.wt ≤ 1000000) (hb : pre.length + y.t.wt ≤ 1000000000) : GivesX Tryd.prog 35 [.agg y.row.toArray, .func (.func 36) #[] #[ptA A]] R [some (A, .row [gsv w.1.1 w.2.1 w.1.2] 54 1), gsb w.1.1 w.2.2 23 (w.1.2 * 1)] ({w2 : KS // kJ (pre ++ y.t.atm) w2}) (fun z => (.tuple #[], [some (A, .row [gsv z.1.1.1 z.1.2.1 z.1.1.2] 54 1), gsb z.1.1.1 z.1.2.2 23 (z.1.1.2 * 1)])) :=
  Does.of_wp_eq (VC := (let z3 : Array Value := #[ptA A]; let z2 := (pre ++ (if y.k = 1 then [y.id] else [])); let z1 : List Value := y.row; let z0 : Array Value := y.row.toArray; ∀ a0 : Nat, (a0 = a0) ∧ (CT Tryd.prog (sub (bodyOf Tryd.f35) [1, 0, 1]) ⟨(.agg z0 :: .func (.func 36) #[] z3 :: ptA a0 :: uns 5 (ptA a0 :: vi y.k :: .bool (y.k == 1) :: uns 27 [])), [], [some (A, .row [gsv w.1.1 w.2.1 w.1.2] 54 1), gsb w.1.1 w.2.2 23 (w.1.2 * 1), some (a0, .row z1 30 5)]⟩ R (altPost R (.alt (KS × NV) (fun zx => kJ z2 zx.1) (fun zx => (.normal, ⟨(.agg z0 :: .func (.func 36) #[] z3 :: ptA a0 :: uns 5 (ptA a0 :: vi y.k :: urun zx.2 10 5 (uns 23 []))), [], [some (A, .row [gsv zx.1.1.1 zx.1.2.1 zx.1.1.2] 54 1), gsb zx.1.1.1 zx.1.2.2 23 (zx.1.1.2 * 1), some (a0, .row z1 30 5)]⟩)) (fun _ => .altn) .altn))) ∧ (∀ x1 : KS × NV, (kJ z2 x1.1) → (a0 = a0) ∧ (CT Tryd.prog (sub (bodyOf Tryd.f35) [1, 1, 0, 1, 0]) ⟨(.agg z0 :: .func (.func 36) #[] z3 :: ptA a0 :: uns 5 (ptA a0 :: vi y.k :: urun x1.2 10 5 (.pointer (some ⟨a0, 4, none⟩) :: .slice y.pa y.m y.pc :: vi (y.m : Int) :: vi 0 :: uns 19 []))), [], [some (A, .row [gsv x1.1.1.1 x1.1.2.1 x1.1.1.2] 54 1), gsb x1.1.1.1 x1.1.2.2 23 (x1.1.1.2 * 1), some (a0, .row z1 30 5)]⟩ R (each_own_L4_K y A w pre a0 x1 R)) ∧ (∀ x33 : Nat × KS × NV, (x33.1 = y.m ∧ kJ (z2 ++ (List.range x33.1).map (fun i => (y.pw i).1)) x33.2.1) → (a0 = a0) ∧ (CT Tryd.prog (sub (bodyOf Tryd.f35) [1, 1, 1, 1, 0]) ⟨(.agg z0 :: .func (.func 36) #[] z3 :: ptA a0 :: undef :: undef :: (x33.2.2 5) :: undef :: undef :: ptA a0 :: vi y.k :: urun x1.2 10 5 (.pointer (some ⟨a0, 4, none⟩) :: .slice y.pa y.m y.pc :: vi (y.m : Int) :: vi (x33.1 : Int) :: urun x33.2.2 19 8 (.pointer (some ⟨a0, 3, none⟩) :: .slice y.aa y.n y.ac :: vi (y.n : Int) :: vi 0 :: uns 7 []))), [], [some (A, .row [gsv x33.2.1.1.1 x33.2.1.2.1 x33.2.1.1.2] 54 1), gsb x33.2.1.1.1 x33.2.1.2.2 23 (x33.2.1.1.2 * 1), some (a0, .row z1 30 5)]⟩ R (each_own_L9_K y A w pre a0 x1 x33 R)) ∧ (∀ x40 : Nat × KS × NV, (x40.1 = y.n ∧ kJ ((z2 ++ (List.range y.m).map (fun i => (y.pw i).1)) ++ T.atmL ((List.range x40.1).map (fun i => (y.kid i).t))) x40.2.1) → GX R ({w2 : KS // kJ (pre ++ y.t.atm) w2}) (fun z => (.tuple #[], [some (A, .row [gsv z.1.1.1 z.1.2.1 z.1.1.2] 54 1), gsb z.1.1.1 z.1.2.2 23 (z.1.1.2 * 1)])) (.ret (.tuple #[])) R [some (A, .row [gsv x40.2.1.1.1 x40.2.1.2.1 x40.2.1.1.2] 54 1), gsb x40.2.1.1.1 x40.2.1.2.2 23 (x40.2.1.1.2 * 1)]) ∧ True) ∧ True) ∧ True)) (let y_1 := (pre ++ (if y.k = 1 then [y.id] else [])); let y_0 : List Value := y.row; .opn 2 (fun a0 => (ops [.d, .p 2, .d] (.alt (KS × NV) (fun zx => kJ y_1 zx.1) (fun zx => (.normal, ⟨(.agg y.row.toArray :: .func (.func 36) #[] #[ptA A] :: ptA a0 :: uns 5 (ptA a0 :: vi y.k :: urun zx.2 10 5 (uns 23 []))), [], [some (A, .row [gsv zx.1.1.1 zx.1.2.1 zx.1.1.2] 54 1), gsb zx.1.1.1 zx.1.2.2 23 (zx.1.1.2 * 1), some (a0, .row y_0 30 5)]⟩)) (fun x1 => (ops [.d, .p 2, .d, .d] (.alt (Nat × KS × NV) (fun zx => zx.1 = y.m ∧ kJ (y_1 ++ (List.range zx.1).map (fun i => (y.pw i).1)) zx.2.1) (fun zx => (.exit 0, ((each_own_L4_inv y A w pre a0 x1 zx).up [] [some (A, .row [gsv zx.2.1.1.1 zx.2.1.2.1 zx.2.1.1.2] 54 1), gsb zx.2.1.1.1 zx.2.1.2.2 23 (zx.2.1.1.2 * 1), some (a0, .row y_0 30 5)]))) (fun x33 => (ops [.d, .p 2, .d, .d] (.alt (Nat × KS × NV) (fun zx => zx.1 = y.n ∧ kJ ((y_1 ++ (List.range y.m).map (fun i => (y.pw i).1)) ++ T.atmL ((List.range zx.1).map (fun i => (y.kid i).t))) zx.2.1) (fun zx => (.exit 2, ((each_own_L9_inv y A w pre a0 x1 x33 zx).up [] [some (A, .row [gsv zx.2.1.1.1 zx.2.1.2.1 zx.2.1.1.2] 54 1), gsb zx.2.1.1.1 zx.2.1.2.2 23 (zx.2.1.1.2 * 1), some (a0, .row y_0 30 5)]))) (fun x40 => (.fin [0, 1] [])) .altn))) .altn))) .altn)))) Tryd.func35 (by kernel_rfl) (by kernel_rfl)
    (fun a0 => ⟨rfl, ⟨CT.of_wp_eq (VC := (let z3 : Array Value := #[ptA A]; let z1 : List Value := y.row; let z0 : Array Value := y.row.toArray; ((y.k == 1) = true → (a0 = a0) ∧ (GivesX Tryd.prog 36 [vu y.id, ptA A] R [some (A, .row [gsv w.1.1 w.2.1 w.1.2] 54 1), gsb w.1.1 w.2.2 23 (w.1.2 * 1)] ({w2 : KS // kJ (pre ++ [y.id]) w2}) (fun z2 => (.tuple #[], [some (A, .row [gsv z2.1.1.1 z2.1.2.1 z2.1.1.2] 54 1), gsb z2.1.1.1 z2.1.2.2 23 (z2.1.1.2 * 1)]))) ∧ ∀ z2 : {w2 : KS // kJ (pre ++ [y.id]) w2}, altPost R (.alt (KS × NV) (fun zx => kJ (pre ++ (if y.k = 1 then [y.id] else [])) zx.1) (fun zx => (.normal, ⟨(.agg z0 :: .func (.func 36) #[] z3 :: ptA a0 :: uns 5 (ptA a0 :: vi y.k :: urun zx.2 10 5 (uns 23 []))), [], [some (A, .row [gsv zx.1.1.1 zx.1.2.1 zx.1.1.2] 54 1), gsb zx.1.1.1 zx.1.2.2 23 (zx.1.1.2 * 1), some (a0, .row z1 30 5)]⟩)) (fun _ => .altn) .altn) .normal ⟨(.agg z0 :: .func (.func 36) #[] z3 :: ptA a0 :: uns 5 (ptA a0 :: vi y.k :: .bool true :: .func (.func 36) #[] z3 :: .pointer (some ⟨a0, 1, none⟩) :: vu y.id :: .tuple #[] :: uns 23 [])), [], [some (A, .row [gsv z2.1.1.1 z2.1.2.1 z2.1.1.2] 54 1), gsb z2.1.1.1 z2.1.2.2 23 (z2.1.1.2 * 1), some (a0, .row z1 30 5)]⟩ R) ∧ ((y.k == 1) = false → altPost R (.alt (KS × NV) (fun zx => kJ (pre ++ (if y.k = 1 then [y.id] else [])) zx.1) (fun zx => (.normal, ⟨(.agg z0 :: .func (.func 36) #[] z3 :: ptA a0 :: uns 5 (ptA a0 :: vi y.k :: urun zx.2 10 5 (uns 23 []))), [], [some (A, .row [gsv zx.1.1.1 zx.1.2.1 zx.1.1.2] 54 1), gsb zx.1.1.1 zx.1.2.2 23 (zx.1.1.2 * 1), some (a0, .row z1 30 5)]⟩)) (fun _ => .altn) .altn) .normal ⟨(.agg z0 :: .func (.func 36) #[] z3 :: ptA a0 :: uns 5 (ptA a0 :: vi y.k :: .bool false :: uns 27 [])), [], [some (A, .row [gsv w.1.1 w.2.1 w.1.2] 54 1), gsb w.1.1 w.2.2 23 (w.1.2 * 1), some (a0, .row z1 30 5)]⟩ R))) (.sp 10 (ops [.d, .d, .p 2] (.opx [0, 1] [] ({w2 : KS // kJ (pre ++ [y.id]) w2}) (fun z2 => (.tuple #[], [some (A, .row [gsv z2.1.1.1 z2.1.2.1 z2.1.1.2] 54 1), gsb z2.1.1.1 z2.1.2.2 23 (z2.1.1.2 * 1)])) (fun z2 => (.fin [] [])))) (.fin [] [])) (by kernel_rfl) (⟨fun h1 => (have := eq_of_beq h1; ⟨rfl, ⟨(see_ok y.id A w pre R hJ (by have h8 := ite_len y; have h9 := L.wt_m y; (try simp only [List.length_append, List.length_map, List.length_range]); omega)), fun z2 => Or.inl ⟨rfl, (z2.1, tget (.agg y.row.toArray :: .func (.func 36) #[] #[ptA A] :: ptA a0 :: uns 5 (ptA a0 :: vi y.k :: .bool true :: .func (.func 36) #[] #[ptA A] :: .pointer (some ⟨a0, 1, none⟩) :: vu y.id :: .tuple #[] :: uns 23 []))), (show kJ (pre ++ (if y.k = 1 then [y.id] else [])) z2.1 from (kJ_cast z2.2 (by rw [if_pos (by omega)]))), rfl, ⟨rfl, rfl, rfl⟩⟩⟩⟩), fun h1 => (have := ne_of_beq_false h1; Or.inl ⟨rfl, (w, tget (.agg y.row.toArray :: .func (.func 36) #[] #[ptA A] :: ptA a0 :: uns 5 (ptA a0 :: vi y.k :: .bool false :: uns 27 []))), (show kJ (pre ++ (if y.k = 1 then [y.id] else [])) w from (kJ_cast hJ (by rw [if_neg (by omega), List.append_nil]))), rfl, ⟨rfl, rfl, rfl⟩⟩)⟩), ⟨fun x1 qx1 => ⟨rfl, ⟨each_own_L4_ct y A w pre a0 x1 R hrec hy hw hb qx1, ⟨fun x33 qx33 => ⟨rfl, ⟨each_own_L9_ct y A w pre a0 x1 x33 R hrec hy hw hb (kJ_cast qx33.2 (by rw [qx33.1])), ⟨fun x40 qx40 => ⟨rfl, ⟨x40.2.1, kJ_cast qx40.2 (by rw [L.atm_eq, qx40.1]; simp only [List.append_assoc])⟩, (by rfl), (by rfl)⟩, trivial⟩⟩⟩, trivial⟩⟩⟩, trivial⟩⟩⟩)


theorem each_ok : ∀ (h : Nat) (y : L) (A : Nat) (w : KS) (pre : List Int) (R : RO), y.t.ht ≤ h → y.ok R → y.t.wt ≤ 1000000 → kJ pre w → pre.length + y.t.wt ≤ 1000000000 →
    GivesX Tryd.prog 35 [y.v, .func (.func 36) #[] #[ptA A]] R [some (A, .row [gsv w.1.1 w.2.1 w.1.2] 54 1), gsb w.1.1 w.2.2 23 (w.1.2 * 1)] {w2 : KS // kJ (pre ++ y.t.atm) w2} (fun z => (.tuple #[], [some (A, .row [gsv z.1.1.1 z.1.2.1 z.1.1.2] 54 1), gsb z.1.1.1 z.1.2.2 23 (z.1.1.2 * 1)])) := by
  intro h
  induction h with
  | zero => intro y A w pre R hh; have := T.ht_pos y.t; omega
  | succ h ih =>
    intro y A w pre R hh hy hw hJ hb
    exact each_own y A w pre R hJ (fun j S w pre hS hj hJ2 hb2 => ih (y.kid j) A w pre S (by have := L.ht_kid hj; omega) (hS.kid hj) (by have := L.wt_kid y hj; omega) hJ2 hb2) hy hw hb
end Go.Proofs.YtejpoojgbnppoaaDoor
namespace Go.Proofs.YtejpoojgbnppoaaDoor
open Vc Go
set_option linter.unusedVariables false
set_option linter.unusedSimpArgs false

theorem run_clear {P : Program} {w : World} {t ty e A O len cap : Nat} {z v0 : Value} (ht : P.underlying t = some (.slice e)) (hv : pureV P (zeroValue e) = some v0) (hz : v0.cells = #[z]) (h0 : 0 < len) {w' : World}
    (hs : (storeCells ⟨A, O, none⟩ (List.replicate len z)).run P w = .ok () w') : (Builtin.clear_ #[t] ty #[.slice (some ⟨A, O, none⟩) len cap]).run P w = .ok (.tuple #[]) w' := by
  obtain ⟨l, rfl⟩ : ∃ l, len = l + 1 := ⟨len - 1, by omega⟩
  have hc : (Builtin.zeroCells v0.cells (l + 1)).toList = List.replicate (l + 1) z := by
    rw [hz]
    apply List.ext_getElem (by simp [Builtin.zeroCells])
    intro i h1 h2
    simp [Builtin.zeroCells, Nat.mod_one]
  simp only [Builtin.clear_, Sem.run_bind, List.getElem?_toArray, List.getElem?_cons_zero, run_underlying ht, Result.andThen_ok, pureV_run hv, hc, hs, Sem.run_pure]
theorem clrs_ok {P : Program} {R : RO} {t ty e A O len cap N : Nat} {z v0 : Value} {cs cs' : List Value} (et : TypeId) (ht : P.underlying t = some (.slice e)) (hv : pureV P (zeroValue e) = some v0) (hz : v0.cells = #[z]) (h1 : z.oneCell' = true) (h0 : 0 < len) (hl : O + len ≤ cs.length)
    (hc' : cs' = cs.take O ++ List.replicate len z ++ cs.drop (O + len)) :
    Prim0 P (.clr t ty (.slice (some ⟨A, O, none⟩) len cap)) R [some (A, .row cs et N)] undef [some (A, .row cs' et N)] := by
  intro Rx w hR hs
  obtain ⟨c, lo, hi', hc, hn, htk, hf⟩ := hs.own 0 A _ rfl
  have hcl : cs.length ≤ c.size := by
    have := congrArg List.length htk
    simp at this; omega
  obtain ⟨c', w', r1, r2, r3, r5, r4⟩ := run_storeCells_blk (P := P) A et (lo, hi') (List.replicate len z) O 0 c w hc (by simp; omega) (by simpa [hn] using hf) (fun v hv => by rw [List.eq_of_mem_replicate hv]; exact h1)
  have hrun := run_clear (P := P) (ty := ty) (cap := cap) ht hv hz h0 r1
  refine ⟨w', hrun, ?_⟩
  refine hs.put_upd (i := 0) rfl r2 ⟨c', lo, hi', ?_, by omega, ?_, hf⟩ r5
  · have hlt := (Array.getElem?_eq_some_iff.1 hc).1
    rw [r2, Array.getElem?_setIfInBounds]
    simp only [if_true, hlt]
  · have e : cs = c.toList.take cs.length := htk.symm
    have hl' : cs'.length = cs.length := by
      rw [hc']; simp only [List.length_append, List.length_take, List.length_drop, List.length_replicate]; omega
    rw [hl', r4, hc']
    have hck : ∀ k, k < cs.length → cs[k]? = c.toList[k]? := fun k hk => by
      rw [e, List.getElem?_take_of_lt (by simpa using hk)]
    apply List.ext_getElem?
    intro k
    by_cases hk : k < cs.length
    · rw [List.getElem?_take_of_lt hk]
      simp only [List.getElem?_append, List.length_append, List.length_take, List.getElem?_take, List.getElem?_drop, Array.length_toList, Nat.add_zero, List.length_replicate]
      rw [show min O cs.length = O by omega, show min O c.size = O by omega]
      by_cases k1 : k < O
      · simp [k1, show k < O + len by omega]
        simpa using (hck k hk).symm
      · by_cases k2 : k < O + len
        · simp [k1, k2]
        · simp only [k1, if_false, k2]
          rw [show O + len + (k - (O + len)) = k by omega]
          exact (hck k hk).symm
    · rw [List.getElem?_eq_none (by simp only [List.length_take]; omega), List.getElem?_eq_none (by rw [← hc', hl']; omega)]
/-- A row with what stands behind its first k set to nought. -/
def zerA (E : Array Int) (k : Nat) : Array Int := (E.toList.take k ++ List.replicate (E.size - k) 0).toArray
theorem zerA_size {E : Array Int} {k : Nat} (h : k ≤ E.size) : (zerA E k).size = E.size := by simp [zerA]; omega
theorem clr_u {P : Program} {R : RO} {t ty e A cap N : Nat} {T : List Value} {E : Array Int} {n : Nat} {k : Nat} {v0 : Value} (ht : P.underlying t = some (.slice e)) (hv : pureV P (zeroValue e) = some v0) (hz : v0.cells = #[vu 0]) (hk : k < n) (hn : E.size = n) :
    Prim0 P (.clr t ty (.slice (some ⟨A, 0 + k * 1, none⟩) (n - k) cap)) R [some (A, .row (u32l E ++ T) 23 N)] undef [some (A, .row (u32l (zerA E k) ++ T) 23 N)] := by
  have hl : (u32l E).length = n := by rw [u32l_len]; exact hn
  refine clrs_ok 23 ht hv hz rfl (by omega) (by rw [List.length_append, hl]; omega) ?_
  rw [show 0 + k * 1 = k by omega, show k + (n - k) = n by omega]
  have h1 : (u32l E ++ T).take k = (E.toList.take k).map (Value.int .u32) := by
    rw [List.take_append_of_le_length (by rw [hl]; omega)]; unfold u32l; rw [List.map_take]
  have h2 : (u32l E ++ T).drop n = T := by rw [← hl, List.drop_left]
  rw [h1, h2]
  unfold zerA u32l
  simp [hn]
/-- What is left of a row: nothing twice behind itself. -/
def ddA (d : Array Int) : Nat → List Int
  | 0 => []
  | 1 => [d[0]!]
  | m + 2 => if d[m + 1]! = d[m]! then ddA d (m + 1) else ddA d (m + 1) ++ [d[m + 1]!]
theorem ddA_eq {d : Array Int} {m : Nat} (hm : 0 < m) (h : d[m]! = d[m - 1]!) : ddA d (m + 1) = ddA d m := by
  obtain ⟨k, rfl⟩ : ∃ k, m = k + 1 := ⟨m - 1, by omega⟩
  rw [Nat.add_sub_cancel] at h
  rw [ddA, if_pos h]
theorem ddA_ne {d : Array Int} {m : Nat} (hm : 0 < m) (h : d[m]! ≠ d[m - 1]!) : ddA d (m + 1) = ddA d m ++ [d[m]!] := by
  obtain ⟨k, rfl⟩ : ∃ k, m = k + 1 := ⟨m - 1, by omega⟩
  rw [Nat.add_sub_cancel] at h
  rw [ddA, if_neg h]
def CP (d : Array Int) (n k : Nat) (E : Array Int) : Prop := E.size = n ∧ k ≤ n ∧ E.toList.take k = ddA d n
theorem take_range (d : Array Int) {k : Nat} (h : k ≤ d.size) : d.toList.take k = (List.range k).map fun i => d[i]! := by
  apply List.ext_getElem (by simp; omega)
  intro i h1 h2
  simp at h1 ⊢
  rw [getElem!_pos d i (by omega)]
theorem cp_all {d : Array Int} {n k : Nat} (hd : d.size = n) (h : k = n) (h2 : ddA d k = (List.range k).map fun i => d[i]!) : CP d n n d := by
  subst h
  exact ⟨hd, Nat.le_refl _, by rw [h2, take_range d (by omega)]⟩
theorem cp_small {d : Array Int} {n : Nat} (hd : d.size = n) (h : n < 2) : CP d n n d := by
  refine cp_all hd rfl ?_
  rcases n with _ | _ | n
  · rfl
  · rfl
  · omega
theorem take_set {E : Array Int} {k : Nat} {v : Int} (h : k < E.size) : (E.setIfInBounds k v).toList.take (k + 1) = E.toList.take k ++ [v] := by
  apply List.ext_getElem?
  intro i
  rw [List.getElem?_take, List.getElem?_append, List.length_take, Array.length_toList, Nat.min_eq_left (by omega), Array.getElem?_toList, Array.getElem?_setIfInBounds]
  by_cases h1 : i < k
  · rw [if_pos (by omega), if_neg (by omega), if_pos h1, List.getElem?_take, if_pos h1, Array.getElem?_toList]
  · by_cases h2 : i = k
    · subst h2; simp [h]
    · rw [if_neg (by omega), if_neg h1, List.getElem?_eq_none (by simp; omega)]
/-- Under way: k, the places read, what is written. -/
structure CI (d : Array Int) (n k kk k2 : Nat) (E : Array Int) : Prop where
  sz : E.size = n
  k1 : 1 ≤ k
  ckk : k ≤ kk
  kr : kk + 1 ≤ k + k2
  ck2 : 1 ≤ k2
  kn : k + k2 ≤ n
  tl : ∀ i, k + k2 - 1 ≤ i → i < n → E[i]! = d[i]!
  hd : E.toList.take kk = ddA d (k + k2)
theorem CI.begin {d : Array Int} {n k : Nat} (hd : d.size = n) (h1 : 1 ≤ k) (hk : k < n) (h2 : ddA d k = (List.range k).map fun i => d[i]!) (h3 : d[k]! = d[k - 1]!) : CI d n k k 1 d :=
  ⟨hd, h1, Nat.le_refl _, Nat.le_refl _, Nat.le_refl _, by omega, fun i _ _ => rfl, by rw [ddA_eq (by omega) h3, h2, take_range d (by omega)]⟩
theorem CI.same {d : Array Int} {n k kk k2 : Nat} {E : Array Int} (c : CI d n k kk k2 E) (h : k + k2 < n) (he : E[k + k2]! = E[k + (k2 - 1)]!) : CI d n k kk (k2 + 1) E := by
  have a1 := c.k1; have a2 := c.ck2; have a3 := c.kr
  refine ⟨c.sz, c.k1, c.ckk, by omega, by omega, by omega, fun i h1 h2 => c.tl i (by omega) h2, ?_⟩
  rw [c.tl _ (by omega) (by omega), c.tl _ (by omega) (by omega)] at he
  rw [c.hd, ← Nat.add_assoc, ddA_eq (by omega) (by rw [he]; congr 1; omega)]
theorem CI.new {d : Array Int} {n k kk k2 : Nat} {E : Array Int} (c : CI d n k kk k2 E) (h : k + k2 < n) (he : E[k + k2]! ≠ E[k + (k2 - 1)]!) : CI d n k (kk + 1) (k2 + 1) (E.setIfInBounds kk E[k + k2]!) := by
  have a1 := c.k1; have a2 := c.ck2; have a3 := c.kr; have a4 := c.ckk; have a5 := c.sz
  have e1 := c.tl (k + k2) (by omega) (by omega)
  rw [c.tl _ (by omega) (by omega), c.tl (k + (k2 - 1)) (by omega) (by omega)] at he
  refine ⟨by rw [Array.size_setIfInBounds]; exact c.sz, c.k1, by omega, by omega, by omega, by omega, fun i h1 h2 => ?_, ?_⟩
  · rw [← c.tl i (by omega) h2]
    have e9 : ∀ v : Int, (E.setIfInBounds kk v)[i]! = E[i]! := fun v => by
      rw [getElem!_def, getElem!_def, Array.getElem?_setIfInBounds_ne (by omega)]
    exact e9 _
  · rw [take_set (by omega), c.hd, ← Nat.add_assoc, ddA_ne (by omega) (by rw [show k + k2 - 1 = k + (k2 - 1) by omega]; exact he), e1]
theorem cp_end {d : Array Int} {n k kk k2 : Nat} {E : Array Int} (c : CI d n k kk k2 E) (h : k + k2 = n) : CP d n kk (zerA E kk) := by
  have a1 := c.k1; have a2 := c.ck2; have a3 := c.kr; have a5 := c.sz
  refine ⟨by rw [zerA_size (by omega)]; exact c.sz, by omega, ?_⟩
  have : (zerA E kk).toList.take kk = E.toList.take kk := by
    unfold zerA
    rw [List.toList_toArray, List.take_append_of_le_length (by simp; omega), List.take_take, Nat.min_self]
  rw [this, c.hd, h]
theorem dd_grow' {d : Array Int} {k : Nat} (h1 : 1 ≤ k) (h2 : ddA d k = (List.range k).map fun i => d[i]!) (h3 : d[k]! ≠ d[k - 1]!) : ddA d (k + 1) = (List.range (k + 1)).map fun i => d[i]! := by
  rw [ddA_ne (by omega) h3, h2, List.range_succ, List.map_append]; rfl
theorem ci_same {d E : Array Int} {n : Nat} {k kk k2 : Int} (hI : 1 ≤ kk ∧ 1 ≤ k2 ∧ CI d n k.toNat kk.toNat k2.toNat E) (h : k + k2 < (n : Int)) (hk : 1 ≤ k) (pf : (E[Int.toNat k + Int.toNat k2]! != E[Int.toNat k + Int.toNat (k2 - 1)]!) = false) :
    CI d n k.toNat kk.toNat (Int.toNat (k2 + 1)) E := by
  have := hI.2.2.same (by omega) (by rw [show Int.toNat k2 - 1 = Int.toNat (k2 - 1) by omega]; simpa using pf)
  rwa [show Int.toNat k2 + 1 = Int.toNat (k2 + 1) by omega] at this
theorem ci_new {d E : Array Int} {n : Nat} {k kk k2 : Int} (hI : 1 ≤ kk ∧ 1 ≤ k2 ∧ CI d n k.toNat kk.toNat k2.toNat E) (h : k + k2 < (n : Int)) (hk : 1 ≤ k) (pf : (E[Int.toNat k + Int.toNat k2]! != E[Int.toNat k + Int.toNat (k2 - 1)]!) = true) :
    CI d n k.toNat (Int.toNat (kk + 1)) (Int.toNat (k2 + 1)) (E.setIfInBounds kk.toNat E[Int.toNat k + Int.toNat k2]!) := by
  have := hI.2.2.new (by omega) (by rw [show Int.toNat k2 - 1 = Int.toNat (k2 - 1) by omega]; simpa using pf)
  rwa [show Int.toNat k2 + 1 = Int.toNat (k2 + 1) by omega, show Int.toNat kk + 1 = Int.toNat (kk + 1) by omega] at this
theorem dd_k {d : Array Int} {k : Int} (pf : (d[Int.toNat k]! == d[Int.toNat (k - 1)]!) = true) (h : 1 ≤ k) : d[Int.toNat k]! = d[Int.toNat k - 1]! := by
  rw [show Int.toNat k - 1 = Int.toNat (k - 1) by omega]; exact eq_of_beq pf
theorem dd_n {d : Array Int} {k : Int} (h1 : 1 ≤ k) (h2 : ddA d k.toNat = (List.range k.toNat).map fun i => d[i]!) (pf : (d[Int.toNat k]! == d[Int.toNat (k - 1)]!) = false) : ddA d (Int.toNat (k + 1)) = (List.range (Int.toNat (k + 1))).map fun i => d[i]! := by
  rw [show Int.toNat (k + 1) = Int.toNat k + 1 by omega]
  exact dd_grow' (by omega) h2 (by rw [show Int.toNat k - 1 = Int.toNat (k - 1) by omega]; simpa using pf)

noncomputable def compact_own_L9_inv (A0 n cap N : Nat) (T : List Value) (d : Array Int) (k : Int) (u1 : Nat → Value)  : Int × Int × (Array Int) × NV → St := fun zx => ⟨(slA A0 n cap :: undef :: (u1 2) :: vi zx.1 :: .slice (some ⟨A0, 0 + Int.toNat k * 1, none⟩) (n - Int.toNat k) (cap - Int.toNat k) :: vi zx.2.1 :: slA A0 n cap :: vi (n : Int) :: .bool false :: undef :: vi k :: slA A0 n cap :: vi (n : Int) :: .bool true :: (u1 14) :: (u1 15) :: slA A0 n cap :: vi k :: .pointer (some ⟨A0, 0 + Int.toNat k * 1, none⟩) :: vu (d[Int.toNat k]!) :: slA A0 n cap :: vi k :: vi (k - 1) :: .pointer (some ⟨A0, 0 + Int.toNat (k - 1) * 1, none⟩) :: vu (d[Int.toNat (k - 1)]!) :: .bool true :: slA A0 n cap :: vi k :: .slice (some ⟨A0, 0 + Int.toNat k * 1, none⟩) (n - Int.toNat k) (cap - Int.toNat k) :: urun zx.2.2.2 29 25 (urun u1 54 6 (undef :: []))), [], [some (A0, .row (u32l zx.2.2.1 ++ T) 23 N)]⟩
def compact_own_L9_I (A0 n cap N : Nat) (T : List Value) (d : Array Int) (k : Int) (u1 : Nat → Value)  (R : RO) : Int × Int × (Array Int) × NV → RO → Prop := fun zx G => G = R ∧ (1 ≤ zx.1 ∧ 1 ≤ zx.2.1 ∧ CI d n k.toNat zx.1.toNat zx.2.1.toNat zx.2.2.1)
def compact_own_L9_mu (A0 n cap N : Nat) (T : List Value) (d : Array Int) (k : Int) (u1 : Nat → Value)  : Int × Int × (Array Int) × NV → Nat := fun zx => Int.toNat ((n : Int) - k - zx.2.1)
noncomputable def compact_own_L9_K (A0 n cap N : Nat) (T : List Value) (d : Array Int) (k : Int) (u1 : Nat → Value)  (R : RO) : Exit' → St → RO → Prop := altPost R (.alt (Int × Int × (Array Int) × NV) (fun zx => 1 ≤ zx.1 ∧ 1 ≤ zx.2.1 ∧ k + zx.2.1 = (n : Int) ∧ CI d n k.toNat zx.1.toNat zx.2.1.toNat zx.2.2.1) (fun zx => (.exit 2, ((compact_own_L9_inv A0 n cap N T d k u1 zx).up [] [some (A0, .row (u32l zx.2.2.1 ++ T) 23 N)]))) (fun _ => .altn) .altn)
theorem compact_own_L9_body (A0 n cap N : Nat) (T : List Value) (d : Array Int) (k : Int) (u1 : Nat → Value)  (R : RO) (hn : n ≤ 1152921504606846976) (hk1 : 1 ≤ k) (hkn : k < (n : Int)) (kk : Int) (k2 : Int) (E : Array Int) (u54 : Nat → Value) (hI : 1 ≤ kk ∧ 1 ≤ k2 ∧ CI d n k.toNat kk.toNat k2.toNat E) : CT Tryd.prog (sub (bodyOf Tryd.f39) [1, 1, 0, 1, 0, 0, 1, 0, 0, 1, 0, 1, 0, 1, 0, 0]) (compact_own_L9_inv A0 n cap N T d k u1 (kk, k2, E, u54)) R (LK (compact_own_L9_inv A0 n cap N T d k u1) (compact_own_L9_I A0 n cap N T d k u1 R) (compact_own_L9_mu A0 n cap N T d k u1) (compact_own_L9_K A0 n cap N T d k u1 R) (kk, k2, E, u54)) :=
  CT.of_wp_eq (VC := (let z10 := (compact_own_L9_mu A0 n cap N T d k u1); let z9 := (compact_own_L9_K A0 n cap N T d k u1 R); let z8 := (compact_own_L9_I A0 n cap N T d k u1 R); let z7 := (compact_own_L9_inv A0 n cap N T d k u1); let z6 : Option Addr := (some ⟨A0, 0 + Int.toNat k * 1 + Int.toNat k2 * 1, none⟩); let z4 := (compact_own_L9_inv A0 n cap N T d k u1 (kk, k2, E, u54)); let z3 := (E[(Int.toNat k + Int.toNat (k2 - 1))]!); let z2 := ((n - Int.toNat k) : Nat); let z1 : Option Addr := (some ⟨A0, 0 + Int.toNat k * 1, none⟩); let z0 := (E[(Int.toNat k + Int.toNat k2)]!); let z5 := (A0 = A0 ∧ readVar Tryd.prog 23 (u32l E ++ T) (0 + Int.toNat k * 1 + Int.toNat k2 * 1) = some (vu z0)); ((decide (k2 < (z2 : Int))) = true → (IB k2 z2) ∧ z5 ∧ (NW .i64 (k2 - 1)) ∧ (IB (k2 - 1) z2) ∧ (A0 = A0 ∧ readVar Tryd.prog 23 (u32l E ++ T) (0 + Int.toNat k * 1 + Int.toNat (k2 - 1) * 1) = some (vu z3)) ∧ ((z0 != z3) = true → (IB k2 z2) ∧ z5 ∧ (IB kk (n : Nat)) ∧ (WRu A0 E T kk z0) ∧ (NW .i64 (kk + 1)) ∧ (NW .i64 (k2 + 1)) ∧ LK z7 z8 z10 z9 (kk, k2, E, u54) .normal (z4.up [(3, vi (kk + 1)), (5, vi (k2 + 1)), (29, vi k2), (30, .slice z1 (n - Int.toNat k) (cap - Int.toNat k)), (31, vi (z2 : Int)), (32, .bool true), (33, vi k2), (34, vi (k2 + 1)), (35, .slice z1 (n - Int.toNat k) (cap - Int.toNat k)), (36, vi k2), (37, .pointer z6), (38, vu z0), (39, .slice z1 (n - Int.toNat k) (cap - Int.toNat k)), (40, vi k2), (41, vi (k2 - 1)), (42, .pointer (some ⟨A0, 0 + Int.toNat k * 1 + Int.toNat (k2 - 1) * 1, none⟩)), (43, vu z3), (44, .bool true), (45, slA A0 n cap), (46, vi kk), (47, .slice z1 (n - Int.toNat k) (cap - Int.toNat k)), (48, vi k2), (49, .pointer z6), (50, vu z0), (51, .pointer (some ⟨A0, 0 + Int.toNat kk * 1, none⟩)), (52, vi kk), (53, vi (kk + 1))] [some (A0, .row (u32l (E.setIfInBounds kk.toNat z0) ++ T) 23 N)]) R) ∧ ((z0 != z3) = false → (NW .i64 (k2 + 1)) ∧ LK z7 z8 z10 z9 (kk, k2, E, u54) .normal (z4.up [(5, vi (k2 + 1)), (29, vi k2), (30, .slice z1 (n - Int.toNat k) (cap - Int.toNat k)), (31, vi (z2 : Int)), (32, .bool true), (33, vi k2), (34, vi (k2 + 1)), (35, .slice z1 (n - Int.toNat k) (cap - Int.toNat k)), (36, vi k2), (37, .pointer z6), (38, vu z0), (39, .slice z1 (n - Int.toNat k) (cap - Int.toNat k)), (40, vi k2), (41, vi (k2 - 1)), (42, .pointer (some ⟨A0, 0 + Int.toNat k * 1 + Int.toNat (k2 - 1) * 1, none⟩)), (43, vu z3), (44, .bool false)] [some (A0, .row (u32l E ++ T) 23 N)]) R)) ∧ ((decide (k2 < (z2 : Int))) = false → LK z7 z8 z10 z9 (kk, k2, E, u54) (.exit 2) (z4.up [(29, vi k2), (30, .slice z1 (n - Int.toNat k) (cap - Int.toNat k)), (31, vi (z2 : Int)), (32, .bool false)] [some (A0, .row (u32l E ++ T) 23 N)]) R))) (ops [.d, .d, .d, .d] (.sp 32 (.dr [some (.d), some (.d), some (.ia), some (.q 0 (fun e v => .int .u32 (E[(Int.toNat k + Int.toNat k2)]!))), some (.d), some (.d), some (.nw), some (.ia), some (.q 0 (fun e v => .int .u32 (E[(Int.toNat k + Int.toNat (k2 - 1))]!))), some (.d)] (.sp 44 (ops [.d, .d, .d, .d, .ia, .q 0 (fun e v => .int .u32 (E[(Int.toNat k + Int.toNat k2)]!)), .ia, .sq 0 (fun e v => u32l (E.setIfInBounds kk.toNat (E[(Int.toNat k + Int.toNat k2)]!)) ++ T), .d, .nw, .d, .d, .nw, .d] (.fin [] [])) (ops [.d, .nw, .d] (.fin [] [])))) (.fin [] []))) (by kernel_rfl)
    (⟨fun h105 => (have := of_decide_eq_true h105; ⟨(by have h9 := hI.2.2.kr; have h8 := hI.2.2.kn; have h7 := hI.2.2.ckk; omega), ⟨⟨rfl, (rd_u (by kernel_rfl) (by have h9 := hI.2.2.sz; have h8 := hI.2.2.kn; omega) (by omega))⟩, ⟨(nwI (by have h9 := hI.2.2.kr; have h8 := hI.2.2.kn; have h7 := hI.2.2.ckk; omega) (by have h9 := hI.2.2.kr; have h8 := hI.2.2.kn; have h7 := hI.2.2.ckk; omega)), ⟨(by have h9 := hI.2.2.kr; have h8 := hI.2.2.kn; have h7 := hI.2.2.ckk; omega), ⟨⟨rfl, (rd_u (by kernel_rfl) (by have h9 := hI.2.2.sz; have h8 := hI.2.2.kn; omega) (by omega))⟩, ⟨fun h106 => ⟨(by have h9 := hI.2.2.kr; have h8 := hI.2.2.kn; have h7 := hI.2.2.ckk; omega), ⟨⟨rfl, (rd_u (by kernel_rfl) (by have h9 := hI.2.2.sz; have h8 := hI.2.2.kn; omega) (by omega))⟩, ⟨(by have h9 := hI.2.2.kr; have h8 := hI.2.2.kn; have h7 := hI.2.2.ckk; omega), ⟨(wru (by have h9 := hI.2.2.sz; have h8 := hI.2.2.kn; have h7 := hI.2.2.kr; omega)), ⟨(nwI (by have h9 := hI.2.2.kr; have h8 := hI.2.2.kn; have h7 := hI.2.2.ckk; omega) (by have h9 := hI.2.2.kr; have h8 := hI.2.2.kn; have h7 := hI.2.2.ckk; omega)), ⟨(nwI (by have h9 := hI.2.2.kr; have h8 := hI.2.2.kn; have h7 := hI.2.2.ckk; omega) (by have h9 := hI.2.2.kr; have h8 := hI.2.2.kn; have h7 := hI.2.2.ckk; omega)), LKn (fun zw => (kk + 1, k2 + 1, (E.setIfInBounds kk.toNat (E[(Int.toNat k + Int.toNat k2)]!)), zw)) ⟨⟨rfl, (show 1 ≤ (kk + 1) ∧ 1 ≤ (k2 + 1) ∧ CI d n k.toNat (Int.toNat (kk + 1)) (Int.toNat (k2 + 1)) (E.setIfInBounds kk.toNat (E[(Int.toNat k + Int.toNat k2)]!)) from ⟨by omega, by omega, (ci_new hI (by omega) hk1 h106)⟩)⟩, (show Int.toNat ((n : Int) - k - (k2 + 1)) < Int.toNat ((n : Int) - k - k2) from (by omega)), ⟨(by show _ = _; kernel_rfl), rfl, rfl⟩⟩⟩⟩⟩⟩⟩⟩, fun h106 => ⟨(nwI (by have h9 := hI.2.2.kr; have h8 := hI.2.2.kn; have h7 := hI.2.2.ckk; omega) (by have h9 := hI.2.2.kr; have h8 := hI.2.2.kn; have h7 := hI.2.2.ckk; omega)), LKn (fun zw => (kk, k2 + 1, E, zw)) ⟨⟨rfl, (show 1 ≤ kk ∧ 1 ≤ (k2 + 1) ∧ CI d n k.toNat kk.toNat (Int.toNat (k2 + 1)) E from ⟨by omega, by omega, (ci_same hI (by omega) hk1 h106)⟩)⟩, (show Int.toNat ((n : Int) - k - (k2 + 1)) < Int.toNat ((n : Int) - k - k2) from (by omega)), ⟨(by show _ = _; kernel_rfl), rfl, rfl⟩⟩⟩⟩⟩⟩⟩⟩⟩), fun h105 => (have := of_decide_eq_false h105; altA (fun zw => (kk, k2, E, zw)) ⟨(show 1 ≤ kk ∧ 1 ≤ k2 ∧ k + k2 = (n : Int) ∧ CI d n k.toNat kk.toNat k2.toNat E from ⟨hI.1, hI.2.1, by have h9 := hI.2.2.kn; omega, hI.2.2⟩), (by show _ = _; kernel_rfl), ⟨(by show _ = _; kernel_rfl), (by show _ = _; kernel_rfl), (by show _ = _; kernel_rfl)⟩⟩)⟩)
theorem compact_own_L9_ct (A0 n cap N : Nat) (T : List Value) (d : Array Int) (k : Int) (u1 : Nat → Value)  (R : RO) (hn : n ≤ 1152921504606846976) (hk1 : 1 ≤ k) (hkn : k < (n : Int)) (h0 : d[Int.toNat k]! = d[Int.toNat k - 1]!) (h00 : ddA d k.toNat = (List.range k.toNat).map fun i => d[i]!) (hd : d.size = n) : CT Tryd.prog (sub (bodyOf Tryd.f39) [1, 1, 0, 1, 0, 0, 1, 0, 0, 1, 0, 1, 0, 1, 0]) ⟨(slA A0 n cap :: undef :: (u1 2) :: vi k :: .slice (some ⟨A0, 0 + Int.toNat k * 1, none⟩) (n - Int.toNat k) (cap - Int.toNat k) :: vi 1 :: slA A0 n cap :: vi (n : Int) :: .bool false :: undef :: vi k :: slA A0 n cap :: vi (n : Int) :: .bool true :: (u1 14) :: (u1 15) :: slA A0 n cap :: vi k :: .pointer (some ⟨A0, 0 + Int.toNat k * 1, none⟩) :: vu (d[Int.toNat k]!) :: slA A0 n cap :: vi k :: vi (k - 1) :: .pointer (some ⟨A0, 0 + Int.toNat (k - 1) * 1, none⟩) :: vu (d[Int.toNat (k - 1)]!) :: .bool true :: slA A0 n cap :: vi k :: .slice (some ⟨A0, 0 + Int.toNat k * 1, none⟩) (n - Int.toNat k) (cap - Int.toNat k) :: urun u1 29 31 (undef :: [])), [], [some (A0, .row (u32l d ++ T) 23 N)]⟩ R (compact_own_L9_K A0 n cap N T d k u1 R) :=
  CT.loop_eqs (compact_own_L9_inv A0 n cap N T d k u1) (compact_own_L9_I A0 n cap N T d k u1 R) (compact_own_L9_mu A0 n cap N T d k u1) (fun zw => (k, 1, d, zw)) (by kernel_rfl) (by kernel_rfl) ⟨rfl, (show 1 ≤ k ∧ 1 ≤ 1 ∧ CI d n k.toNat k.toNat (Int.toNat 1) d from ⟨hk1, by omega, CI.begin hd (by omega) (by omega) h00 h0⟩)⟩
    (by
      rintro ⟨kk, k2, E, u54⟩ G hG ⟨rfl, hI⟩
      exact compact_own_L9_body A0 n cap N T d k u1 _ hn hk1 hkn kk k2 E u54 hI)
noncomputable def compact_own_L4_inv (A0 n cap N : Nat) (T : List Value) (d : Array Int)  : Int × (Array Int) × NV → St := fun zx => ⟨(slA A0 n cap :: undef :: (zx.2.2 2) :: vi zx.1 :: (zx.2.2 4) :: (zx.2.2 5) :: slA A0 n cap :: vi (n : Int) :: .bool false :: undef :: urun zx.2.2 10 50 (undef :: [])), [], [some (A0, .row (u32l d ++ T) 23 N)]⟩
def compact_own_L4_I (A0 n cap N : Nat) (T : List Value) (d : Array Int)  (R : RO) : Int × (Array Int) × NV → RO → Prop := fun zx G => G = R ∧ (1 ≤ zx.1 ∧ zx.1 ≤ (n : Int) ∧ ddA d zx.1.toNat = (List.range zx.1.toNat).map fun i => d[i]!)
def compact_own_L4_mu (A0 n cap N : Nat) (T : List Value) (d : Array Int)  : Int × (Array Int) × NV → Nat := fun zx => Int.toNat ((n : Int) - zx.1)
noncomputable def compact_own_L4_K (A0 n cap N : Nat) (T : List Value) (d : Array Int)  (R : RO) : Exit' → St → RO → Prop := altPost R (.alt (Int × (Array Int) × NV) (fun zx => zx.1 = (n : Int) ∧ ddA d zx.1.toNat = (List.range zx.1.toNat).map fun i => d[i]!) (fun zx => (.exit 0, ((compact_own_L4_inv A0 n cap N T d zx).up [] [some (A0, .row (u32l d ++ T) 23 N)]))) (fun _ => .altn) (.alt (Int × (Array Int) × NV) (fun zx => CP d n zx.1.toNat zx.2.1) (fun zx => (.ret, ((compact_own_L4_inv A0 n cap N T d zx).up [(2, .slice (some ⟨A0, 0, none⟩) zx.1.toNat cap)] [some (A0, .row (u32l zx.2.1 ++ T) 23 N)]))) (fun _ => .altn) .altn))
theorem compact_own_L4_body (A0 n cap N : Nat) (T : List Value) (d : Array Int)  (R : RO) (hd : d.size = n) (hn : n ≤ 1152921504606846976) (hc : n ≤ cap) (h2 : 2 ≤ n) (k : Int) (E : Array Int) (u1 : Nat → Value) (hI : 1 ≤ k ∧ k ≤ (n : Int) ∧ ddA d k.toNat = (List.range k.toNat).map fun i => d[i]!) : CT Tryd.prog (sub (bodyOf Tryd.f39) [1, 1, 0, 1, 0, 0]) (compact_own_L4_inv A0 n cap N T d (k, E, u1)) R (LK (compact_own_L4_inv A0 n cap N T d) (compact_own_L4_I A0 n cap N T d R) (compact_own_L4_mu A0 n cap N T d) (compact_own_L4_K A0 n cap N T d R) (k, E, u1)) :=
  CT.of_wp_eq (VC := (let z8 : Hp := [some (A0, .row (u32l d ++ T) 23 N)]; let z7 := (compact_own_L4_mu A0 n cap N T d); let z5 := (compact_own_L4_K A0 n cap N T d R); let z4 := (compact_own_L4_I A0 n cap N T d R); let z3 := (compact_own_L4_inv A0 n cap N T d); let z2 : Option Addr := (some ⟨A0, 0 + Int.toNat (k - 1) * 1, none⟩); let z1 := (d[Int.toNat (k - 1)]!); let z0 : Option Addr := (some ⟨A0, 0 + Int.toNat k * 1, none⟩); ((decide (k < (n : Int))) = true → (IB k (n : Nat)) ∧ (RDu A0 d T k) ∧ (NW .i64 (k - 1)) ∧ (IB (k - 1) (n : Nat)) ∧ (RDu A0 d T (k - 1)) ∧ (((d[Int.toNat k]!) == z1) = true → (0 ≤ k ∧ k ≤ (n : Int) ∧ k < (cap : Int)) ∧ (CT Tryd.prog (sub (bodyOf Tryd.f39) [1, 1, 0, 1, 0, 0, 1, 0, 0, 1, 0, 1, 0, 1, 0]) ⟨(slA A0 n cap :: undef :: (u1 2) :: vi k :: .slice z0 (n - Int.toNat k) (cap - Int.toNat k) :: vi 1 :: slA A0 n cap :: vi (n : Int) :: .bool false :: undef :: vi k :: slA A0 n cap :: vi (n : Int) :: .bool true :: (u1 14) :: (u1 15) :: slA A0 n cap :: vi k :: .pointer z0 :: vu (d[Int.toNat k]!) :: slA A0 n cap :: vi k :: vi (k - 1) :: .pointer z2 :: vu z1 :: .bool true :: slA A0 n cap :: vi k :: .slice z0 (n - Int.toNat k) (cap - Int.toNat k) :: urun u1 29 31 (undef :: [])), [], z8⟩ R (compact_own_L9_K A0 n cap N T d k u1 R)) ∧ (∀ x55 : Int × Int × (Array Int) × NV, let z6 : Hp := [some (A0, .row (u32l (zerA x55.2.2.1 x55.1.toNat) ++ T) 23 N)]; (1 ≤ x55.1 ∧ 1 ≤ x55.2.1 ∧ k + x55.2.1 = (n : Int) ∧ CI d n k.toNat x55.1.toNat x55.2.1.toNat x55.2.2.1) → (0 ≤ x55.1 ∧ x55.1 ≤ (n : Int) ∧ x55.1 < (cap : Int)) ∧ (Prim0 Tryd.prog (.clr 54 0 (.slice (some ⟨A0, 0 + Int.toNat x55.1 * 1, none⟩) (n - Int.toNat x55.1) (cap - Int.toNat x55.1))) R [some (A0, .row (u32l x55.2.2.1 ++ T) 23 N)] (undef) z6) ∧ (0 ≤ x55.1 ∧ x55.1 ≤ (cap : Int)) ∧ LK z3 z4 z7 z5 (k, E, u1) (.ret) ⟨(slA A0 n cap :: undef :: .slice (some ⟨A0, 0, none⟩) x55.1.toNat cap :: vi x55.1 :: .slice z0 (n - Int.toNat k) (cap - Int.toNat k) :: vi x55.2.1 :: slA A0 n cap :: vi (n : Int) :: .bool false :: undef :: vi k :: slA A0 n cap :: vi (n : Int) :: .bool true :: (u1 14) :: (u1 15) :: slA A0 n cap :: vi k :: .pointer z0 :: vu (d[Int.toNat k]!) :: slA A0 n cap :: vi k :: vi (k - 1) :: .pointer z2 :: vu z1 :: .bool true :: slA A0 n cap :: vi k :: .slice z0 (n - Int.toNat k) (cap - Int.toNat k) :: urun x55.2.2.2 29 25 (slA A0 n cap :: vi x55.1 :: .slice (some ⟨A0, 0 + Int.toNat x55.1 * 1, none⟩) (n - Int.toNat x55.1) (cap - Int.toNat x55.1) :: slA A0 n cap :: vi x55.1 :: .slice (some ⟨A0, 0, none⟩) x55.1.toNat cap :: undef :: [])), [], z6⟩ R) ∧ True) ∧ (((d[Int.toNat k]!) == z1) = false → (NW .i64 (k + 1)) ∧ LK z3 z4 z7 z5 (k, E, u1) .normal ((compact_own_L4_inv A0 n cap N T d (k, E, u1)).up [(3, vi (k + 1)), (10, vi k), (11, slA A0 n cap), (12, vi (n : Int)), (13, .bool true), (14, vi k), (15, vi (k + 1)), (16, slA A0 n cap), (17, vi k), (18, .pointer z0), (19, vu (d[Int.toNat k]!)), (20, slA A0 n cap), (21, vi k), (22, vi (k - 1)), (23, .pointer z2), (24, vu z1), (25, .bool false)] z8) R)) ∧ ((decide (k < (n : Int))) = false → LK z3 z4 z7 z5 (k, E, u1) (.exit 0) ((compact_own_L4_inv A0 n cap N T d (k, E, u1)).up [(10, vi k), (11, slA A0 n cap), (12, vi (n : Int)), (13, .bool false)] z8) R))) (ops [.d, .d, .d, .d] (.sp 13 (.dr [some (.d), some (.d), some (.ia), some (.q 0 (fun e v => .int .u32 (d[Int.toNat k]!))), some (.d), some (.d), some (.nw), some (.ia), some (.q 0 (fun e v => .int .u32 (d[Int.toNat (k - 1)]!))), some (.d)] (.sp 25 (ops [.d, .d, .sl, .d, .d] (.alt (Int × Int × (Array Int) × NV) (fun zx => 1 ≤ zx.1 ∧ 1 ≤ zx.2.1 ∧ k + zx.2.1 = (n : Int) ∧ CI d n k.toNat zx.1.toNat zx.2.1.toNat zx.2.2.1) (fun zx => (.exit 2, ((compact_own_L9_inv A0 n cap N T d k u1 zx).up [] [some (A0, .row (u32l zx.2.2.1 ++ T) 23 N)]))) (fun x55 => (ops [.d, .d, .sl, .pr0 [0] [] (fun e v => undef) (fun e v => [some (A0, .row (u32l (zerA x55.2.2.1 x55.1.toNat) ++ T) 23 N)]), .d, .d, .sl0, .d] (.fin [] []))) .altn)) (ops [.d, .nw, .d] (.fin [] [])))) (.fin [] []))) (by kernel_rfl)
    (⟨fun h52 => (have := of_decide_eq_true h52; ⟨(by omega), ⟨(rdu (by omega)), ⟨(nwI (by omega) (by omega)), ⟨(by omega), ⟨(rdu (by omega)), ⟨fun h53 => ⟨(by omega), ⟨compact_own_L9_ct A0 n cap N T d k u1 R hn (by omega) (by omega) (dd_k h53 (by omega)) hI.2.2 hd, ⟨fun x55 qx55 => ⟨(by have h9 := qx55.2.2.2.kr; have h8 := qx55.2.2.2.ck2; have h7 := qx55.2.2.2.ckk; omega), ⟨(clr_u (e := 23) (k := Int.toNat x55.1) (v0 := .int .u32 0) (by kernel_rfl) (by kernel_rfl) rfl (by have h9 := qx55.2.2.2.kr; omega) (qx55.2.2.2.sz)), ⟨(by have h9 := qx55.2.2.2.kr; have h8 := qx55.2.2.2.ck2; have h7 := qx55.2.2.2.ckk; omega), Or.inr (altA (fun zw => (x55.1, (zerA x55.2.2.1 x55.1.toNat), zw)) ⟨(show CP d n x55.1.toNat (zerA x55.2.2.1 x55.1.toNat) from (cp_end qx55.2.2.2 (by have h9 := qx55.2.1; omega))), (by show _ = _; kernel_rfl), ⟨(by show _ = _; kernel_rfl), (by show _ = _; kernel_rfl), (by show _ = _; kernel_rfl)⟩⟩)⟩⟩⟩, trivial⟩⟩⟩, fun h53 => ⟨(nwI (by omega) (by omega)), LKn (fun zw => (k + 1, d, zw)) ⟨⟨rfl, (show 1 ≤ (k + 1) ∧ (k + 1) ≤ (n : Int) ∧ ddA d (Int.toNat (k + 1)) = (List.range (Int.toNat (k + 1))).map fun i => d[i]! from ⟨by omega, by omega, dd_n (by omega) hI.2.2 h53⟩)⟩, (show Int.toNat ((n : Int) - (k + 1)) < Int.toNat ((n : Int) - k) from (by omega)), ⟨(by show _ = _; kernel_rfl), rfl, rfl⟩⟩⟩⟩⟩⟩⟩⟩⟩), fun h52 => (have := of_decide_eq_false h52; altA (fun zw => (k, d, zw)) ⟨(show k = (n : Int) ∧ ddA d k.toNat = (List.range k.toNat).map fun i => d[i]! from ⟨by omega, hI.2.2⟩), (by show _ = _; kernel_rfl), ⟨(by show _ = _; kernel_rfl), (by show _ = _; kernel_rfl), (by show _ = _; kernel_rfl)⟩⟩)⟩)
theorem compact_own_L4_ct (A0 n cap N : Nat) (T : List Value) (d : Array Int)  (R : RO) (hd : d.size = n) (hn : n ≤ 1152921504606846976) (hc : n ≤ cap) (h2 : 2 ≤ n)  : CT Tryd.prog (sub (bodyOf Tryd.f39) [1, 1, 0, 1, 0]) ⟨(slA A0 n cap :: undef :: .slice none 0 0 :: vi 1 :: undef :: undef :: slA A0 n cap :: vi (n : Int) :: .bool false :: uns 52 []), [], [some (A0, .row (u32l d ++ T) 23 N)]⟩ R (compact_own_L4_K A0 n cap N T d R) :=
  CT.loop_eqs (compact_own_L4_inv A0 n cap N T d) (compact_own_L4_I A0 n cap N T d R) (compact_own_L4_mu A0 n cap N T d) (fun zw => (1, d, zw)) (by kernel_rfl) (by kernel_rfl) ⟨rfl, (show 1 ≤ 1 ∧ 1 ≤ (n : Int) ∧ ddA d (Int.toNat 1) = (List.range (Int.toNat 1)).map fun i => d[i]! from ⟨Int.le_refl 1, by omega, rfl⟩)⟩
    (by
      rintro ⟨k, E, u1⟩ G hG ⟨rfl, hI⟩
      exact compact_own_L4_body A0 n cap N T d _ hd hn hc h2 k E u1 hI)
theorem compact_own (A0 n cap N : Nat) (T : List Value) (d : Array Int) (R : RO) (hd : d.size = n) (hn : n ≤ 1152921504606846976) (hc : n ≤ cap) : GivesX Tryd.prog 39 [slA A0 n cap] R [some (A0, .row (u32l d ++ T) 23 N)] ({y : Nat × Array Int // CP d n y.1 y.2}) (fun y => (slA A0 y.1.1 cap, [some (A0, .row (u32l y.1.2 ++ T) 23 N)])) :=
  Does.of_wp_eq (VC := (let z0 : Hp := [some (A0, .row (u32l d ++ T) 23 N)]; ((decide ((n : Int) < 2)) = true → GX R ({y : Nat × Array Int // CP d n y.1 y.2}) (fun y => (slA A0 y.1.1 cap, [some (A0, .row (u32l y.1.2 ++ T) 23 N)])) (.ret (slA A0 n cap)) R z0) ∧ ((decide ((n : Int) < 2)) = false → (CT Tryd.prog (sub (bodyOf Tryd.f39) [1, 1, 0, 1, 0]) ⟨(slA A0 n cap :: undef :: .slice none 0 0 :: vi 1 :: undef :: undef :: slA A0 n cap :: vi (n : Int) :: .bool false :: uns 52 []), [], z0⟩ R (compact_own_L4_K A0 n cap N T d R)) ∧ (∀ x2 : Int × (Array Int) × NV, (x2.1 = (n : Int) ∧ ddA d x2.1.toNat = (List.range x2.1.toNat).map fun i => d[i]!) → GX R ({y : Nat × Array Int // CP d n y.1 y.2}) (fun y => (slA A0 y.1.1 cap, [some (A0, .row (u32l y.1.2 ++ T) 23 N)])) (.ret (slA A0 n cap)) R z0) ∧ ((∀ x3 : Int × (Array Int) × NV, (CP d n x3.1.toNat x3.2.1) → GX R ({y : Nat × Array Int // CP d n y.1 y.2}) (fun y => (slA A0 y.1.1 cap, [some (A0, .row (u32l y.1.2 ++ T) 23 N)])) (.ret (.slice (some ⟨A0, 0, none⟩) x3.1.toNat cap)) R [some (A0, .row (u32l x3.2.1 ++ T) 23 N)]) ∧ True)))) (ops [.d, .d, .d, .d] (.sp 8 (ops [.d, .d] (.fin [0] [])) (ops [.d] (.alt (Int × (Array Int) × NV) (fun zx => zx.1 = (n : Int) ∧ ddA d zx.1.toNat = (List.range zx.1.toNat).map fun i => d[i]!) (fun zx => (.exit 0, ((compact_own_L4_inv A0 n cap N T d zx).up [] [some (A0, .row (u32l d ++ T) 23 N)]))) (fun x2 => (ops [.d, .d] (.fin [0] []))) (.alt (Int × (Array Int) × NV) (fun zx => CP d n zx.1.toNat zx.2.1) (fun zx => (.ret, ((compact_own_L4_inv A0 n cap N T d zx).up [(2, .slice (some ⟨A0, 0, none⟩) zx.1.toNat cap)] [some (A0, .row (u32l zx.2.1 ++ T) 23 N)]))) (fun x3 => (.fin [0] [])) .altn))))) Tryd.func39 (by kernel_rfl) (by kernel_rfl)
    (⟨fun h0 => (have := of_decide_eq_true h0; ⟨rfl, ⟨(n, d), cp_small hd (by omega)⟩, (by rfl), (by rfl)⟩), fun h0 => (have := of_decide_eq_false h0; ⟨compact_own_L4_ct A0 n cap N T d R hd hn hc (by omega), ⟨fun x2 qx2 => ⟨rfl, ⟨(n, d), cp_all hd (k := Int.toNat x2.1) (by omega) qx2.2⟩, (by rfl), (by rfl)⟩, ⟨fun x3 qx3 => ⟨rfl, ⟨(Int.toNat x3.1, x3.2.1), qx3⟩, (by rfl), (by rfl)⟩, trivial⟩⟩⟩)⟩)
end Go.Proofs.YtejpoojgbnppoaaDoor
namespace Go.Proofs.YtejpoojgbnppoaaDoor
open Vc Go
set_option linter.unusedVariables false
set_option linter.unusedSimpArgs false

theorem insc_nil (cap : Nat) (R : RO)  : Gives Tryd.prog 74 [.slice none 0 cap, vi 0, vi 0, .func (.func 38) #[] #[]] R [] (.ret (.tuple #[])) [] :=
  Does.of_wp_eq (VC := (GQ R (.ret (.tuple #[])) [] (.ret (.tuple #[])) R [])) (ops [.d, .d, .d] (.un 1 (ops [.d, .d, .d] (.fin [] [])))) Tryd.func74 (by kernel_rfl) (by kernel_rfl)
    (⟨rfl, (by rfl), (by rfl)⟩)

theorem pqc_nil (cap : Nat) (l : Int) (R : RO)  : Gives Tryd.prog 51 [.slice none 0 cap, vi 0, vi 0, vi l, .func (.func 38) #[] #[]] R [] (.ret (.tuple #[])) [] :=
  Does.of_wp_eq (VC := ((Gives Tryd.prog 74 [.slice none 0 cap, vi 0, vi 0, .func (.func 38) #[] #[]] R [] (.ret (.tuple #[])) []) ∧ GQ R (.ret (.tuple #[])) [] (.ret (.tuple #[])) R [])) (ops [.d, .d] (.un 1 (ops [.d, .d, .d, .d, .d, .d, .d, .d, .d, .d, .call0 [] [] (fun e v => .ret (.tuple #[])) (fun e v => [])] (.fin [] [])))) Tryd.func51 (by kernel_rfl) (by kernel_rfl)
    (⟨(insc_nil cap R), ⟨rfl, (by rfl), (by rfl)⟩⟩)

theorem sortF_nil (cap : Nat) (R : RO)  : Gives Tryd.prog 37 [.slice none 0 cap, .func (.func 38) #[] #[]] R [] (.ret (.tuple #[])) [] :=
  Does.of_wp_eq (VC := ((Gives Tryd.prog 44 [.int .u64 0] R [] (.ret (vi ((Sort.bitsLen (Int.toNat 0) : Nat) : Int))) []) ∧ (Gives Tryd.prog 51 [.slice none 0 cap, vi 0, vi 0, vi ((Sort.bitsLen (Int.toNat 0) : Nat) : Int), .func (.func 38) #[] #[]] R [] (.ret (.tuple #[])) []) ∧ GQ R (.ret (.tuple #[])) [] (.ret (.tuple #[])) R [])) (ops [.d, .d, .d, .d, .d, .d, .d, .call0 [] [] (fun e v => .ret (vi ((Sort.bitsLen (Int.toNat 0) : Nat) : Int))) (fun e v => []), .d, .call0 [] [] (fun e v => .ret (.tuple #[])) (fun e v => [])] (.fin [] [])) Tryd.func37 (by kernel_rfl) (by kernel_rfl)
    (⟨(len_ok 0 R (by omega)), ⟨(pqc_nil cap ((Sort.bitsLen (Int.toNat 0) : Nat) : Int) R), ⟨rfl, (by rfl), (by rfl)⟩⟩⟩)

theorem compact_nil (cap : Nat) (R : RO)  : Gives Tryd.prog 39 [.slice none 0 cap] R [] (.ret (.slice none 0 cap)) [] :=
  Does.of_wp_eq (VC := (GQ R (.ret (.slice none 0 cap)) [] (.ret (.slice none 0 cap)) R [])) (ops [.d, .d, .d, .d, .d, .d] (.fin [] [])) Tryd.func39 (by kernel_rfl) (by kernel_rfl)
    (⟨rfl, (by rfl), (by rfl)⟩)


theorem sortF_gs (b : Option Nat) (n cap N : Nat) (d : Array Int) (R : RO) (hd : d.size = n) (hn : n ≤ 1152921504606846976) (hb : b = none → n = 0) :
    Gives Tryd.prog 37 [gsv b n cap, .func (.func 38) #[] #[]] R [gsb b (u32l d) 23 N] (.ret (.tuple #[])) [gsb b (u32l (sortA d)) 23 N] := by
  cases b with
  | none =>
    have := hb rfl
    subst this
    exact gives_none (sortF_nil cap R)
  | some a => exact sortF_ok a n cap N d R hd hn
theorem compact_gs (b : Option Nat) (n cap N : Nat) (d : Array Int) (R : RO) (hd : d.size = n) (hn : n ≤ 1152921504606846976) (hc : n ≤ cap) (hb : b = none → n = 0) :
    GivesX Tryd.prog 39 [gsv b n cap] R [gsb b (u32l d) 23 N] {y : Nat × Array Int // CP d n y.1 y.2} (fun y => (gsv b y.1.1 cap, [gsb b (u32l y.1.2) 23 N])) := by
  cases b with
  | none =>
    have := hb rfl
    subst this
    exact (gives_none (compact_nil cap R)).mono (by rintro o G B hle ⟨rfl, rfl, rfl⟩; exact ⟨rfl, ⟨(0, d), cp_small hd (by omega)⟩, rfl, rfl⟩)
  | some a =>
    have := compact_own a n cap N [] d R hd hn hc
    simp only [List.append_nil] at this
    exact this
structure AX where
  b : Option Nat
  k : Nat
  cap : Nat
  E : Array Int
def AX.ok (xs : List Int) (x : AX) : Prop := CP (sortA xs.toArray) xs.length x.k x.E ∧ xs.length ≤ x.cap ∧ x.cap ≤ maxLen ∧ (x.b = none → x.k = 0)
/-- The atoms of terms, as they are seen; each once, in order. -/
def atL (ts : List T) : List Int := (ts.map fun t => (T.nrm 1 t).atm).flatten
def atS (ts : List T) : List Int := ddA (sortA (atL ts).toArray) (atL ts).length
theorem atL_snoc (ts : List T) (t : T) : atL (ts ++ [t]) = atL ts ++ (T.nrm 1 t).atm := by simp [atL]
theorem atL_len (ts : List T) (h : ∀ t ∈ ts, t.wt ≤ 1000000) : (atL ts).length ≤ ts.length * 1000000 := by
  induction ts with
  | nil => exact Nat.le_refl 0
  | cons a l ih =>
    have h1 := T.atm_len (T.nrm 1 a)
    have h2 := T.wt_nrm 1 a
    have h3 := h a (List.mem_cons_self ..)
    have h4 := ih fun t ht => h t (List.mem_cons_of_mem _ ht)
    show ((T.nrm 1 a).atm ++ atL l).length ≤ (l.length + 1) * 1000000
    rw [List.length_append]; omega
theorem kJ_hp {A : Nat} {pre : List Int} {w : KS} (h : kJ pre w) : [some (A, Blk.row [gsv w.1.1 w.2.1 w.1.2] 54 1), gsb w.1.1 w.2.2 23 (w.1.2 * 1)] = [some (A, .row [gsv w.1.1 pre.length w.1.2] 54 1), gsb w.1.1 (u32l pre.toArray) 23 (w.1.2 * 1)] := by
  rw [h.1, h.2.1]; rfl
theorem ax_ok {ts : Nat → L} {j ln k : Nat} {E : Array Int} {w : KS} (e : j = ln) (h : kJ (atL ((List.range j).map fun i => (ts i).t)) w) (p : CP (sortA (atL ((List.range j).map fun i => (ts i).t)).toArray) (atL ((List.range j).map fun i => (ts i).t)).length k E) :
    AX.ok (atL ((List.range ln).map fun i => (ts i).t)) ⟨w.1.1, k, w.1.2, E⟩ := by
  subst e
  refine ⟨p, h.2.2.2.2.1, h.2.2.2.2.2, fun h7 => ?_⟩
  have h6 := p.2.1
  rw [h.2.2.1.1 h7] at h6
  exact Nat.le_zero.1 h6
theorem tsm {R S : RO} (h : R.le S) {lv : Option Addr} {ln LB LO : Nat} {ts : Nat → L} (hx : ∀ j, j < ln → lv = some ⟨LB, LO, none⟩ ∧ R.cells LB (LO + j * 5) (ts j).row ∧ (ts j).ok R) :
    ∀ j, j < ln → lv = some ⟨LB, LO, none⟩ ∧ S.cells LB (LO + j * 5) (ts j).row ∧ (ts j).ok S := fun j hj => ⟨(hx j hj).1, RO.cells_mono h (hx j hj).2.1, L.ok_mono h _ (hx j hj).2.2⟩
theorem atj_len {ts : Nat → L} {j ln : Nat} (hj : j ≤ ln) (hn : ln ≤ 100) (hw : ∀ i, i < ln → (ts i).t.wt ≤ 1000000) : (atL ((List.range j).map fun i => (ts i).t)).length ≤ j * 1000000 := by
  have := atL_len ((List.range j).map fun i => (ts i).t) (fun t ht => by
    obtain ⟨i, hi, rfl⟩ := List.mem_map.1 ht
    exact hw i (by have := List.mem_range.1 hi; omega))
  simpa using this

noncomputable def atoms_own_L3_inv (lv : Option Addr) (ln lc LB LO : Nat) (ts : Nat → L) (a0 : Nat)  : Nat × KS × NV → St := fun zx => ⟨(.slice lv ln lc :: undef :: .slice none 0 0 :: ptA a0 :: undef :: (zx.2.2 5) :: .slice lv ln lc :: vi (ln : Int) :: vi ((zx.1 : Nat) : Int) :: urun zx.2.2 9 8 (uns 4 [])), [], [some (a0, .row [gsv zx.2.1.1.1 zx.2.1.2.1 zx.2.1.1.2] 54 1), gsb zx.2.1.1.1 zx.2.1.2.2 23 (zx.2.1.1.2 * 1)]⟩
def atoms_own_L3_I (lv : Option Addr) (ln lc LB LO : Nat) (ts : Nat → L) (a0 : Nat)  (R : RO) : Nat × KS × NV → RO → Prop := fun zx G => R.le G ∧ (zx.1 ≤ ln ∧ kJ (atL ((List.range zx.1).map fun i => (ts i).t)) zx.2.1)
def atoms_own_L3_mu (lv : Option Addr) (ln lc LB LO : Nat) (ts : Nat → L) (a0 : Nat)  : Nat × KS × NV → Nat := fun zx => ln - zx.1
noncomputable def atoms_own_L3_K (lv : Option Addr) (ln lc LB LO : Nat) (ts : Nat → L) (a0 : Nat)  (R : RO) : Exit' → St → RO → Prop := altPost R (.altG (Nat × KS × NV) (fun zx G => zx.1 = ln ∧ kJ (atL ((List.range zx.1).map fun i => (ts i).t)) zx.2.1) (fun zx => (.exit 0, ((atoms_own_L3_inv lv ln lc LB LO ts a0 zx).up [] [some (a0, .row [gsv zx.2.1.1.1 ((atL ((List.range zx.1).map fun i => (ts i).t)).length) zx.2.1.1.2] 54 1), gsb zx.2.1.1.1 (u32l (atL ((List.range zx.1).map fun i => (ts i).t)).toArray) 23 (zx.2.1.1.2 * 1)]))) (fun _ => .altn) .altn)
theorem atoms_own_L3_body (lv : Option Addr) (ln lc LB LO : Nat) (ts : Nat → L) (a0 : Nat)  (R0 R : RO) (hle : R0.le R) (hx : ∀ j, j < ln → lv = some ⟨LB, LO, none⟩ ∧ R.cells LB (LO + j * 5) (ts j).row ∧ (ts j).ok R) (hn : ln ≤ 100) (hw : ∀ i, i < ln → (ts i).t.wt ≤ 1000000) (j : Nat) (w : KS) (u1 : Nat → Value) (hI : j ≤ ln ∧ kJ (atL ((List.range j).map fun i => (ts i).t)) w) : CT Tryd.prog (sub (bodyOf Tryd.f22) [1, 1, 0, 1, 0, 0]) (atoms_own_L3_inv lv ln lc LB LO ts a0 (j, w, u1)) R (LK (atoms_own_L3_inv lv ln lc LB LO ts a0) (atoms_own_L3_I lv ln lc LB LO ts a0 R0) (atoms_own_L3_mu lv ln lc LB LO ts a0) (atoms_own_L3_K lv ln lc LB LO ts a0 R0) (j, w, u1)) :=
  CT.of_wp_eq (VC := (let z3 : Hp := [some (a0, .row [gsv w.1.1 w.2.1 w.1.2] 54 1), gsb w.1.1 w.2.2 23 (w.1.2 * 1)]; let z1 : List Value := [vi ((ts j).k), vu ((ts j).id), .string ((ts j).s), .slice (ts j).aa ((ts j).n) ((ts j).ac), .slice (ts j).pa ((ts j).m) ((ts j).pc)]; let z0 : Array Value := #[vi ((ts j).k), vu ((ts j).id), .string ((ts j).s), .slice (ts j).aa ((ts j).n) ((ts j).ac), .slice (ts j).pa ((ts j).m) ((ts j).pc)]; ((decide ((j : Int) < (ln : Int))) = true → (lv = some ⟨LB, LO, none⟩ ∧ (0 : Int) ≤ (j : Int) ∧ ((j : Int) : Int) < (ln : Int)) ∧ (R.cells LB (LO + Int.toNat (j : Int) * 5) z1) ∧ ∀ a53 : Nat, (a53 = a53) ∧ (a53 = a53) ∧ (Does Tryd.prog 18 [.agg z0] R [] (fun r G B => ∃ z54 : L, (z54.ok G ∧ z54.t = T.nrm 1 (ts j).t) ∧ r = .ret (.agg z54.row.toArray) ∧ B = [])) ∧ ∀ (z54 : L) (G55 : RO), let z2 : Array Value := z54.row.toArray; R.le G55 → (z54.ok G55 ∧ z54.t = T.nrm 1 (ts j).t) → (GivesX Tryd.prog 35 [.agg z2, .func (.func 36) #[] #[ptA a0]] G55 z3 ({w2 : KS // kJ ((atL ((List.range j).map fun i => (ts i).t)) ++ z54.t.atm) w2}) (fun k56 => (.tuple #[], [some (a0, .row [gsv k56.1.1.1 k56.1.2.1 k56.1.1.2] 54 1), gsb k56.1.1.1 k56.1.2.2 23 (k56.1.1.2 * 1)]))) ∧ ∀ k56 : {w2 : KS // kJ ((atL ((List.range j).map fun i => (ts i).t)) ++ z54.t.atm) w2}, (NW .i64 ((j : Int) + 1)) ∧ LK (atoms_own_L3_inv lv ln lc LB LO ts a0) (atoms_own_L3_I lv ln lc LB LO ts a0 R0) (atoms_own_L3_mu lv ln lc LB LO ts a0) (atoms_own_L3_K lv ln lc LB LO ts a0 R0) (j, w, u1) .normal ⟨(.slice lv ln lc :: undef :: .slice none 0 0 :: ptA a0 :: undef :: ptA a53 :: .slice lv ln lc :: vi (ln : Int) :: vi ((j : Int) + 1) :: .bool true :: .pointer (some ⟨LB, LO + Int.toNat (j : Int) * 5, none⟩) :: .agg z0 :: .agg z0 :: .agg z2 :: .func (.func 36) #[] #[ptA a0] :: .tuple #[] :: vi ((j : Int) + 1) :: uns 4 []), [], [some (a0, .row [gsv k56.1.1.1 k56.1.2.1 k56.1.1.2] 54 1), gsb k56.1.1.1 k56.1.2.2 23 (k56.1.1.2 * 1), some (a53, .row z1 30 5)]⟩ G55) ∧ ((decide ((j : Int) < (ln : Int))) = false → LK (atoms_own_L3_inv lv ln lc LB LO ts a0) (atoms_own_L3_I lv ln lc LB LO ts a0 R0) (atoms_own_L3_mu lv ln lc LB LO ts a0) (atoms_own_L3_K lv ln lc LB LO ts a0 R0) (j, w, u1) (.exit 0) ((atoms_own_L3_inv lv ln lc LB LO ts a0 (j, w, u1)).up [(9, .bool false)] z3) R))) (ops [.d] (.sp 9 (ops [.ib LB LO, .ro (fun v => [vi ((ts j).k), vu ((ts j).id), .string ((ts j).s), .slice (ts j).aa ((ts j).n) ((ts j).ac), .slice (ts j).pa ((ts j).m) ((ts j).pc)])] (.opn 2 (fun a53 => (ops [.p 2, .p 2] (.opg [] [] (L) (fun z54 G => z54.ok G ∧ z54.t = T.nrm 1 (ts j).t) (fun z54 => (.agg z54.row.toArray, [])) (fun z54 => (ops [.d] (.opx [0, 1] [] ({w2 : KS // kJ ((atL ((List.range j).map fun i => (ts i).t)) ++ z54.t.atm) w2}) (fun k56 => (.tuple #[], [some (a0, .row [gsv k56.1.1.1 k56.1.2.1 k56.1.1.2] 54 1), gsb k56.1.1.1 k56.1.2.2 23 (k56.1.1.2 * 1)])) (fun k56 => (ops [.nw, .d] (.fin [] []))))))))))) (.fin [] []))) (by kernel_rfl)
    (⟨fun h52 => (have := of_decide_eq_true h52; ⟨⟨(hx j (by omega)).1, by omega, by omega⟩, ⟨(hx j (by omega)).2.1, fun a53 => ⟨rfl, ⟨rfl, ⟨(norm_ok (ts j) R (hx j (by omega)).2.2 (hw j (by omega))), fun z54 G55 hG55 qz54 => (have hle := RO.le_trans hle hG55; have hx := tsm hG55 hx; have hI := hI; ⟨(each_ok _ z54 a0 w (atL ((List.range j).map fun i => (ts i).t)) G55 (Nat.le_refl _) qz54.1 (by rw [qz54.2]; exact Nat.le_trans (T.wt_nrm 1 _) (hw j (by omega))) hI.2 (by have h9 := atj_len (ts := ts) (j := j) (ln := ln) (by omega) hn hw; have h8 := T.wt_nrm 1 (ts j).t; have h7 := hw j (by omega); rw [qz54.2]; omega)), fun k56 => ⟨(nwI (by omega) (by omega)), LKn (fun zw => ((j + 1), k56.1, zw)) ⟨⟨hle, (show (j + 1) ≤ ln ∧ kJ (atL ((List.range (j + 1)).map fun i => (ts i).t)) k56.1 from ⟨by omega, kJ_cast k56.2 (by rw [List.range_succ, List.map_append, List.map_singleton, atL_snoc, qz54.2])⟩)⟩, (show ln - (j + 1) < ln - j from (by omega)), ⟨rfl, rfl, rfl⟩⟩⟩⟩)⟩⟩⟩⟩⟩), fun h52 => (have := of_decide_eq_false h52; LKe (altGA (G := R) (fun zw => (j, w, zw)) ⟨(show j = ln ∧ kJ (atL ((List.range j).map fun i => (ts i).t)) w from ⟨by omega, hI.2⟩), (by show _ = _; kernel_rfl), ⟨(by show _ = _; kernel_rfl), (by show _ = _; kernel_rfl), (kJ_hp hI.2)⟩⟩))⟩)
theorem atoms_own_L3_ct (lv : Option Addr) (ln lc LB LO : Nat) (ts : Nat → L) (a0 : Nat)  (R : RO) (hx : ∀ j, j < ln → lv = some ⟨LB, LO, none⟩ ∧ R.cells LB (LO + j * 5) (ts j).row ∧ (ts j).ok R) (hn : ln ≤ 100) (hw : ∀ i, i < ln → (ts i).t.wt ≤ 1000000)  : CT Tryd.prog (sub (bodyOf Tryd.f22) [1, 1, 0, 1, 0]) ⟨(.slice lv ln lc :: undef :: .slice none 0 0 :: ptA a0 :: undef :: undef :: .slice lv ln lc :: vi (ln : Int) :: vi 0 :: uns 12 []), [], [some (a0, .row [.slice none 0 0] 54 1)]⟩ R (atoms_own_L3_K lv ln lc LB LO ts a0 R) :=
  CT.pad 1 <| CT.loop_eqs (atoms_own_L3_inv lv ln lc LB LO ts a0) (atoms_own_L3_I lv ln lc LB LO ts a0 R) (atoms_own_L3_mu lv ln lc LB LO ts a0) (fun zw => (0, ((none, 0), 0, []), zw)) (by kernel_rfl) (by kernel_rfl) ⟨RO.le_refl R, (show 0 ≤ ln ∧ kJ (atL ((List.range 0).map fun i => (ts i).t)) ((none, 0), 0, []) from ⟨Nat.zero_le _, kJ_nil⟩)⟩
    (by
      rintro ⟨j, w, u1⟩ G hG ⟨hle, hI⟩
      have hx := tsm hle hx
      exact atoms_own_L3_body lv ln lc LB LO ts a0 R G hle hx hn hw j w u1 hI)
theorem atoms_own (lv : Option Addr) (ln lc LB LO : Nat) (ts : Nat → L) (R : RO) (hx : ∀ j, j < ln → lv = some ⟨LB, LO, none⟩ ∧ R.cells LB (LO + j * 5) (ts j).row ∧ (ts j).ok R) (hn : ln ≤ 100) (hw : ∀ i, i < ln → (ts i).t.wt ≤ 1000000) : Does Tryd.prog 22 [.slice lv ln lc] R [] (fun (r : Out) (G : RO) (B : Hp) => ∃ x : AX, (x.ok (atL ((List.range ln).map fun i => (ts i).t))) ∧ r = .ret (gsv x.b x.k x.cap) ∧ B = [gsb x.b (u32l x.E) 23 (x.cap * 1)]) :=
  Does.of_wp_eq (VC := (∀ a0 : Nat, (CT Tryd.prog (sub (bodyOf Tryd.f22) [1, 1, 0, 1, 0]) ⟨(.slice lv ln lc :: undef :: .slice none 0 0 :: ptA a0 :: undef :: undef :: .slice lv ln lc :: vi (ln : Int) :: vi 0 :: uns 12 []), [], [some (a0, .row [.slice none 0 0] 54 1)]⟩ R (atoms_own_L3_K lv ln lc LB LO ts a0 R)) ∧ (∀ (x2 : Nat × KS × NV) (G3 : RO), let z0 := (atL ((List.range x2.1).map fun i => (ts i).t)); R.le G3 → (x2.1 = ln ∧ kJ z0 x2.2.1) → (a0 = a0) ∧ (Gives Tryd.prog 37 [gsv x2.2.1.1.1 (z0.length) x2.2.1.1.2, .func (.func 38) #[] #[]] G3 [gsb x2.2.1.1.1 (u32l z0.toArray) 23 (x2.2.1.1.2 * 1)] (.ret (.tuple #[])) [gsb x2.2.1.1.1 (u32l (sortA (z0.toArray))) 23 (x2.2.1.1.2 * 1)]) ∧ (a0 = a0) ∧ (GivesX Tryd.prog 39 [gsv x2.2.1.1.1 (z0.length) x2.2.1.1.2] G3 [gsb x2.2.1.1.1 (u32l (sortA (z0.toArray))) 23 (x2.2.1.1.2 * 1)] ({y : Nat × Array Int // CP (sortA ((atL ((List.range x2.1).map fun i => (ts i).t)).toArray)) ((atL ((List.range x2.1).map fun i => (ts i).t)).length) y.1 y.2}) (fun y8 => (gsv x2.2.1.1.1 y8.1.1 x2.2.1.1.2, [gsb x2.2.1.1.1 (u32l y8.1.2) 23 (x2.2.1.1.2 * 1)]))) ∧ ∀ y8 : {y : Nat × Array Int // CP (sortA ((atL ((List.range x2.1).map fun i => (ts i).t)).toArray)) ((atL ((List.range x2.1).map fun i => (ts i).t)).length) y.1 y.2}, (fun (r : Out) (G : RO) (B : Hp) => ∃ x : AX, (x.ok (atL ((List.range ln).map fun i => (ts i).t))) ∧ r = .ret (gsv x.b x.k x.cap) ∧ B = [gsb x.b (u32l x.E) 23 (x.cap * 1)]) (.ret (gsv x2.2.1.1.1 y8.1.1 x2.2.1.1.2)) G3 [gsb x2.2.1.1.1 (u32l y8.1.2) 23 (x2.2.1.1.2 * 1)]) ∧ True)) (ops [.d] (.opn 0 (fun a0 => (ops [.d, .d, .d] (.altG (Nat × KS × NV) (fun zx G => zx.1 = ln ∧ kJ (atL ((List.range zx.1).map fun i => (ts i).t)) zx.2.1) (fun zx => (.exit 0, ((atoms_own_L3_inv lv ln lc LB LO ts a0 zx).up [] [some (a0, .row [gsv zx.2.1.1.1 ((atL ((List.range zx.1).map fun i => (ts i).t)).length) zx.2.1.1.2] 54 1), gsb zx.2.1.1.1 (u32l (atL ((List.range zx.1).map fun i => (ts i).t)).toArray) 23 (zx.2.1.1.2 * 1)]))) (fun x2 => (ops [.p 0, .call0 [1] [] (fun e v => .ret (.tuple #[])) (fun e v => [gsb x2.2.1.1.1 (u32l (sortA ((atL ((List.range x2.1).map fun i => (ts i).t)).toArray))) 23 (x2.2.1.1.2 * 1)]), .p 0] (.opx [1] [] ({y : Nat × Array Int // CP (sortA ((atL ((List.range x2.1).map fun i => (ts i).t)).toArray)) ((atL ((List.range x2.1).map fun i => (ts i).t)).length) y.1 y.2}) (fun y8 => (gsv x2.2.1.1.1 y8.1.1 x2.2.1.1.2, [gsb x2.2.1.1.1 (u32l y8.1.2) 23 (x2.2.1.1.2 * 1)])) (fun y8 => (ops [.d] (.fin [1] [])))))) .altn))))) Tryd.func22 (by kernel_rfl) (by kernel_rfl)
    (fun a0 => ⟨atoms_own_L3_ct lv ln lc LB LO ts a0 R hx hn hw, ⟨fun x2 G3 hG3 qx2 => (have hx := tsm hG3 hx; ⟨rfl, ⟨(sortF_gs x2.2.1.1.1 ((atL ((List.range x2.1).map fun i => (ts i).t)).length) x2.2.1.1.2 (x2.2.1.1.2 * 1) ((atL ((List.range x2.1).map fun i => (ts i).t)).toArray) G3 (by simp) (by have h9 := atj_len (ts := ts) (j := x2.1) (ln := ln) (by omega) hn hw;  omega) (fun h9 => by rw [qx2.2.2.2.1.1 h9]; rfl)), ⟨rfl, ⟨(compact_gs x2.2.1.1.1 ((atL ((List.range x2.1).map fun i => (ts i).t)).length) x2.2.1.1.2 (x2.2.1.1.2 * 1) (sortA ((atL ((List.range x2.1).map fun i => (ts i).t)).toArray)) G3 (by rw [sortA_size]; simp) (by have h9 := atj_len (ts := ts) (j := x2.1) (ln := ln) (by omega) hn hw;  omega) qx2.2.2.2.2.2.1 (fun h9 => by rw [qx2.2.2.2.1.1 h9]; rfl)), fun y8 => ⟨⟨x2.2.1.1.1, y8.1.1, x2.2.1.1.2, y8.1.2⟩, (ax_ok qx2.1 qx2.2 y8.2), (by rfl), (by rfl)⟩⟩⟩⟩⟩), trivial⟩⟩)
end Go.Proofs.YtejpoojgbnppoaaDoor
namespace Go.Proofs.YtejpoojgbnppoaaDoor
open Vc Go
set_option linter.unusedVariables false
set_option linter.unusedSimpArgs false

/-- A row of numbers that all know. -/
structure U where
  a : Option Addr
  n : Nat
  c : Nat
  B : Nat
  f : Nat → Int
namespace U
def ok (u : U) (R : RO) : Prop := u.n ≤ u.c ∧ u.c ≤ maxLen ∧ ∀ j, j < u.n → u.a = some ⟨u.B, 0, none⟩ ∧ R.cells u.B (0 + j * 1) [vu (u.f j)]
def l (u : U) : List Int := (List.range u.n).map u.f
theorem ok_mono {R S : RO} (h : R.le S) {u : U} (o : u.ok R) : u.ok S := ⟨o.1, o.2.1, fun j hj => ⟨(o.2.2 j hj).1, RO.cells_mono h (o.2.2 j hj).2⟩⟩
theorem l_len (u : U) : u.l.length = u.n := by simp [l]
end U
theorem mem_ddA {d : Array Int} {x : Int} : ∀ {n : Nat}, x ∈ ddA d n ↔ ∃ i, i < n ∧ d[i]! = x
  | 0 => by simp [ddA]
  | 1 => by
    simp only [ddA, List.mem_singleton]
    constructor
    · rintro rfl; exact ⟨0, by omega, rfl⟩
    · rintro ⟨i, hi, rfl⟩
      rw [show i = 0 by omega]
  | n + 2 => by
    have ih := mem_ddA (d := d) (x := x) (n := n + 1)
    rw [ddA]
    split
    · rename_i h
      rw [ih]
      constructor
      · rintro ⟨i, hi, h⟩; exact ⟨i, by omega, h⟩
      · rintro ⟨i, hi, h2⟩
        by_cases e : i = n + 1
        · subst e; exact ⟨n, by omega, by rw [← h]; exact h2⟩
        · exact ⟨i, by omega, h2⟩
    · rw [List.mem_append, ih, List.mem_singleton]
      constructor
      · rintro (⟨i, hi, h⟩ | rfl)
        · exact ⟨i, by omega, h⟩
        · exact ⟨n + 1, by omega, rfl⟩
      · rintro ⟨i, hi, h2⟩
        by_cases e : i = n + 1
        · subst e; exact .inr h2.symm
        · exact .inl ⟨i, by omega, h2⟩
theorem mem_sortA {xs : List Int} {x : Int} : (∃ i, i < xs.length ∧ (sortA xs.toArray)[i]! = x) ↔ x ∈ xs := by
  have hp := List.mergeSort_perm xs (fun x y => decide (x ≤ y))
  have hsz : (sortA xs.toArray).size = xs.length := by rw [sortA_size]; simp
  constructor
  · rintro ⟨i, hi, rfl⟩
    rw [getElem!_pos _ i (by omega)]
    refine hp.mem_iff.1 ?_
    exact Array.getElem_mem_toList ..
  · intro h
    obtain ⟨i, hi, rfl⟩ := List.mem_iff_getElem.1 (hp.mem_iff.2 h)
    have hi' : i < (sortA xs.toArray).size := hi
    exact ⟨i, by omega, by rw [getElem!_pos _ i hi']; rfl⟩
theorem mem_atS {ts : List T} {x : Int} : x ∈ atS ts ↔ ∃ t ∈ ts, x ∈ (T.nrm 1 t).atm := by
  unfold atS
  rw [mem_ddA, mem_sortA]
  unfold atL
  simp only [List.mem_flatten, List.mem_map]
  constructor
  · rintro ⟨l, ⟨t, h1, rfl⟩, h2⟩; exact ⟨t, h1, h2⟩
  · rintro ⟨t, h1, h2⟩; exact ⟨_, ⟨t, h1, rfl⟩, h2⟩
theorem mem_atS1 {t : T} {x : Int} : x ∈ atS [t] ↔ x ∈ (T.nrm 1 t).atm := by rw [mem_atS]; simp
theorem ax_U {G : RO} {xs : List Int} {x : AX} (h : x.ok xs) (hc : ∀ a, x.b = some a → G.cells a 0 (u32l x.E)) : ∃ u : U, (u.ok G ∧ u.l = ddA (sortA xs.toArray) xs.length) ∧ (gsv x.b x.k x.cap : Value) = .slice u.a u.n u.c := by
  obtain ⟨⟨p1, p2, p3⟩, h2, h3, h4⟩ := h
  have hsz : x.E.size = xs.length := by rw [p1]
  refine ⟨⟨x.b.map fun a => ⟨a, 0, none⟩, x.k, x.cap, x.b.getD 0, fun j => x.E[j]!⟩, ⟨⟨by show x.k ≤ x.cap; omega, h3, fun j hj => ?_⟩, ?_⟩, rfl⟩
  · have hj : j < x.k := hj
    cases hb : x.b with
    | none => have := h4 hb; omega
    | some a =>
      refine ⟨rfl, ?_⟩
      refine RO.cells_sub (i := j * 1) (hc a hb) (l := [vu x.E[j]!]) ?_
      have h9 := u32l_get (d := x.E) (i := j) (by omega)
      rw [Nat.mul_one]
      apply List.ext_getElem?
      intro i
      cases i with
      | zero => simpa using h9
      | succ i => simp; omega
  · rw [← p3, take_range _ (by omega)]; rfl
theorem atoms_ok (lv : Option Addr) (ln lc LB LO : Nat) (ts : Nat → L) (R : RO) (hx : ∀ j, j < ln → lv = some ⟨LB, LO, none⟩ ∧ R.cells LB (LO + j * 5) (ts j).row ∧ (ts j).ok R) (hn : ln ≤ 100) (hw : ∀ i, i < ln → (ts i).t.wt ≤ 1000000) :
    Does Tryd.prog 22 [.slice lv ln lc] R [] (fun r G B => ∃ u : U, (u.ok G ∧ u.l = atS ((List.range ln).map fun i => (ts i).t)) ∧ r = .ret (.slice u.a u.n u.c) ∧ B = []) := by
  refine (Does.freeze (X := AX) (q := fun x G => x.ok (atL ((List.range ln).map fun i => (ts i).t))) (g := fun x => (gsv x.b x.k x.cap, [gsb x.b (u32l x.E) 23 (x.cap * 1)])) (atoms_own lv ln lc LB LO ts R hx hn hw)).mono ?_
  rintro o G B hle ⟨x, G0, h0, q1, hc, rfl, rfl⟩
  obtain ⟨u, hu, e⟩ := ax_U q1 (fun a ha => hc 0 a _ 23 _ (by show Hp.at [gsb x.b _ 23 _] 0 = _; rw [ha]; rfl))
  exact ⟨u, hu, by rw [e], rfl⟩
theorem atomsZ (a : Nat) (zs : List L) (R : RO) (hz : ∀ z ∈ zs, z.ok R ∧ z.t.wt ≤ 1000000) (hn : zs.length ≤ 100) :
    Does Tryd.prog 22 [slA a zs.length zs.length] R [some (a, .row (rowsL zs) 30 (zs.length * 5))] (fun r G B => ∃ u : U, (u.ok G ∧ u.l = atS (zs.map L.t)) ∧ r = .ret (.slice u.a u.n u.c) ∧ B = [none]) :=
  (Does.give fun S hS hc => atoms_ok (some ⟨a, 0, none⟩) zs.length zs.length a 0 (zat zs) S (fun j hj => by
      rw [zat_get hj]
      exact ⟨rfl, RO.cells_sub (i := j * 5) hc (l := zs[j].row) (rowsL_at hj), L.ok_mono hS _ (hz _ (List.getElem_mem ..)).1⟩) hn (fun i hi => by rw [zat_get hi]; exact (hz _ (List.getElem_mem ..)).2)).mono (by
    rintro o G B hle ⟨B', rfl, u, ⟨h1, h2⟩, rfl, rfl⟩
    have e : ((List.range zs.length).map fun i => (zat zs i).t) = zs.map L.t := by
      apply List.ext_getElem (by simp)
      intro i h1 h2
      simp at h1 h2 ⊢
      rw [zat_get h2]
    rw [e] at h2
    exact ⟨u, ⟨h1, h2⟩, rfl, rfl⟩)
theorem atoms1 (a : Nat) (y : L) (R : RO) (hy : y.ok R) (hw : y.t.wt ≤ 1000000) :
    Does Tryd.prog 22 [slA a 1 1] R [some (a, .row y.row 30 5)] (fun r G B => ∃ u : U, (u.ok G ∧ u.l = atS [y.t]) ∧ r = .ret (.slice u.a u.n u.c) ∧ B = [none]) := by
  have h := atomsZ a [y] R (fun z hz => by rcases List.mem_singleton.1 hz with rfl; exact ⟨hy, hw⟩) (by simp)
  rw [show rowsL [y] = y.row by simp [rowsL]] at h
  exact h


theorem eql_step {u v : U} {j i : Nat} (h : ∀ i, i < j → u.f i = v.f i) (pf : (u.f j != v.f j) = false) (hi : i < j + 1) : u.f i = v.f i := by
  by_cases e : i = j
  · subst e; simpa using pf
  · exact h i (by omega)
theorem eql_n {u v : U} (h : ¬ u.n = v.n) : decide (u.l = v.l) = false := decide_eq_false fun e => h (by have := congrArg List.length e; simpa [U.l_len] using this)
theorem eql_t {u v : U} (hn : u.n = v.n) (h : ∀ i, i < u.n → u.f i = v.f i) : decide (u.l = v.l) = true := decide_eq_true (by
  unfold U.l; rw [← hn]; exact List.map_congr_left fun i hi => h i (List.mem_range.1 hi))
theorem eql_f {u v : U} {j : Nat} (hn : u.n = v.n) (h : j < u.n ∧ u.f j ≠ v.f j) : decide (u.l = v.l) = false := decide_eq_false fun e => h.2 (by
  have := congrArg (·[j]?) e
  simpa [U.l, h.1, show j < v.n by omega] using this)

noncomputable def equal_ok_L4_inv (u q2 : U)  : Nat × NV → St := fun zx => ⟨(.slice u.a u.n u.c :: .slice q2.a q2.n q2.c :: undef :: undef :: (zx.2 4) :: (zx.2 5) :: .slice u.a u.n u.c :: vi (u.n : Int) :: .slice q2.a q2.n q2.c :: vi (q2.n : Int) :: .bool false :: .slice u.a u.n u.c :: vi (u.n : Int) :: vi ((zx.1 : Nat) : Int) :: urun zx.2 14 12 []), [], []⟩
def equal_ok_L4_I (u q2 : U)  (R : RO) : Nat × NV → RO → Prop := fun zx G => G = R ∧ (zx.1 ≤ u.n ∧ ∀ i, i < zx.1 → u.f i = q2.f i)
def equal_ok_L4_mu (u q2 : U)  : Nat × NV → Nat := fun zx => u.n - zx.1
noncomputable def equal_ok_L4_K (u q2 : U)  (R : RO) : Exit' → St → RO → Prop := altPost R (.alt (Nat × NV) (fun zx => ∀ i, i < u.n → u.f i = q2.f i) (fun zx => (.exit 0, ((equal_ok_L4_inv u q2 zx).up [] []))) (fun _ => .altn) (.alt (Nat × NV) (fun zx => zx.1 < u.n ∧ u.f zx.1 ≠ q2.f zx.1) (fun zx => (.ret, ((equal_ok_L4_inv u q2 zx).up [(4, .bool false)] []))) (fun _ => .altn) .altn))
theorem equal_ok_L4_body (u q2 : U)  (R : RO) (hu : u.ok R) (hq2 : q2.ok R) (hn : u.n = q2.n) (j : Nat) (u1 : Nat → Value) (hI : j ≤ u.n ∧ ∀ i, i < j → u.f i = q2.f i) : CT Tryd.prog (sub (bodyOf Tryd.f21) [1, 1, 0, 1, 0, 0]) (equal_ok_L4_inv u q2 (j, u1)) R (LK (equal_ok_L4_inv u q2) (equal_ok_L4_I u q2 R) (equal_ok_L4_mu u q2) (equal_ok_L4_K u q2 R) (j, u1)) :=
  CT.of_wp_eq (VC := (((decide ((j : Int) < (u.n : Int))) = true → (u.a = some ⟨u.B, 0, none⟩ ∧ (0 : Int) ≤ (j : Int) ∧ ((j : Int) : Int) < (u.n : Int)) ∧ (R.cells u.B (0 + Int.toNat (j : Int) * 1) [vu (u.f j)]) ∧ (q2.a = some ⟨q2.B, 0, none⟩ ∧ (0 : Int) ≤ (j : Int) ∧ ((j : Int) : Int) < (q2.n : Int)) ∧ (R.cells q2.B (0 + Int.toNat (j : Int) * 1) [vu (q2.f j)]) ∧ (((u.f j) != (q2.f j)) = true → LK (equal_ok_L4_inv u q2) (equal_ok_L4_I u q2 R) (equal_ok_L4_mu u q2) (equal_ok_L4_K u q2 R) (j, u1) (.ret) ((equal_ok_L4_inv u q2 (j, u1)).up [(4, .bool false), (5, vi (j : Int)), (14, .bool true), (15, vi (j : Int)), (16, .slice u.a u.n u.c), (17, vi (j : Int)), (18, .pointer (some ⟨u.B, 0 + Int.toNat (j : Int) * 1, none⟩)), (19, vu (u.f j)), (20, .slice q2.a q2.n q2.c), (21, vi (j : Int)), (22, .pointer (some ⟨q2.B, 0 + Int.toNat (j : Int) * 1, none⟩)), (23, vu (q2.f j)), (24, .bool true)] []) R) ∧ (((u.f j) != (q2.f j)) = false → (NW .i64 ((j : Int) + 1)) ∧ LK (equal_ok_L4_inv u q2) (equal_ok_L4_I u q2 R) (equal_ok_L4_mu u q2) (equal_ok_L4_K u q2 R) (j, u1) .normal ⟨[.slice u.a u.n u.c, .slice q2.a q2.n q2.c, undef, undef, (u1 4), vi (j : Int), .slice u.a u.n u.c, vi (u.n : Int), .slice q2.a q2.n q2.c, vi (q2.n : Int), .bool false, .slice u.a u.n u.c, vi (u.n : Int), vi ((j : Int) + 1), .bool true, vi (j : Int), .slice u.a u.n u.c, vi (j : Int), .pointer (some ⟨u.B, 0 + Int.toNat (j : Int) * 1, none⟩), vu (u.f j), .slice q2.a q2.n q2.c, vi (j : Int), .pointer (some ⟨q2.B, 0 + Int.toNat (j : Int) * 1, none⟩), vu (q2.f j), .bool false, vi ((j : Int) + 1)], [], []⟩ R)) ∧ ((decide ((j : Int) < (u.n : Int))) = false → LK (equal_ok_L4_inv u q2) (equal_ok_L4_I u q2 R) (equal_ok_L4_mu u q2) (equal_ok_L4_K u q2 R) (j, u1) (.exit 0) ((equal_ok_L4_inv u q2 (j, u1)).up [(14, .bool false)] []) R))) (ops [.d] (.sp 14 (ops [.d, .d] (.dr [some (.d), some (.d), some (.ib u.B 0), some (.ro (fun v => [vu (u.f j)])), some (.d), some (.d), some (.ib q2.B 0), some (.ro (fun v => [vu (q2.f j)])), some (.d)] (.sp 24 (ops [.d] (.fin [] [])) (ops [.nw, .d] (.fin [] []))))) (.fin [] []))) (by kernel_rfl)
    (⟨fun h52 => (have := of_decide_eq_true h52; ⟨⟨(hu.2.2 j (by omega)).1, by omega, by have h9 := hu.1; omega⟩, ⟨(hu.2.2 j (by omega)).2, ⟨⟨(hq2.2.2 j (by omega)).1, by omega, by have h9 := hq2.1; omega⟩, ⟨(hq2.2.2 j (by omega)).2, ⟨fun h53 => (have := bne_iff_ne.1 h53; Or.inr (altA (fun zw => (j, zw)) ⟨(show j < u.n ∧ u.f j ≠ q2.f j from ⟨by omega, by simpa using h53⟩), (by show _ = _; kernel_rfl), ⟨(by show _ = _; kernel_rfl), (by show _ = _; kernel_rfl), (by show _ = _; kernel_rfl)⟩⟩)), fun h53 => (have := bne_eq_false_iff_eq.1 h53; ⟨(nwI (by have h9 := hu.2.1; have h8 := hu.1; simp only [maxLen] at h9; omega) (by have h9 := hu.2.1; have h8 := hu.1; simp only [maxLen] at h9; omega)), LKn (fun zw => ((j + 1), zw)) ⟨⟨rfl, (show (j + 1) ≤ u.n ∧ ∀ i, i < (j + 1) → u.f i = q2.f i from ⟨by omega, fun i hi => eql_step hI.2 h53 hi⟩)⟩, (show u.n - (j + 1) < u.n - j from (by omega)), ⟨rfl, rfl, rfl⟩⟩⟩)⟩⟩⟩⟩⟩), fun h52 => (have := of_decide_eq_false h52; altA (fun zw => (j, zw)) ⟨(show ∀ i, i < u.n → u.f i = q2.f i from (fun i hi => hI.2 i (by omega))), (by show _ = _; kernel_rfl), ⟨(by show _ = _; kernel_rfl), (by show _ = _; kernel_rfl), (by show _ = _; kernel_rfl)⟩⟩)⟩)
theorem equal_ok_L4_ct (u q2 : U)  (R : RO) (hu : u.ok R) (hq2 : q2.ok R) (hn : u.n = q2.n)  : CT Tryd.prog (sub (bodyOf Tryd.f21) [1, 1, 0, 1, 0]) ⟨(.slice u.a u.n u.c :: .slice q2.a q2.n q2.c :: undef :: undef :: .bool false :: undef :: .slice u.a u.n u.c :: vi (u.n : Int) :: .slice q2.a q2.n q2.c :: vi (q2.n : Int) :: .bool false :: .slice u.a u.n u.c :: vi (u.n : Int) :: vi 0 :: uns 12 []), [], []⟩ R (equal_ok_L4_K u q2 R) :=
  CT.loop_eqs (equal_ok_L4_inv u q2) (equal_ok_L4_I u q2 R) (equal_ok_L4_mu u q2) (fun zw => (0, zw)) (by kernel_rfl) (by kernel_rfl) ⟨rfl, (show 0 ≤ u.n ∧ ∀ i, i < 0 → u.f i = q2.f i from ⟨Nat.zero_le _, fun i hi => by omega⟩)⟩
    (by
      rintro ⟨j, u1⟩ G hG ⟨rfl, hI⟩
      exact equal_ok_L4_body u q2 _ hu hq2 hn j u1 hI)
theorem equal_ok (u q2 : U) (R : RO) (hu : u.ok R) (hq2 : q2.ok R) : Gives Tryd.prog 21 [.slice u.a u.n u.c, .slice q2.a q2.n q2.c] R [] (.ret (.bool (decide (u.l = q2.l)))) [] :=
  Does.of_wp_eq (VC := ((((u.n : Int) != (q2.n : Int)) = true → GQ R (.ret (.bool (decide (u.l = q2.l)))) [] (.ret (.bool false)) R []) ∧ (((u.n : Int) != (q2.n : Int)) = false → (CT Tryd.prog (sub (bodyOf Tryd.f21) [1, 1, 0, 1, 0]) ⟨(.slice u.a u.n u.c :: .slice q2.a q2.n q2.c :: undef :: undef :: .bool false :: undef :: .slice u.a u.n u.c :: vi (u.n : Int) :: .slice q2.a q2.n q2.c :: vi (q2.n : Int) :: .bool false :: .slice u.a u.n u.c :: vi (u.n : Int) :: vi 0 :: uns 12 []), [], []⟩ R (equal_ok_L4_K u q2 R)) ∧ (∀ x2 : Nat × NV, (∀ i, i < u.n → u.f i = q2.f i) → GQ R (.ret (.bool (decide (u.l = q2.l)))) [] (.ret (.bool true)) R []) ∧ ((∀ x3 : Nat × NV, (x3.1 < u.n ∧ u.f x3.1 ≠ q2.f x3.1) → GQ R (.ret (.bool (decide (u.l = q2.l)))) [] (.ret (.bool false)) R []) ∧ True)))) (ops [.d, .d, .d, .d, .d, .d] (.sp 10 (ops [.d] (.fin [] [])) (ops [.d, .d, .d] (.alt (Nat × NV) (fun zx => ∀ i, i < u.n → u.f i = q2.f i) (fun zx => (.exit 0, ((equal_ok_L4_inv u q2 zx).up [] []))) (fun x2 => (ops [.d] (.fin [] []))) (.alt (Nat × NV) (fun zx => zx.1 < u.n ∧ u.f zx.1 ≠ q2.f zx.1) (fun zx => (.ret, ((equal_ok_L4_inv u q2 zx).up [(4, .bool false)] []))) (fun x3 => (.fin [] [])) .altn))))) Tryd.func21 (by kernel_rfl) (by kernel_rfl)
    (⟨fun h0 => (have := bne_iff_ne.1 h0; ⟨rfl, (by exact congrArg (fun z => Out.ret (.bool z)) (eql_n (by omega)).symm), (by rfl)⟩), fun h0 => (have := bne_eq_false_iff_eq.1 h0; ⟨equal_ok_L4_ct u q2 R hu hq2 (by omega), ⟨fun x2 qx2 => ⟨rfl, (by exact congrArg (fun z => Out.ret (.bool z)) (eql_t (by omega) qx2).symm), (by rfl)⟩, ⟨fun x3 qx3 => ⟨rfl, (by exact congrArg (fun z => Out.ret (.bool z)) (eql_f (by omega) qx3).symm), (by rfl)⟩, trivial⟩⟩⟩)⟩)
end Go.Proofs.YtejpoojgbnppoaaDoor
