import Derived.Test.YtejpoojgbnppoaaDoorVcB
/- Vc, part C: calls, and a piece of code's condition by its text and a script. -/
set_option linter.unusedVariables false
set_option linter.unusedSimpArgs false
namespace Vc
open Go

/-! ## Calls -/

def zipU : List Nat → Hp → Upd
  | [], _ => []
  | i :: is, [] => (i, none) :: zipU is []
  | i :: is, b :: bs => (i, b) :: zipU is bs

def freshN (H : Hp) : List Nat → Bool
  | [] => true
  | i :: is => match H.at i with
    | none => freshN H is
    | some _ => false

def memN (i : Nat) : List Nat → Bool
  | [] => false
  | j :: js => match Nat.beq i j with
    | true => true
    | false => memN i js

def nodupN : List Nat → Bool
  | [] => true
  | i :: is => match memN i is with
    | true => false
    | false => nodupN is

theorem memN_iff {i : Nat} : ∀ {l : List Nat}, memN i l = true ↔ i ∈ l
  | [] => by simp [memN]
  | j :: js => by
    simp only [memN, List.mem_cons]
    cases h : Nat.beq i j with
    | true => simp [Nat.eq_of_beq_eq_true h]
    | false =>
      simp only [memN_iff (l := js)]
      have : i ≠ j := Nat.ne_of_beq_eq_false h
      simp [this]

theorem nodupN_spec : ∀ {l : List Nat}, nodupN l = true → l.Nodup
  | [], _ => by simp
  | i :: is, h => by
    simp only [nodupN] at h
    cases hm : memN i is with
    | true => simp [hm] at h
    | false =>
      simp [hm] at h
      have : ¬ i ∈ is := fun h' => by rw [memN_iff.2 h'] at hm; cases hm
      exact List.nodup_cons.2 ⟨this, nodupN_spec h⟩

theorem freshN_spec {H : Hp} : ∀ {l : List Nat}, freshN H l = true → ∀ i ∈ l, H.at i = none
  | [], _, i, hi => by cases hi
  | j :: js, h, i, hi => by
    simp only [freshN] at h
    cases hj : H.at j with
    | some x => simp [hj] at h
    | none =>
      simp [hj] at h
      cases hi with
      | head => exact hj
      | tail _ hm => exact freshN_spec h i hm

theorem Hp.at_getElem : ∀ (H : Hp) (n : Nat), H.at n = (H[n]?).getD none
  | [], n => by simp [Hp.at_nil]
  | x :: l, 0 => by simp [Hp.at]
  | x :: l, n + 1 => by simp [Hp.at, Hp.at_getElem l n]

/-- What lies at a name behind a call. -/
theorem upds_zip_not {i : Nat} : ∀ (ns : List Nat) (H B : Hp), i ∉ ns → (H.upds (zipU ns B)).at i = H.at i
  | [], H, B, h => rfl
  | n :: ns, H, [], h => by
    simp only [zipU, Hp.upds]
    rw [upds_zip_not ns _ [] (fun hm => h (List.mem_cons_of_mem _ hm)), Hp.at_put_ne]
    intro he; exact h (he ▸ List.mem_cons_self ..)
  | n :: ns, H, b :: bs, h => by
    simp only [zipU, Hp.upds]
    rw [upds_zip_not ns _ bs (fun hm => h (List.mem_cons_of_mem _ hm)), Hp.at_put_ne]
    intro he; exact h (he ▸ List.mem_cons_self ..)

theorem upds_zip_at : ∀ (ns : List Nat) (H B : Hp) (j i : Nat), ns.Nodup → ns[j]? = some i → (H.upds (zipU ns B)).at i = Hp.at B j
  | [], H, B, j, i, _, hj => by simp at hj
  | n :: ns, H, [], j, i, hd, hj => by
    rw [List.nodup_cons] at hd
    simp only [zipU, Hp.upds]
    cases j with
    | zero =>
      simp at hj; subst hj
      rw [upds_zip_not ns _ [] hd.1, Hp.at_put_same, Hp.at_nil]
    | succ j =>
      rw [upds_zip_at ns _ [] j i hd.2 (by simpa using hj), Hp.at_nil, Hp.at_nil]
  | n :: ns, H, b :: bs, j, i, hd, hj => by
    rw [List.nodup_cons] at hd
    simp only [zipU, Hp.upds]
    cases j with
    | zero =>
      simp at hj; subst hj
      rw [upds_zip_not ns _ bs hd.1, Hp.at_put_same]; rfl
    | succ j =>
      rw [upds_zip_at ns _ bs j i hd.2 (by simpa using hj)]; rfl

open Classical in
/-- What else is owned, as it lies. -/
noncomputable def others (H : Hp) (fp : List Nat) (w : World) (Rx : RO) : RO := ⟨fun b =>
    match Rx.mem b with
    | some o => some o
    | none => if ∃ i B, i ∉ fp ∧ H.at i = some (b, B) then w.heap[b]? else none, Rx.os, Rx.tape, Rx.out⟩

open Classical in
noncomputable def without (H : Hp) (fp : List Nat) (Rx : RO) : RO := ⟨fun b =>
    if ∃ i B, i ∉ fp ∧ H.at i = some (b, B) then none else Rx.mem b, Rx.os, Rx.tape, Rx.out⟩

open Classical in
theorem others_mem (H : Hp) (fp : List Nat) (w : World) (Rx : RO) (b : Nat) : (others H fp w Rx).mem b =
    match Rx.mem b with
    | some o => some o
    | none => if ∃ i B, i ∉ fp ∧ H.at i = some (b, B) then w.heap[b]? else none := rfl
open Classical in
theorem without_mem (H : Hp) (fp : List Nat) (Rx : RO) (b : Nat) : (without H fp Rx).mem b = if ∃ i B, i ∉ fp ∧ H.at i = some (b, B) then none else Rx.mem b := rfl

theorem at_map_fp {H : Hp} : ∀ {fp : List Nat} {j : Nat} {a : Nat} {B : Blk}, Hp.at (fp.map H.at) j = some (a, B) → ∃ i, fp[j]? = some i ∧ H.at i = some (a, B)
  | [], j, a, B, h => by simp [Hp.at_nil] at h
  | i :: is, 0, a, B, h => ⟨i, rfl, h⟩
  | i :: is, j + 1, a, B, h => by
    simp only [List.map_cons, Hp.at] at h
    obtain ⟨k, h1, h2⟩ := at_map_fp h
    exact ⟨k, by simpa using h1, h2⟩

/-- A step, with what it is handed of what is owned. -/
theorem frame_gen {ε : Type} {T : (ε → World → Prop) → Prop} (hm : ∀ K K' : ε → World → Prop, T K → (∀ e w', K e w' → K' e w') → T K') {fin : Out → ε} {R : RO} {H : Hp} {fp nn : List Nat} {Q : Out → RO → Hp → Prop} {w : World}
    (hd : (fp ++ nn).Nodup) (hnn : ∀ i ∈ nn, H.at i = none)
    (hdoes : ∀ Rx, R.le Rx → Sat w Rx (fp.map H.at) → T fun e w' => ∃ o G B Rx', e = fin o ∧ Q o G B ∧ Ext R Rx G Rx' ∧ Sat w' Rx' B) {Rx : RO} (hR : R.le Rx) (hs : Sat w Rx H) :
    T fun e w' => ∃ o G B Rx', e = fin o ∧ Q o G B ∧ Ext R Rx G Rx' ∧ Sat w' Rx' (H.upds (zipU (fp ++ nn) B)) := by
  have hdfp : fp.Nodup := (List.nodup_append.1 hd).1
  have hinj : ∀ (j k i : Nat), fp[j]? = some i → fp[k]? = some i → j = k := fun j k i hj hk => by
    have h1 : j < fp.length := by
      rcases Nat.lt_or_ge j fp.length with h | h
      · exact h
      · simp [List.getElem?_eq_none h] at hj
    exact (List.getElem?_inj h1 hdfp).1 (hj.trans hk.symm)
  have hother : ∀ b, (∃ i B, i ∉ fp ∧ H.at i = some (b, B)) → Rx.mem b = none ∧ ∃ o, w.heap[b]? = some o := fun b ⟨i, B, h1, h2⟩ => by
    refine ⟨hs.off i b B h2, ?_⟩
    have := Blk.at_lt (hs.own i b B h2)
    exact ⟨_, Array.getElem?_eq_getElem this⟩
  have hRc : Rx.le (others H fp w Rx) := ⟨fun b o hb => by simp [others, hb], rfl, rfl, rfl⟩
  have hsat : Sat w (others H fp w Rx) (fp.map H.at) := by
    refine ⟨fun b o hb => ?_, fun j a B hj => ?_, fun j a B hj => ?_, fun j k a B C hj hk => ?_, hs.os, hs.tape, hs.out⟩
    · rw [others_mem] at hb
      cases hx : Rx.mem b with
      | some o' => simp [hx] at hb; subst hb; exact hs.ro b o' hx
      | none =>
        simp only [hx] at hb
        split at hb
        · exact hb
        · cases hb
    · obtain ⟨i, h1, h2⟩ := at_map_fp hj
      exact hs.own i a B h2
    · obtain ⟨i, h1, h2⟩ := at_map_fp hj
      rw [others_mem]
      rw [hs.off i a B h2]
      simp only
      rw [if_neg]
      rintro ⟨i', B', h3, h4⟩
      have := hs.one _ _ _ _ _ h2 h4
      subst this
      exact h3 (List.mem_of_getElem? h1)
    · obtain ⟨i, h1, h2⟩ := at_map_fp hj
      obtain ⟨i', h3, h4⟩ := at_map_fp hk
      have := hs.one _ _ _ _ _ h2 h4
      subst this
      exact hinj _ _ _ h1 h3
  refine hm _ _ (hdoes (others H fp w Rx) (RO.le_trans hR hRc) hsat) ?_
  rintro e w' ⟨o, G, B, Rx', he, hq, hx, hs'⟩
  have hsome : ∀ b, (∃ i B, i ∉ fp ∧ H.at i = some (b, B)) → Rx'.mem b = w.heap[b]? ∧ w'.heap[b]? = w.heap[b]? ∧ Rx'.mem b ≠ none := fun b hb => by
    obtain ⟨h1, o', h2⟩ := hother b hb
    have h3 : (others H fp w Rx).mem b = some o' := by
      rw [others_mem]
      rw [h1]; simp only; rw [if_pos hb, h2]
    have h4 := hx.lex.mem b o' h3
    exact ⟨by rw [h4, h2], by rw [hs'.ro b o' h4, h2], by rw [h4]; simp⟩
  refine ⟨o, G, B, without H fp Rx', he, hq, ⟨hx.le, ⟨fun b o' hb => ?_, hx.lex.os, hx.lex.tape, hx.lex.out⟩, ⟨fun b o' hb => ?_, hx.leg.os, hx.leg.tape, hx.leg.out⟩, fun b hb => ?_⟩, ?_⟩
  · rw [without_mem]
    rw [if_neg]
    · exact hx.lex.mem b o' (hRc.mem b o' hb)
    · intro hb'; rw [(hother b hb').1] at hb; cases hb
  · rw [without_mem]
    rw [if_neg]
    · exact hx.leg.mem b o' hb
    · intro hb'
      obtain ⟨h1, o'', h2⟩ := hother b hb'
      have h3 : (others H fp w Rx).mem b = some o'' := by
        rw [others_mem]
        rw [h1]; simp only; rw [if_pos hb', h2]
      rcases hx.own b (by rw [hb]; simp) with h4 | h4
      · cases hr : R.mem b with
        | none => exact h4 hr
        | some x => rw [hR.mem b x hr] at h1; cases h1
      · rw [h3] at h4; cases h4
  · rcases hx.own b hb with h4 | h4
    · exact .inl h4
    · right
      cases hr : Rx.mem b with
      | none => rfl
      | some x => rw [hRc.mem b x hr] at h4; cases h4
  · have hcase : ∀ i a C, (H.upds (zipU (fp ++ nn) B)).at i = some (a, C) → (∃ j, (fp ++ nn)[j]? = some i ∧ Hp.at B j = some (a, C)) ∨ (i ∉ fp ∧ i ∉ nn ∧ H.at i = some (a, C)) := by
      intro i a C hi
      by_cases hm : i ∈ fp ++ nn
      · obtain ⟨j, hj⟩ := List.getElem?_of_mem hm
        rw [upds_zip_at _ _ _ j i hd hj] at hi
        exact .inl ⟨j, hj, hi⟩
      · rw [upds_zip_not _ _ _ hm] at hi
        simp at hm
        exact .inr ⟨hm.1, hm.2, hi⟩
    refine ⟨fun b o' hb => ?_, fun i a C hi => ?_, fun i a C hi => ?_, fun i k a C D hi hk => ?_, hs'.os, hs'.tape, hs'.out⟩
    · rw [without_mem] at hb
      split at hb
      · cases hb
      · exact hs'.ro b o' hb
    · rcases hcase i a C hi with ⟨j, h1, h2⟩ | ⟨h1, h2, h3⟩
      · exact hs'.own j a C h2
      · exact Blk.at_heap (hs.own i a C h3) (hsome a ⟨i, C, h1, h3⟩).2.1
    · rcases hcase i a C hi with ⟨j, h1, h2⟩ | ⟨h1, h2, h3⟩
      · rw [without_mem]
        split
        · rfl
        · exact hs'.off j a C h2
      · rw [without_mem]
        rw [if_pos ⟨i, C, h1, h3⟩]
    · rcases hcase i a C hi with ⟨j, h1, h2⟩ | ⟨h1, h2, h3⟩ <;> rcases hcase k a D hk with ⟨j', h4, h5⟩ | ⟨h4, h5, h6⟩
      · have := hs'.one _ _ _ _ _ h2 h5
        subst this
        rw [h1] at h4
        exact Option.some.inj h4
      · exact ((hsome a ⟨k, D, h4, h6⟩).2.2 (hs'.off j a C h2)).elim
      · exact ((hsome a ⟨i, C, h1, h3⟩).2.2 (hs'.off j' a D h5)).elim
      · exact hs.one _ _ _ _ _ h3 h6

/-- A call, with what it is handed of what is owned. -/
theorem call_frame {P : Program} {f : FuncId} {args : List Value} {R : RO} {H : Hp} {fp nn : List Nat} {Q : Out → RO → Hp → Prop}
    (hd : (fp ++ nn).Nodup) (hnn : ∀ i ∈ nn, H.at i = none) (hdoes : Does P f args R (fp.map H.at) Q) {Rx : RO} {w : World} (hR : R.le Rx) (hs : Sat w Rx H) :
    Calls P f args.toArray w fun e w' => ∃ o G B Rx', e = o.fin ∧ Q o G B ∧ Ext R Rx G Rx' ∧ Sat w' Rx' (H.upds (zipU (fp ++ nn) B)) :=
  frame_gen (T := fun K => Calls P f args.toArray w K) (fun _ _ h hk => h.mono hk) hd hnn (fun Rx hR hs => hdoes Rx w hR hs) hR hs

/-! ## Operations of Go's own on slices and maps -/

inductive PC where
  | app (t u ty : TypeId) (s x : Value)
  | cpy (t u ty : TypeId) (d s : Value)
  | len (t ty : TypeId) (x : Value)
  | del (t u ty : TypeId) (m k : Value)
  | clr (t ty : TypeId) (x : Value)
  | mks (t : TypeId) (l c : Value)
  | look (t : TypeId) (m k : Value) (ok : Bool)
  | mup (t : TypeId) (m k v : Value)
  | cnv (t u : TypeId) (x : Value)
  | slc (t : TypeId) (x : Value) (lo hi mx : Option Value)
  | ars (t : TypeId) (x : Value)
  | bld (t : TypeId) (ps : List (Nat × Value))
  | rng (t : TypeId) (x : Value)
  | nxt (t : TypeId) (x : Value) (b : Bool)
  | ent (x : Value)

def PC.sem : PC → Sem Value
  | .app t u ty s x => Builtin.append_ #[t, u] ty #[s, x]
  | .cpy t u ty d s => Builtin.copy_ #[t, u] ty #[d, s]
  | .len t ty x => Builtin.len_ #[t] ty #[x]
  | .del t u ty m k => Builtin.delete_ #[t, u] ty #[m, k]
  | .clr t ty x => Builtin.clear_ #[t] ty #[x]
  | .mks t l c => Instr.makeSlice t l c
  | .look t m k ok => Instr.lookup t m k ok
  | .mup t m k v => do Instr.mapUpdate t m k v; pure undef
  | .cnv t u x => convert t u x
  | .slc t x lo hi mx => Instr.sliceAt t x lo hi mx
  | .ars t x => Instr.arrayAt t x
  | .bld t ps => Instr.build t ps.toArray
  | .rng t x => Instr.range t x
  | .nxt t x b => Instr.next x b t
  | .ent x => Instr.entry x

def pcOf (ρ : Operand → Value) (o : Oper) : Option PC := match o.op with
  | .makeSlice t l c => some (.mks t (ρ l) (ρ c))
  | .lookup t m k ok => some (.look t (ρ m) (ρ k) ok)
  | .mapUpdate t m k v => some (.mup t (ρ m) (ρ k) (ρ v))
  | .convert t u x => some (.cnv t u (ρ x))
  | .slice t x lo hi mx => some (.slc t (ρ x) (lo.map ρ) (hi.map ρ) (mx.map ρ))
  | .sliceToArrayPointer t x => some (.ars t (ρ x))
  | .build t ⟨ps⟩ => some (.bld t (ps.map fun p => (p.1, ρ p.2)))
  | .range t x => some (.rng t (ρ x))
  | .next x b => some (.nxt o.type (ρ x) b)
  | .entry x => some (.ent (ρ x))
  | .call ⟨.builtin b, ⟨args⟩, ⟨ts⟩⟩ => match b, args, ts with
    | .append, [s, x], [t, u] => some (.app t u o.type (ρ s) (ρ x))
    | .copy, [s, x], [t, u] => some (.cpy t u o.type (ρ s) (ρ x))
    | .len, [x], [t] => some (.len t o.type (ρ x))
    | .delete, [s, x], [t, u] => some (.del t u o.type (ρ s) (ρ x))
    | .clear, [x], [t] => some (.clr t o.type (ρ x))
    | _, _, _ => none
  | _ => none

def unskip : Next → Next
  | .skip => .value undef
  | n => n

theorem pcOf_run {P : Program} {ρ : Operand → Value} {o : Oper} {c : PC} (h : pcOf ρ o = some c) {w w' : World} {v : Value} (hr : c.sem.run P w = .ok v w') :
    ∃ n, (execOp ρ o).run P w = .ok n w' ∧ unskip n = .value v ∧ (n = .skip ∨ n = .value v) := by
  obtain ⟨dst, op, type, pos, after, guard⟩ := o
  unfold pcOf at h
  split at h <;> rename_i ho <;> simp only at ho
  case h_11 =>
    subst ho
    (repeat' split at h) <;> cases h <;>
      (refine ⟨.value v, ?_, rfl, .inr rfl⟩; simp only [PC.sem] at hr; simp only [execOp, resolve, invoke, builtin, List.map_toArray, List.map_cons, List.map_nil, Sem.run_bind, Sem.run_pure, Result.andThen_ok, hr])
  case h_12 => cases h
  case h_3 =>
    subst ho; cases h
    simp only [PC.sem, Sem.run_bind] at hr
    cases hm : (Instr.mapUpdate _ _ _ _ : Sem Unit).run P w with
    | ok y w1 =>
      rw [hm] at hr
      simp only [Result.andThen_ok, Sem.run_pure, Result.ok.injEq] at hr
      obtain ⟨rfl, rfl⟩ := hr
      refine ⟨.skip, ?_, rfl, .inl rfl⟩
      simp only [execOp, Sem.run_bind, hm, Result.andThen_ok, Sem.run_pure]
    | halt e w1 => rw [hm] at hr; simp at hr
  all_goals
    subst ho; cases h
    refine ⟨.value v, ?_, rfl, .inr rfl⟩
    simp only [PC.sem] at hr
    first | (simp only [execOp, Sem.run_bind, hr, Result.andThen_ok, Sem.run_pure]; done) | (simp only [execOp, List.map_toArray, Sem.run_bind, hr, Result.andThen_ok, Sem.run_pure])

/-- What such an operation comes to, of the blocks that it is handed. -/
def PrimOK (P : Program) (c : PC) (R : RO) (H : Hp) (X : Type) (q : X → Prop) (g : X → Value × Hp) : Prop :=
  ∀ Rx w, R.le Rx → Sat w Rx H → ∃ x w', c.sem.run P w = .ok (g x).1 w' ∧ q x ∧ Sat w' Rx (g x).2
def Prim0 (P : Program) (c : PC) (R : RO) (H : Hp) (v : Value) (B : Hp) : Prop :=
  ∀ Rx w, R.le Rx → Sat w Rx H → ∃ w', c.sem.run P w = .ok v w' ∧ Sat w' Rx B

def pureE (P : Program) : Sem Next → Option (FuncId × Array Value)
  | .pure (.enter f args) => some (f, args)
  | .program k => pureE P (k P)
  | .mark _ k => pureE P k
  | _ => none

theorem pureE_run {P : Program} : ∀ {s : Sem Next} {f : FuncId} {args : Array Value}, pureE P s = some (f, args) → ∀ w, s.run P w = .ok (.enter f args) w := by
  intro s
  induction s with
  | pure a => intro f args h w; cases a <;> simp [pureE] at h; obtain ⟨rfl, rfl⟩ := h; rfl
  | program k ih => intro f args h w; simp only [pureE] at h; exact ih P h w
  | mark m k ih => intro f args h w; simp only [pureE] at h; exact ih h w
  | _ => intro f args h; simp [pureE] at h

def pureP (P : Program) : Sem Next → Option Value
  | .halt (.panic v) => some v
  | .program k => pureP P (k P)
  | .mark _ k => pureP P k
  | _ => none

theorem pureP_run {P : Program} : ∀ {s : Sem Next} {v : Value}, pureP P s = some v → ∀ w, s.run P w = .halt (.panic v) w := by
  intro s
  induction s with
  | halt a => intro v h w; cases a <;> simp [pureP] at h; subst h; rfl
  | program k ih => intro v h w; simp only [pureP] at h; exact ih P h w
  | mark m k ih => intro v h w; simp only [pureP] at h; exact ih h w
  | _ => intro v h; simp [pureP] at h

def pureD (P : Program) : Sem Next → Option Deferred
  | .pure (.defer d) => some d
  | .program k => pureD P (k P)
  | .mark _ k => pureD P k
  | _ => none

theorem pureD_run {P : Program} : ∀ {s : Sem Next} {v : Deferred}, pureD P s = some v → ∀ w, s.run P w = .ok (.defer v) w := by
  intro s
  induction s with
  | pure a => intro v h w; cases a <;> simp [pureD] at h; subst h; rfl
  | program k ih => intro v h w; simp only [pureD] at h; exact ih P h w
  | mark m k ih => intro v h w; simp only [pureD] at h; exact ih h w
  | _ => intro v h; simp [pureD] at h

section
variable {P : Program} {o : Oper} {s : St} {R : RO}

theorem EffOK.call {f : FuncId} {args : Array Value} {fp nn : List Nat} {X : Type} {g : X → Value × Hp} (he : pureE P (execOp (ev s.tm) o) = some (f, args))
    (hd : nodupN (fp ++ nn) = true) (hn : freshN s.hp nn = true) :
    EffOK P o s R (.gen (Does P f args.toList R (fp.map s.hp.at) fun r G B => G = R ∧ ∃ x, r = .ret (g x).1 ∧ B = (g x).2) X (fun _ => True) fun x => ((g x).1, zipU (fp ++ nn) (g x).2)) := by
  intro k kp ⟨hp, hk⟩ Rx w hR hs next Q hnx hq
  unfold Oper.wp; rw [St.eval, pureE_run he w]
  rw [Oper.upon_enter]
  refine Calls.mono (call_frame (nodupN_spec hd) (freshN_spec hn) hp hR hs) ?_
  rintro e w' ⟨r, G, B, Rx', rfl, ⟨rfl, x, rfl, rfl⟩, hx, hs'⟩
  show next (s.act.put o.dst (g x).1) w'
  rw [St.put_set s _ _ (zipU (fp ++ nn) (g x).2)]
  exact hnx _ _ Rx' w' (hk x trivial) hx hs'

theorem EffOK.callG {f : FuncId} {args : Array Value} {fp nn : List Nat} {X : Type} {q : X → RO → Prop} {g : X → Value × Hp} (he : pureE P (execOp (ev s.tm) o) = some (f, args))
    (hd : nodupN (fp ++ nn) = true) (hn : freshN s.hp nn = true) :
    EffOK P o s R (.genG (Does P f args.toList R (fp.map s.hp.at) fun r G B => ∃ x, q x G ∧ r = .ret (g x).1 ∧ B = (g x).2) X q fun x => ((g x).1, zipU (fp ++ nn) (g x).2)) := by
  intro k kp ⟨hp, hk⟩ Rx w hR hs next Q hnx hq
  unfold Oper.wp; rw [St.eval, pureE_run he w]
  rw [Oper.upon_enter]
  refine Calls.mono (call_frame (nodupN_spec hd) (freshN_spec hn) hp hR hs) ?_
  rintro e w' ⟨r, G, B, Rx', rfl, ⟨x, hqx, rfl, rfl⟩, hx, hs'⟩
  show next (s.act.put o.dst (g x).1) w'
  rw [St.put_set s _ _ (zipU (fp ++ nn) (g x).2)]
  exact hnx _ _ Rx' w' (hk x G hx.le hqx) hx hs'

theorem EffOK.call0 {f : FuncId} {args : Array Value} {fp nn : List Nat} {v : Value} {B : Hp} (he : pureE P (execOp (ev s.tm) o) = some (f, args))
    (hd : nodupN (fp ++ nn) = true) (hn : freshN s.hp nn = true) :
    EffOK P o s R (.det (Gives P f args.toList R (fp.map s.hp.at) (.ret v) B) v (zipU (fp ++ nn) B)) := by
  intro k kp ⟨hp, hk⟩ Rx w hR hs next Q hnx hq
  unfold Oper.wp; rw [St.eval, pureE_run he w]
  rw [Oper.upon_enter]
  refine Calls.mono (call_frame (nodupN_spec hd) (freshN_spec hn) hp hR hs) ?_
  rintro e w' ⟨r, G, B', Rx', rfl, ⟨rfl, rfl, rfl⟩, hx, hs'⟩
  show next (s.act.put o.dst v) w'
  rw [St.put_set s _ _ (zipU (fp ++ nn) B')]
  exact hnx _ _ Rx' w' hk hx hs'

theorem upds_keep : ∀ (fp : List Nat) (H H' : Hp), (∀ i ∈ fp, H'.at i = H.at i) → ∀ n, (H'.upds (zipU fp (fp.map H.at))).at n = H'.at n
  | [], H, H', h, n => rfl
  | i :: fp, H, H', h, n => by
    have h1 := h i (List.mem_cons_self ..)
    have h2 : ∀ m, (H'.put i (H.at i)).at m = H'.at m := fun m => by
      by_cases he : m = i
      · subst he; rw [Hp.at_put_same, h1]
      · rw [Hp.at_put_ne _ _ _ _ (fun h => he h.symm)]
    show ((H'.put i (H.at i)).upds (zipU fp (fp.map H.at))).at n = _
    rw [upds_keep fp H (H'.put i (H.at i)) (fun m hm => (h2 m).trans (h m (List.mem_cons_of_mem _ hm))) n, h2]

theorem Sat.same {w : World} {R : RO} {H H' : Hp} (h : Sat w R H') (he : ∀ i, H'.at i = H.at i) : Sat w R H :=
  ⟨h.ro, fun i a B hi => h.own i a B ((he i).trans hi), fun i a B hi => h.off i a B ((he i).trans hi),
    fun i j a B C hi hj => h.one i j a B C ((he i).trans hi) ((he j).trans hj), h.os, h.tape, h.out⟩

theorem EffOK.callR {f : FuncId} {args : Array Value} {fp : List Nat} {v : Value} (he : pureE P (execOp (ev s.tm) o) = some (f, args))
    (hd : nodupN fp = true) :
    EffOK P o s R (.det (Gives P f args.toList R (fp.map s.hp.at) (.ret v) (fp.map s.hp.at)) v []) := by
  intro k kp ⟨hp, hk⟩ Rx w hR hs next Q hnx hq
  unfold Oper.wp; rw [St.eval, pureE_run he w]
  rw [Oper.upon_enter]
  refine Calls.mono (call_frame (fp := fp) (nn := []) (by rw [List.append_nil]; exact nodupN_spec hd) (fun i hi => by cases hi) hp hR hs) ?_
  rintro e w' ⟨r, G, B', Rx', rfl, ⟨rfl, rfl, rfl⟩, hx, hs'⟩
  show next (s.act.put o.dst v) w'
  rw [St.put_set s _ _ []]
  rw [List.append_nil] at hs'
  exact hnx _ _ Rx' w' hk hx (hs'.same (fun n => upds_keep fp s.hp s.hp (fun _ _ => rfl) n))

theorem EffOK.callp {f : FuncId} {args : Array Value} {fp nn : List Nat} {v : Value} {B : Hp} (he : pureE P (execOp (ev s.tm) o) = some (f, args))
    (hd : nodupN (fp ++ nn) = true) (hn : freshN s.hp nn = true) :
    EffOK P o s R (.panc (Gives P f args.toList R (fp.map s.hp.at) (.pan v) B) v (zipU (fp ++ nn) B)) := by
  intro k kp ⟨hp, hk⟩ Rx w hR hs next Q hnx hq
  unfold Oper.wp; rw [St.eval, pureE_run he w]
  rw [Oper.upon_enter]
  refine Calls.mono (call_frame (nodupN_spec hd) (freshN_spec hn) hp hR hs) ?_
  rintro e w' ⟨r, G, B', Rx', rfl, ⟨rfl, rfl, rfl⟩, hx, hs'⟩
  show Q _ (St.act ⟨s.tm, s.df, s.hp.upds (zipU (fp ++ nn) B')⟩) w'
  exact hq v ⟨s.tm, s.df, s.hp.upds (zipU (fp ++ nn) B')⟩ _ Rx' w' hk hx hs'

theorem prim_frame {c : PC} {R : RO} {H : Hp} {fp nn : List Nat} {X : Type} {q : X → Prop} {g : X → Value × Hp} (hd : (fp ++ nn).Nodup) (hnn : ∀ i ∈ nn, H.at i = none)
    (hp : PrimOK P c R (fp.map H.at) X q g) {Rx : RO} {w : World} (hR : R.le Rx) (hs : Sat w Rx H) :
    ∃ v w', c.sem.run P w = .ok v w' ∧ ∃ x Rx', q x ∧ v = (g x).1 ∧ Ext R Rx R Rx' ∧ Sat w' Rx' (H.upds (zipU (fp ++ nn) (g x).2)) := by
  have := frame_gen (ε := Value) (T := fun K => ∃ v w', c.sem.run P w = .ok v w' ∧ K v w') (fun K K' ⟨v, w', h1, h2⟩ hk => ⟨v, w', h1, hk _ _ h2⟩)
    (fin := fun o => match o with | .ret v => v | .pan v => v) (R := R) (H := H) (fp := fp) (nn := nn) (Q := fun o G B => G = R ∧ ∃ x, q x ∧ o = .ret (g x).1 ∧ B = (g x).2) (w := w) hd hnn
    (fun Rx hR hs => by
      obtain ⟨x, w', h1, h2, h3⟩ := hp Rx w hR hs
      exact ⟨_, w', h1, .ret (g x).1, R, (g x).2, Rx, rfl, ⟨rfl, x, h2, rfl, rfl⟩, .refl hR, h3⟩) hR hs
  obtain ⟨v, w', h1, o, G, B, Rx', he, ⟨rfl, x, h2, rfl, rfl⟩, h3, h4⟩ := this
  exact ⟨v, w', h1, x, Rx', h2, he, h3, h4⟩

theorem EffOK.prim {c : PC} {fp nn : List Nat} {X : Type} {q : X → Prop} {g : X → Value × Hp} (he : pcOf (ev s.tm) o = some c)
    (hd : nodupN (fp ++ nn) = true) (hn : freshN s.hp nn = true) :
    EffOK P o s R (.gen (PrimOK P c R (fp.map s.hp.at) X q g) X q fun x => ((g x).1, zipU (fp ++ nn) (g x).2)) := by
  intro k kp ⟨hp, hk⟩ Rx w hR hs next Q hnx hq
  obtain ⟨v, w', h1, x, Rx', h2, rfl, h3, h4⟩ := prim_frame (nodupN_spec hd) (freshN_spec hn) hp hR hs
  obtain ⟨n, h5, _, h6⟩ := pcOf_run he h1
  unfold Oper.wp; rw [St.eval, h5]
  have hnx' := hnx _ _ Rx' w' (hk x h2) h3 h4
  rw [← St.put_set s _ _ (zipU (fp ++ nn) (g x).2)] at hnx'
  rcases h6 with rfl | rfl
  · have hv : (g x).1 = undef := by
      have := pcOf_run he h1
      obtain ⟨n', h7, h8, h9⟩ := this
      rw [h5] at h7
      cases h7
      simp only [unskip, Next.value.injEq] at h8
      exact h8.symm
    rw [hv] at hnx'
    exact hnx'
  · exact hnx'

theorem EffOK.prim0 {c : PC} {fp nn : List Nat} {v : Value} {B : Hp} (he : pcOf (ev s.tm) o = some c)
    (hd : nodupN (fp ++ nn) = true) (hn : freshN s.hp nn = true) :
    EffOK P o s R (.det (Prim0 P c R (fp.map s.hp.at) v B) v (zipU (fp ++ nn) B)) := by
  intro k kp ⟨hp, hk⟩ Rx w hR hs next Q hnx hq
  refine EffOK.prim (X := Unit) (q := fun _ => True) (g := fun _ => (v, B)) he hd hn k kp ⟨?_, fun _ _ => hk⟩ Rx w hR hs next Q hnx hq
  intro Rx w hR hs
  obtain ⟨w', h1, h2⟩ := hp Rx w hR hs
  exact ⟨(), w', h1, trivial, h2⟩
end
end Vc
