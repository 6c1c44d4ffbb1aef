import Derived.Test.YtgahkgmepclcjaaFns
namespace Go.Proofs.Ytgahkgmepclcjaa
open Vc Go
set_option linter.unusedVariables false
set_option linter.unusedSimpArgs false

theorem wb (n : Int) : 0 ≤ IntKind.u8.wrap n ∧ IntKind.u8.wrap n ≤ 255 := by rw [wu8]; omega
theorem sI_cnt1 (p : ByteArray) : sI (cnt1 p) = ((p.size : Int) / 256 % 256) :: ((p.size : Int) % 256) :: sI p := by
  unfold cnt1
  rw [sI_append, sI_ofI (by intro n hn; simp only [List.mem_cons, List.not_mem_nil, or_false] at hn; rcases hn with rfl | rfl <;> exact wb _)]
  have : sHr .i64 (p.size : Int) 8 = (p.size : Int) / 2 ^ 8 := shr_div (k := .i64) (n := 8) (by decide)
  rw [this, wu8, wu8]
  rfl
theorem sI_empty : sI ByteArray.empty = [] := rfl
theorem sI_counted (l : List ByteArray) : sI (counted l) = (l.map fun p => ((p.size : Int) / 256 % 256) :: ((p.size : Int) % 256) :: sI p).flatten := by
  have key : ∀ (l : List ByteArray) (s : ByteArray), sI (l.foldl (fun s p => s ++ cnt1 p) s) = sI s ++ (l.map fun p => ((p.size : Int) / 256 % 256) :: ((p.size : Int) % 256) :: sI p).flatten := by
    intro l
    induction l with
    | nil => intro s; simp
    | cons p l ih =>
      intro s
      simp only [List.foldl_cons, ih, sI_append, sI_cnt1, List.map_cons, List.flatten_cons, List.append_assoc]
  exact key l .empty
theorem part_inj {p q : ByteArray} {l m : List Int} (hp : p.size < 65536) (hq : q.size < 65536) (h : ((p.size : Int) / 256 % 256) :: ((p.size : Int) % 256) :: (sI p ++ l) = ((q.size : Int) / 256 % 256) :: ((q.size : Int) % 256) :: (sI q ++ m)) : p = q ∧ l = m := by
  simp only [List.cons.injEq] at h
  obtain ⟨h1, h2, h3⟩ := h
  have hs : p.size = q.size := by omega
  obtain ⟨h4, h5⟩ := List.append_inj h3 (by rw [sI_length, sI_length, hs])
  exact ⟨sI_inj h4, h5⟩
theorem counted_inj : ∀ {l m : List ByteArray}, l.length = m.length → (∀ p ∈ l, p.size < 65536) → (∀ p ∈ m, p.size < 65536) → counted l = counted m → l = m := by
  have key : ∀ (l m : List ByteArray), l.length = m.length → (∀ p ∈ l, p.size < 65536) → (∀ p ∈ m, p.size < 65536) →
      (l.map fun p => ((p.size : Int) / 256 % 256) :: ((p.size : Int) % 256) :: sI p).flatten = (m.map fun p => ((p.size : Int) / 256 % 256) :: ((p.size : Int) % 256) :: sI p).flatten → l = m := by
    intro l
    induction l with
    | nil => intro m h _ _ _; cases m <;> simp at h ⊢
    | cons p l ih =>
      intro m h h1 h2 h3
      cases m with
      | nil => simp at h
      | cons q m =>
        simp only [List.map_cons, List.flatten_cons, List.cons_append] at h3
        obtain ⟨rfl, h4⟩ := part_inj (h1 p (List.mem_cons_self ..)) (h2 q (List.mem_cons_self ..)) h3
        rw [ih m (by simpa using h) (fun x hx => h1 x (List.mem_cons_of_mem _ hx)) (fun x hx => h2 x (List.mem_cons_of_mem _ hx)) h4]
  intro l m h h1 h2 h3
  refine key l m h h1 h2 ?_
  rw [← sI_counted, ← sI_counted, h3]
theorem signed_eq {a b : Fr} (ha : 1 ≤ a.kind ∧ a.kind ≤ 10) (hb : 1 ≤ b.kind ∧ b.kind ≤ 10) (hs : a.name.size < 65536 ∧ a.body.size < 65536 ∧ b.name.size < 65536 ∧ b.body.size < 65536) :
    ((signed a).toList == (signed b).toList) = ((a.kind == b.kind) && ((a.name.toList == b.name.toList) && (a.body.toList == b.body.toList))) := by
  rw [seq, seq, seq]
  have hiff : signed a = signed b ↔ a.kind = b.kind ∧ a.name = b.name ∧ a.body = b.body := by
    constructor
    · intro h
      have h1 := congrArg sI h
      unfold signed at h1
      rw [sI_append, sI_append, sI_ofI (ns := [IntKind.u8.wrap a.kind]) (by intro n hn; rw [List.mem_singleton.1 hn]; exact wb _),
        sI_ofI (ns := [IntKind.u8.wrap b.kind]) (by intro n hn; rw [List.mem_singleton.1 hn]; exact wb _)] at h1
      simp only [List.cons_append, List.nil_append, List.cons.injEq] at h1
      obtain ⟨h2, h3⟩ := h1
      rw [wu8, wu8] at h2
      have h4 := counted_inj (l := [a.name, a.body]) (m := [b.name, b.body]) rfl (by intro p hp; simp only [List.mem_cons, List.not_mem_nil, or_false] at hp; rcases hp with rfl | rfl <;> omega)
        (by intro p hp; simp only [List.mem_cons, List.not_mem_nil, or_false] at hp; rcases hp with rfl | rfl <;> omega) (sI_inj h3)
      simp only [List.cons.injEq] at h4
      exact ⟨by omega, h4.1, h4.2.1⟩
    · rintro ⟨h1, h2, h3⟩
      unfold signed
      rw [h1, h2, h3]
  rw [decide_eq_decide.2 hiff, Bool.decide_and, Bool.decide_and]
  rfl

set_option maxRecDepth 100000 in
theorem awake_ok  (R : RO)  : Gives Try.prog 7 [] R [] (.ret (.bool true)) [] :=
  Does.of_wp_eq (VC := ((Gives Try.prog 9 [.agg #[.int .i64 10, .int .i64 0, .string ByteArray.empty, .string ByteArray.empty, .string ByteArray.empty]] R [] (.ret (.tuple #[.string (bytesS (⟨10, 0, ByteArray.empty, ByteArray.empty, ByteArray.empty⟩ : Fr)), .int .i64 (bytesE (⟨10, 0, ByteArray.empty, ByteArray.empty, ByteArray.empty⟩ : Fr))])) []) ∧ ((bytesE (⟨10, 0, ByteArray.empty, ByteArray.empty, ByteArray.empty⟩ : Fr)) == 0) = true ∧ GQ R (.ret (.bool true)) [] (.ret (.bool ((bytesS (⟨10, 0, ByteArray.empty, ByteArray.empty, ByteArray.empty⟩ : Fr)).toList == (⟨#[10, 0, 0, 0, 0, 0, 0, 0]⟩ : ByteArray).toList))) R [])) (ops [.d, .d, .call0 [] [] (fun e v => .ret (.tuple #[.string (bytesS (⟨10, 0, ByteArray.empty, ByteArray.empty, ByteArray.empty⟩ : Fr)), .int .i64 (bytesE (⟨10, 0, ByteArray.empty, ByteArray.empty, ByteArray.empty⟩ : Fr))])) (fun e v => []), .d, .d, .d, .d, .d, .d, .d, .d] (.br 10 true (ops [.d, .d, .d, .d] (.fin [] [])))) Try.func7 (by kernel_rfl) (by kernel_rfl)
    (⟨(bytes_ok (⟨10, 0, ByteArray.empty, ByteArray.empty, ByteArray.empty⟩ : Fr) R (by decide)), ⟨(by decide +kernel), ⟨rfl, (by first | rfl | (congr 2; rw [seq]; decide +kernel)), (by rfl)⟩⟩⟩)

end Go.Proofs.Ytgahkgmepclcjaa