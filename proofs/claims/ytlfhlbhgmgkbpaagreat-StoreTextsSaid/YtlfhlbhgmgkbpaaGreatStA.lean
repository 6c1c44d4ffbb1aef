import Derived.Test.YtlfhlbhgmgkbpaaGreatVcW
import Derived.Test.YtlfhlbhgmgkbpaaGreatVcP
import Derived.Test.YtlfhlbhgmgkbpaaGreatProg
namespace Go.Proofs.YtlfhlbhgmgkbpaaGreat
open Vc Go
set_option linter.unusedVariables false
set_option linter.unusedSimpArgs false

def hdrB (k : ByteArray) : ByteArray := ofI [IntKind.u8.wrap (sHr .i64 (k.size : Int) 8), IntKind.u8.wrap (k.size : Int)]
def cntB (k : ByteArray) : ByteArray := hdrB k ++ k
def RO.all (w : World) : RO := ⟨fun b => w.heap[b]?, w.os, w.tape, w.output⟩
theorem gives_calls {P : Program} {f : FuncId} {args : List Value} {v : Value} {w : World} (h : Gives P f args (RO.all w) [] (.ret v) []) :
    Calls P f args.toArray w fun e w' => e = .returned v ∧ Go.RowKit.Below w.heap.size w w' := by
  refine (h (RO.all w) w (RO.le_refl _) ⟨fun b o hb => hb, fun i a B hi => by simp [Hp.at_nil] at hi, fun i a B hi => by simp [Hp.at_nil] at hi, fun i j a B C hi => by simp [Hp.at_nil] at hi, rfl, rfl, rfl⟩).mono ?_
  rintro e w' ⟨o, G, H', Rx', rfl, ⟨rfl, rfl, rfl⟩, hx, hs⟩
  have hle := hx.lex
  have hbl : ∀ k, k < w.heap.size → w'.heap[k]? = w.heap[k]? := fun k hk => by
    have h1 : w.heap[k]? = some w.heap[k] := Array.getElem?_eq_getElem hk
    rw [h1]
    exact hs.ro k _ (hle.mem k _ h1)
  refine ⟨rfl, ⟨hs.os.trans hle.os, hs.tape.trans hle.tape, hs.out.trans hle.out, ?_, hbl⟩⟩
  rcases Nat.eq_zero_or_pos w.heap.size with h0 | h0
  · omega
  · have h1 := hbl (w.heap.size - 1) (by omega)
    rw [Array.getElem?_eq_getElem (by omega : w.heap.size - 1 < w.heap.size)] at h1
    have := (Array.getElem?_eq_some_iff.1 h1).1
    omega

set_option maxRecDepth 100000 in
set_option maxHeartbeats 4000000 in
theorem counted_ok (B : Nat) (ka va : ByteArray) (R : RO) (c0 : R.cells B 0 [.string ka]) (c1 : R.cells B 1 [.string va]) (hk : ka.size ≤ 100000000) (hv : va.size ≤ 100000000) : Gives Tryz.prog 52 [.slice (some ⟨B, 0, none⟩) 2 2] R [] (.ret (.string (cntB ka ++ cntB va))) [] :=
  Does.of_wp_eq (VC := (let z1 := (ofI [IntKind.u8.wrap (sHr .i64 (va.size : Int) 8), IntKind.u8.wrap (va.size : Int)]); let z0 := (ofI [IntKind.u8.wrap (sHr .i64 (ka.size : Int) 8), IntKind.u8.wrap (ka.size : Int)]); (R.cells B 0 [.string ka]) ∧ ∀ a0 : Nat, let z2 : Hp := [some (a0, .row [.int .u8 (IntKind.u8.wrap (sHr .i64 (ka.size : Int) 8)), .int .u8 (IntKind.u8.wrap (ka.size : Int))] 5 2)]; (Prim0 Tryz.prog (.cnv 91 9 (.slice (some ⟨a0, 0, none⟩) 2 2)) R z2 (.string z0) z2) ∧ (z0.size + ka.size ≤ 9223372036854775807) ∧ (ByteArray.empty.size + (z0 ++ ka).size ≤ 9223372036854775807) ∧ (R.cells B 1 [.string va]) ∧ ∀ a1 : Nat, let z3 : Hp := [some (a1, .row [.int .u8 (IntKind.u8.wrap (sHr .i64 (va.size : Int) 8)), .int .u8 (IntKind.u8.wrap (va.size : Int))] 5 2)]; (Prim0 Tryz.prog (.cnv 91 9 (.slice (some ⟨a1, 0, none⟩) 2 2)) R z3 (.string z1) z3) ∧ (z1.size + va.size ≤ 9223372036854775807) ∧ ((ByteArray.empty ++ (z0 ++ ka)).size + (z1 ++ va).size ≤ 9223372036854775807) ∧ GQ R (.ret (.string (cntB ka ++ cntB va))) [] (.ret (.string ((ByteArray.empty ++ (z0 ++ ka)) ++ (z1 ++ va)))) R [])) (ops [.d, .d, .d, .d, .d] (.un 3 (ops [.d, .d, .ro (fun v => [.string ka]), .d, .d, .d, .d, .d, .d, .d, .d, .d] (.opn 0 (fun a0 => (ops [.pr0 [0] [] (fun e v => .string (ofI [IntKind.u8.wrap (sHr .i64 (ka.size : Int) 8), IntKind.u8.wrap (ka.size : Int)])) (fun e v => [some (a0, .row [.int .u8 (IntKind.u8.wrap (sHr .i64 (ka.size : Int) 8)), .int .u8 (IntKind.u8.wrap (ka.size : Int))] 5 2)]), .d, .cat, .cat, .d, .d, .d, .d, .d, .ro (fun v => [.string va]), .d, .d, .d, .d, .d, .d, .d, .d, .d] (.opn 1 (fun a1 => (ops [.pr0 [1] [] (fun e v => .string (ofI [IntKind.u8.wrap (sHr .i64 (va.size : Int) 8), IntKind.u8.wrap (va.size : Int)])) (fun e v => [some (a1, .row [.int .u8 (IntKind.u8.wrap (sHr .i64 (va.size : Int) 8)), .int .u8 (IntKind.u8.wrap (va.size : Int))] 5 2)]), .d, .cat, .cat, .d, .d, .d, .d, .d, .d] (.fin [] [])))))))))) Tryz.func52 (by kernel_rfl) (by kernel_rfl)
    (⟨c0, fun a0 => ⟨(b2s_ok (e := 5) (ns := [IntKind.u8.wrap (sHr .i64 (ka.size : Int) 8), IntKind.u8.wrap (ka.size : Int)]) (by kernel_rfl) (by kernel_rfl) (by kernel_rfl) ⟨rfl, .inr (.inr ⟨_, _, _, rfl, .inl ⟨0, _, _, _, rfl, rfl⟩⟩)⟩ (by simp)), ⟨(by have := hk; have := hv; (try simp only [ByteArray.size_append, ofI_size, List.length_cons, List.length_nil, ByteArray.size_empty]); omega), ⟨(by have := hk; have := hv; (try simp only [ByteArray.size_append, ofI_size, List.length_cons, List.length_nil, ByteArray.size_empty]); omega), ⟨c1, fun a1 => ⟨(b2s_ok (e := 5) (ns := [IntKind.u8.wrap (sHr .i64 (va.size : Int) 8), IntKind.u8.wrap (va.size : Int)]) (by kernel_rfl) (by kernel_rfl) (by kernel_rfl) ⟨rfl, .inr (.inr ⟨_, _, _, rfl, .inl ⟨0, _, _, _, rfl, rfl⟩⟩)⟩ (by simp)), ⟨(by have := hk; have := hv; (try simp only [ByteArray.size_append, ofI_size, List.length_cons, List.length_nil, ByteArray.size_empty]); omega), ⟨(by have := hk; have := hv; (try simp only [ByteArray.size_append, ofI_size, List.length_cons, List.length_nil, ByteArray.size_empty]); omega), ⟨rfl, (by (rw [ByteArray.empty_append]; rfl)), (by rfl)⟩⟩⟩⟩⟩⟩⟩⟩⟩)

end Go.Proofs.YtlfhlbhgmgkbpaaGreat
