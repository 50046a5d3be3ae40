/-
  From the contracts to the given statements: what a list of numbers that came in is known to be; what a call that ends well leaves as it was.
-/
import Derived.Test.YtbchkofadjeblaaT19a
import Derived.ProofKit
import Derived.OpenShut
import Derived.ChangeOld
import Derived.Below
set_option linter.unusedVariables false
set_option linter.unusedSimpArgs false
namespace Go.Proofs.Ytbchkofadjeblaa
open Go Go.SL Go.ChangeShapes Go.WideShapes Go.ChangeAt Go.RowKit
theorem own : ownKnob Try.prog.godebug = none := by kernel_rfl
theorem laidOut : laidOutB Try.prog = true := by kernel_rfl
theorem callsOf {W : World} {f : FuncId} {args : List Value} (h : ACalls (cx W W.heap.size (Nat.le_refl _)) f args [] (fun v M' => v = .bool true ∧ M' = [])) : Calls Try.prog f args.toArray W fun e w' => e = .returned (.bool true) ∧ Below W.heap.size W w' := by
  refine (h W ⟨Below.refl _ _, by simp, by simp, by simp⟩).mono ?_
  rintro e w' ⟨v, M', rfl, hs, _, rfl, _⟩
  exact ⟨rfl, hs.below⟩
theorem argOf {H : Type} {enc : TypeId × Value → H} {W : World} {a : Option Addr} {n cap : Nat} {d : DataW H} {p : List MemPlace} (h : DataW.Trod enc Try.prog W 0 (fun _ => true) true 22 (.slice a n cap) d p) :
    ∃ l, Arg (cx W W.heap.size (Nat.le_refl _)) a n cap l ∧ n ≤ 9223372036854775807 := by
  obtain ⟨fuel, hf⟩ := h
  rcases open_ints Try.underlying22 Try.underlying28 (by kernel_rfl) hf with ⟨hcs, _⟩ | ⟨x, l, c, zs, hcs, _, hl, hm, hz, _, hcell, hwz⟩
  · simp [Value.cells] at hcs
    obtain ⟨rfl, rfl, rfl⟩ := hcs
    exact ⟨[], ⟨rfl, Nat.le_refl _, fun i v hv => by simp at hv, by simp⟩, by omega⟩
  · simp [Value.cells] at hcs
    obtain ⟨rfl, rfl, rfl⟩ := hcs
    have hz' : zs.length = cap := by simpa using hz
    have hb : n ≤ 9223372036854775807 := by
      have : maxLen ≤ 9223372036854775807 := by decide
      omega
    refine ⟨zs.take n, ⟨by simp; omega, hl, fun i v hv => ?_, fun v hv => ?_⟩, hb⟩
    · rw [List.getElem?_take] at hv
      split at hv
      · have hi : i < zs.length := (List.getElem?_eq_some_iff.1 hv).1
        have hc := hcell i hi
        rw [List.getD_eq_getElem?_getD, hv] at hc
        have h0 := hcell 0 (by omega)
        obtain ⟨b, o, s⟩ := x
        have hs : s = none := by
          cases s with
          | none => rfl
          | some s =>
            simp [Addr.add, World.cell?] at h0
            split at h0 <;> simp at h0
        subst hs
        have hlt := World.block_lt_of_cell? W _ hc
        rw [addr_add] at hc hlt
        refine ⟨b, o, rfl, ?_⟩
        simp only [Int.toNat_natCast, Nat.mul_one]
        exact Rd.old hlt hc
      · cases hv
    · have hb := bounds_u64 (hwz v (List.mem_of_mem_take hv))
      exact ⟨hb.1, by omega⟩
end Go.Proofs.Ytbchkofadjeblaa
