/-
  The layer of triples, fourteenth part: ways that meet behind several steps.
-/
import Derived.Test.YtbchkofadjeblaaSlM
set_option linter.unusedVariables false
set_option linter.unusedSimpArgs false
namespace Go.SL
open Go Go.RowKit
section
variable {C : Cx} {n : Nat} {T : Tm} {M : Hp} {K : Exit → Tm → Hp → Prop} {J : Tm → Hp → Prop} {k : Nat}
/-- so many steps of a sequence, then J -/
def upTo (C : Cx) (n : Nat) (J : Tm → Hp → Prop) (K : Exit → Tm → Hp → Prop) : Nat → Code → Tm → Hp → Prop
  | 0, _, T, M => J T M
  | k + 1, .seq x y, T, M => AWp C n x T M (thenK (upTo C n J K k y) K)
  | _ + 1, _, _, _ => False
inductive Tail : Nat → Code → Code → Prop
  | zero {c : Code} : Tail 0 c c
  | succ {k : Nat} {x y c : Code} : Tail k y c → Tail (k + 1) (.seq x y) c
theorem upTo.s {x y : Code} (h : AWp C n x T M (thenK (upTo C n J K k y) K)) : upTo C n J K (k + 1) (.seq x y) T M := h
theorem upTo.z {c : Code} (h : J T M) : upTo C n J K 0 c T M := h
theorem upTo.elim {c c' : Code} (ht : Tail k c c') : ∀ {T : Tm} {M : Hp}, upTo C n J K k c T M → (∀ T M, J T M → AWp C n c' T M K) → AWp C n c T M K := by
  induction ht with
  | zero => exact fun h hJ => hJ _ _ h
  | succ _ ih =>
    intro T M h hJ
    refine AWp.seq (AWp.mono h ?_)
    intro e T' M' he
    cases e with
    | normal => exact ih he hJ
    | _ => exact he
def Meet {σ : Type} (Tf : σ → Tm) (Mf : σ → Hp) (I : σ → Prop) (T : Tm) (M : Hp) : Prop := ∃ s, I s ∧ Sub T (Tf s) ∧ Has M (Mf s)
theorem Meet.at {σ : Type} {Tf : σ → Tm} {Mf : σ → Hp} {I : σ → Prop} {c : Code} (s : σ) (h : I s) (hT : Sub T (Tf s)) (hM : Has M (Mf s)) : upTo C n (Meet Tf Mf I) K 0 c T M := ⟨s, h, hT, hM⟩
theorem AL.mono {ops : Array Oper} {l : List (Oper × List Oper)} {K' : Exit → Tm → Hp → Prop} (h : AL C n ops l T M K) (hk : ∀ e T' M', K e T' M' → K' e T' M') : AL C n ops l T M K' :=
  fun a w ht hs => wpLR_mono (fun _ _ _ ⟨T', M', h1, h2, h3, h4⟩ => ⟨T', M', h1, h2, h3, hk _ _ _ h4⟩) _ _ _ (h a w ht hs)
theorem meet_mono {σ : Type} {Tf : σ → Tm} {Mf : σ → Hp} {I : σ → Prop} {y c' : Code} (h2 : ∀ s, I s → AWp C n c' (Tf s) (Mf s) K) (ht : Tail k y c') (e : Exit) (T' : Tm) (M' : Hp) :
    thenK (upTo C n (Meet Tf Mf I) K k y) K e T' M' → thenK (fun T' M' => AWp C n y T' M' K) K e T' M' := by
  intro he
  cases e with
  | normal => exact upTo.elim ht he (fun T M ⟨s, h, hT, hM⟩ => AWp.weaken hT hM (h2 s h))
  | _ => exact he
/-- ways that meet behind k more steps -/
theorem AWp.meetK {σ : Type} (k : Nat) (Tf : σ → Tm) (Mf : σ → Hp) (I : σ → Prop) {x y c' : Code} (h1 : AWp C n x T M (thenK (upTo C n (Meet Tf Mf I) K k y) K)) (h2 : ∀ s, I s → AWp C n c' (Tf s) (Mf s) K)
    (ht : Tail k y c' := by repeat (first | exact Tail.zero | refine Tail.succ ?_)) : AWp C n x T M (thenK (fun T' M' => AWp C n y T' M' K) K) :=
  h1.mono (meet_mono h2 ht)
theorem AL.meetK {σ : Type} (k : Nat) (Tf : σ → Tm) (Mf : σ → Hp) (I : σ → Prop) {ops : Array Oper} {l : List (Oper × List Oper)} {y c' : Code} (h1 : AL C n ops l T M (thenK (upTo C n (Meet Tf Mf I) K k y) K)) (h2 : ∀ s, I s → AWp C n c' (Tf s) (Mf s) K)
    (ht : Tail k y c' := by repeat (first | exact Tail.zero | refine Tail.succ ?_)) : AL C n ops l T M (thenK (fun T' M' => AWp C n y T' M' K) K) :=
  h1.mono (meet_mono h2 ht)
end
end Go.SL
