/-
  The layer of triples, twelfth part: parts of memory that are known by name are found among the others.
-/
import Derived.Test.YtbchkofadjeblaaSlK
set_option linter.unusedVariables false
set_option linter.unusedSimpArgs false
namespace Go.SL
open Go Go.RowKit
/-- taking a part out of what is known -/
inductive PickL (V : Hp) : Hp → Hp → Prop
  | here : PickL V V []
  | head (M : Hp) : PickL V (V ++ M) M
  | tail (y : Nat × HObj) {M M' : Hp} : PickL V M M' → PickL V (y :: M) (y :: M')
  | app (R : Hp) {M M' : Hp} : PickL V M M' → PickL V (R ++ M) (R ++ M')
  | inl {A A' : Hp} (B : Hp) : PickL V A A' → PickL V (A ++ B) (A' ++ B)
theorem PickL.split_ex {V M M' : Hp} (h : PickL V M M') : ∃ A B, M = A ++ (V ++ B) ∧ M' = A ++ B := by
  induction h with
  | here => exact ⟨[], [], by simp, by simp⟩
  | head M => exact ⟨[], M, by simp, by simp⟩
  | tail y _ ih => obtain ⟨A, B, rfl, rfl⟩ := ih; exact ⟨y :: A, B, by simp, by simp⟩
  | app R _ ih => obtain ⟨A, B, rfl, rfl⟩ := ih; exact ⟨R ++ A, B, by simp, by simp⟩
  | inl B _ ih => obtain ⟨A, B', rfl, rfl⟩ := ih; exact ⟨A, B' ++ B, by simp, by simp⟩
theorem Split.consL {V M1 M M' F : Hp} (h : PickL V M M') (h2 : Split M1 M' F) : Split (V ++ M1) M F := by
  obtain ⟨A, B, rfl, rfl⟩ := h.split_ex
  clear h
  induction V with
  | nil => simpa using h2
  | cons v V ih => exact .cons (Pick.app A (.head _)) ih
theorem Split.lone {V M F : Hp} (h : PickL V M F) : Split V M F := by
  have := Split.consL h (Split.nil F)
  simpa using this
theorem Pick.inl {x : Nat × HObj} {A A' : Hp} (B : Hp) (h : Pick x A A') : Pick x (A ++ B) (A' ++ B) := by
  induction h with
  | head M => exact .head _
  | tail y _ ih => exact .tail y ih
theorem Split.assoc {A B C M F : Hp} (h : Split (A ++ (B ++ C)) M F) : Split ((A ++ B) ++ C) M F := by rwa [List.append_assoc]
theorem Split.consA {x : Nat × HObj} {A B M F : Hp} (h : Split (x :: (A ++ B)) M F) : Split ((x :: A) ++ B) M F := h
theorem Split.nilA {A B M F : Hp} (h0 : A = []) (h : Split B M F) : Split (A ++ B) M F := by subst h0; exact h
theorem Rd.mono1 {C : Cx} {M : Hp} {x : Nat × HObj} {b o : Nat} {v : Value} (h : Rd C [x] b o v) (hm : x ∈ M) : Rd C M b o v := h.mono (fun y hy => by rw [List.mem_singleton.1 hy]; exact hm)
theorem Upd.inl {b o : Nat} {vs : List Value} {A A' : Hp} (B : Hp) (h : Upd b o vs A A') : Upd b o vs (A ++ B) (A' ++ B) := by
  induction h with
  | cells h => exact .cells h
  | pre h => exact .pre h
  | tail x _ ih => exact .tail x ih
section
variable {C : Cx} {n : Nat} {T : Tm} {M : Hp} {dst : Option Nat} {g : Option (Nat × Bool)} {ty : TypeId} {pos : String} {after : Array Edge}
theorem PU.sliceFromLt {x y : Operand} {t e : TypeId} {inf : TypeInfo} [Und C.P t (.slice e)] [Inf C.P e inf] {b o len cap l sz : Nat} {k : IntKind} (hsz : inf.size = sz)
    (hx : evO T x = some (.slice (some ⟨b, o, none⟩) len cap)) (hl : evO T y = some (.int k l)) (h1 : l ≤ len) (h2 : len ≤ cap) (h3 : l < cap) :
    PU C n T ⟨dst, .slice t x (some y) none none, ty, pos, after, g⟩ (.slice (some ⟨b, o + l * sz, none⟩) (len - l) (cap - l)) := by
  have := PU.sliceFrom (C := C) (n := n) (T := T) (dst := dst) (ty := ty) (pos := pos) (after := after) (g := g) (t := t) hsz hx hl h1 h2
  rwa [if_neg (by omega)] at this
theorem PU.sliceFromEq {x y : Operand} {t e : TypeId} {inf : TypeInfo} [Und C.P t (.slice e)] [Inf C.P e inf] {b o len cap l sz : Nat} {k : IntKind} (hsz : inf.size = sz)
    (hx : evO T x = some (.slice (some ⟨b, o, none⟩) len cap)) (hl : evO T y = some (.int k l)) (h1 : l ≤ len) (h2 : len ≤ cap) (h3 : l = cap) :
    PU C n T ⟨dst, .slice t x (some y) none none, ty, pos, after, g⟩ (.slice (some ⟨b, o, none⟩) (len - l) (cap - l)) := by
  have := PU.sliceFrom (C := C) (n := n) (T := T) (dst := dst) (ty := ty) (pos := pos) (after := after) (g := g) (t := t) hsz hx hl h1 h2
  rwa [if_pos (by omega)] at this
end
def fldSF (P : Program) (s : TypeId) (i : Nat) : Option Nat :=
  match P.underlying s with
  | some (.struct fs) => (fs[i]?).bind fun f => match P.underlying f.type with | some D => if aggD D then none else some f.offset | none => none
  | _ => none
class FldS (P : Program) (s : TypeId) (i : Nat) (off : outParam Nat) : Prop where
  fact : fldSF P s i = some off
section
variable {C : Cx} {n : Nat} {T : Tm} {M : Hp} {dst : Option Nat} {g : Option (Nat × Bool)} {ty : TypeId} {pos : String} {after : Array Edge}
theorem PU.field {x : Operand} {s : TypeId} {i off : Nat} [h : FldS C.P s i off] {cs : List Value} {v : Value} (hx : evO T x = some (.agg cs.toArray)) (hv : cs[off]? = some v) : PU C n T ⟨dst, .field s x i, ty, pos, after, g⟩ v :=
  fun act ht w => by
    have h := h.fact
    unfold fldSF at h
    split at h
    · rename_i fs hu
      cases hf : fs[i]? with
      | none => simp [hf] at h
      | some f =>
        rw [hf] at h
        simp only [Option.bind_some] at h
        cases hi : C.P.underlying f.type with
        | none => simp [hi] at h
        | some D =>
          rw [hi] at h
          simp only at h
          cases ha : aggD D with
          | true => simp [ha] at h
          | false =>
            simp [ha] at h
            subst h
            have hag : (isAgg f.type).run C.P w = .ok false w := by
              haveI : Und C.P f.type D := ⟨hi⟩
              rw [run_isAgg (t := f.type), ha]
            simp only [execOp, evO_eval ht hx, Instr.field, Sem.run_bind, underlying, run_program, Result.andThen_ok, hu, Sem.run_pure, hf, asAgg, part, hag]
            simp [hv]
    · simp at h
end
end Go.SL
