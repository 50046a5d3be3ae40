/-
  What a hash does: the operations beside updates; what stays true of it.
-/
import Derived.Test.YtbchkofadjeblaaH1
set_option linter.unusedVariables false
set_option linter.unusedSimpArgs false
namespace Go.Proofs.Ytbchkofadjeblaa
open Go Go.SL
theorem efind_mem {l : List Ent} {k : Int} {e : Ent} (h : efind l k = some e) : e ∈ l ∧ e.key = k := by
  induction l with
  | nil => cases h
  | cons x l ih =>
    unfold efind at h
    split at h
    · cases h; rename_i hk; exact ⟨List.mem_cons_self .., hk.symm⟩
    · obtain ⟨h1, h2⟩ := ih h; exact ⟨List.mem_cons_of_mem _ h1, h2⟩
theorem efind_none {l : List Ent} {k : Int} (h : efind l k = none) : ∀ e ∈ l, e.key ≠ k := by
  induction l with
  | nil => intro e he; cases he
  | cons x l ih =>
    unfold efind at h
    split at h
    · cases h
    · rename_i hk
      intro e he
      cases he with
      | head => exact fun e => hk e.symm
      | tail _ he => exact ih h e he
theorem efind_of_not {l : List Ent} {k : Int} (h : ∀ e ∈ l, e.key ≠ k) : efind l k = none := by
  cases h0 : efind l k with
  | none => rfl
  | some e => exact absurd (efind_mem h0).2 (h e (efind_mem h0).1)
theorem efind_of_mem {l : List Ent} {e : Ent} (hn : (l.map Ent.key).Nodup) (h : e ∈ l) : efind l e.key = some e := by
  induction l with
  | nil => cases h
  | cons x l ih =>
    rw [List.map_cons, List.nodup_cons] at hn
    unfold efind
    by_cases hk : e.key = x.key
    · rw [if_pos hk]
      cases h with
      | head => rfl
      | tail _ h => exact absurd (hk ▸ List.mem_map_of_mem h) hn.1
    · rw [if_neg hk]
      cases h with
      | head => exact absurd rfl hk
      | tail _ h => exact ih hn.2 h
theorem edel_sub (l : List Ent) (k : Int) : (edel l k).Sublist l := by
  induction l with
  | nil => exact List.Sublist.refl _
  | cons x l ih =>
    unfold edel
    split
    · exact List.sublist_cons_self _ _
    · exact ih.cons_cons _
theorem edel_mem {l : List Ent} {k : Int} (hn : (l.map Ent.key).Nodup) {e : Ent} : e ∈ edel l k ↔ e ∈ l ∧ e.key ≠ k := by
  induction l with
  | nil => simp [edel]
  | cons x l ih =>
    rw [List.map_cons, List.nodup_cons] at hn
    unfold edel
    by_cases hk : k = x.key
    · rw [if_pos hk]
      subst hk
      constructor
      · intro h
        exact ⟨List.mem_cons_of_mem _ h, fun h2 => hn.1 (h2 ▸ List.mem_map_of_mem h)⟩
      · rintro ⟨h1, h2⟩
        cases h1 with
        | head => exact absurd rfl h2
        | tail _ h1 => exact h1
    · rw [if_neg hk]
      simp only [List.mem_cons, ih hn.2]
      constructor
      · rintro (rfl | ⟨h1, h2⟩)
        · exact ⟨.inl rfl, fun h => hk h.symm⟩
        · exact ⟨.inr h1, h2⟩
      · rintro ⟨rfl | h1, h2⟩
        · exact .inl rfl
        · exact .inr ⟨h1, h2⟩
theorem edel_len {l : List Ent} {k : Int} {e : Ent} (h : e ∈ l) (hk : e.key = k) : (edel l k).length + 1 = l.length := by
  induction l with
  | nil => cases h
  | cons x l ih =>
    unfold edel
    by_cases hx : k = x.key
    · rw [if_pos hx]; rfl
    · rw [if_neg hx]
      cases h with
      | head => exact absurd hk.symm hx
      | tail _ h => have := ih h; simp only [List.length_cons]; omega
theorem euse_keys (l : List Ent) (k u : Int) : (euse l k u).map Ent.key = l.map Ent.key ∧ (euse l k u).map Ent.elem = l.map Ent.elem := by
  induction l with
  | nil => exact ⟨rfl, rfl⟩
  | cons x l ih =>
    unfold euse
    split
    · exact ⟨rfl, rfl⟩
    · simp only [List.map_cons, ih.1, ih.2, and_self]
theorem euse_mem {l : List Ent} {k u : Int} (hn : (l.map Ent.key).Nodup) {e : Ent} : e ∈ euse l k u ↔ ∃ x ∈ l, e.key = x.key ∧ e.elem = x.elem ∧ e.used = if x.key = k then u else x.used := by
  induction l with
  | nil => simp [euse]
  | cons x l ih =>
    rw [List.map_cons, List.nodup_cons] at hn
    unfold euse
    obtain ⟨ek, ee, eu⟩ := e
    by_cases hk : k = x.key
    · rw [if_pos hk]
      have hl : ∀ y ∈ l, y.key ≠ k := fun y hy h => hn.1 (by rw [← hk, ← h]; exact List.mem_map_of_mem hy)
      simp only [List.mem_cons]
      constructor
      · rintro (h | h)
        · cases h; exact ⟨x, .inl rfl, rfl, rfl, by rw [if_pos hk.symm]⟩
        · exact ⟨_, .inr h, rfl, rfl, by rw [if_neg (hl _ h)]⟩
      · rintro ⟨y, rfl | hy, h1, h2, h3⟩
        · left; rw [if_pos hk.symm] at h3; simp_all
        · right; rw [if_neg (hl y hy)] at h3
          obtain ⟨yk, ye, yu⟩ := y
          simp only at h1 h2 h3; subst h1 h2 h3; exact hy
    · rw [if_neg hk]
      simp only [List.mem_cons, ih hn.2]
      constructor
      · rintro (rfl | ⟨y, hy, h⟩)
        · exact ⟨_, .inl rfl, rfl, rfl, by rw [if_neg (fun e => hk e.symm)]⟩
        · exact ⟨y, .inr hy, h⟩
      · rintro ⟨y, rfl | hy, h1, h2, h3⟩
        · left
          rw [if_neg (fun e => hk e.symm)] at h3
          obtain ⟨yk, ye, yu⟩ := y
          simp only at h1 h2 h3; subst h1 h2 h3; rfl
        · exact .inr ⟨y, hy, h1, h2, h3⟩
theorem euse_len (l : List Ent) (k u : Int) : (euse l k u).length = l.length := by
  have := congrArg List.length (euse_keys l k u).1
  simpa using this
theorem eldF_in {l : List Ent} (h : l ≠ []) : ∃ e ∈ l, e.key = eldF l := by
  unfold eldF
  cases hm : minBy Ent.used l with
  | none => exact absurd (minBy_none hm) h
  | some m => exact ⟨m, (minBy_some hm).1, rfl⟩
/-! results -/
structure RV where
  (no : Int) (val : Option Int) (key elem : Int)
def elemV (s : HS) (e : Ent) : Int := s.elems[(e.elem - 1).toNat]?.getD 0
end Go.Proofs.Ytbchkofadjeblaa
