/-
  Keys that are told one after the other: which are told already, how many are left.
-/
import Derived.Test.YtbchkofadjeblaaH3
set_option linter.unusedVariables false
set_option linter.unusedSimpArgs false
namespace Go.Proofs.Ytbchkofadjeblaa
open Go Go.SL
/-- is a key told ahead of that one? -/
def bef (d : DeclD) : Option Int → Int → Bool
  | none, _ => true
  | some k, j => decide (rank d j < rank d k)
/-- how many are left -/
def remN (d : DeclD) (keys : List Int) : Option Int → Nat
  | none => 0
  | some k => (keys.filter (fun j => decide (rank d k ≤ rank d j))).length
theorem remN_le (d : DeclD) (keys : List Int) (o : Option Int) : remN d keys o ≤ keys.length := by
  cases o with
  | none => exact Nat.zero_le _
  | some k => exact List.length_filter_le _ _
theorem filter_lt {p q : Int → Bool} : ∀ {l : List Int} {k : Int}, k ∈ l → q k = true → p k = false → (∀ j ∈ l, p j = true → q j = true) → (l.filter p).length < (l.filter q).length
  | a :: l, k, hk, h1, h2, h3 => by
    have hle : ∀ l : List Int, (∀ j ∈ l, p j = true → q j = true) → (l.filter p).length ≤ (l.filter q).length := by
      intro l
      induction l with
      | nil => intro _; exact Nat.le_refl _
      | cons x l ih =>
        intro h
        have := ih (fun j hj => h j (List.mem_cons_of_mem _ hj))
        by_cases hp : p x = true
        · rw [List.filter_cons_of_pos hp, List.filter_cons_of_pos (h x (List.mem_cons_self ..) hp)]; simp only [List.length_cons]; omega
        · rw [List.filter_cons_of_neg hp]
          by_cases hq : q x = true
          · rw [List.filter_cons_of_pos hq]; simp only [List.length_cons]; omega
          · rw [List.filter_cons_of_neg hq]; exact this
    have h3' : ∀ j ∈ l, p j = true → q j = true := fun j hj => h3 j (List.mem_cons_of_mem _ hj)
    rcases List.mem_cons.1 hk with rfl | hk
    · rw [List.filter_cons_of_neg (by simp [h2]), List.filter_cons_of_pos h1]
      have := hle l h3'
      simp only [List.length_cons]; omega
    · have ih := filter_lt hk h1 h2 h3'
      by_cases hp : p a = true
      · rw [List.filter_cons_of_pos hp, List.filter_cons_of_pos (h3 a (List.mem_cons_self ..) hp)]; simp only [List.length_cons]; omega
      · rw [List.filter_cons_of_neg hp]
        by_cases hq : q a = true
        · rw [List.filter_cons_of_pos hq]; simp only [List.length_cons]; omega
        · rw [List.filter_cons_of_neg hq]; exact ih
theorem remN_pos {d : DeclD} {keys : List Int} {k : Int} (h : k ∈ keys) : 0 < remN d keys (some k) := by
  refine List.length_pos_of_mem (a := k) (List.mem_filter.2 ⟨h, by simp⟩)
theorem behind0 {d : DeclD} {k j : Int} : behindF d 0 k j = decide (rank d k < rank d j) := by simp [behindF, aheadF]
theorem remN_next {d : DeclD} {keys : List Int} {k : Int} (hk : k ∈ keys) : remN d keys (nextF d keys 0 k) < remN d keys (some k) := by
  cases h : nextF d keys 0 k with
  | none => exact remN_pos hk
  | some k' =>
    obtain ⟨h1, h2, _⟩ := nextF_inv h
    rw [behind0] at h2
    have h2' := of_decide_eq_true h2
    refine filter_lt hk (by simp) (decide_eq_false (by omega)) (fun j _ hj => ?_)
    have := of_decide_eq_true hj
    exact decide_eq_true (by omega)
theorem nextF_mem {d : DeclD} {keys : List Int} {fl k k' : Int} (h : nextF d keys fl k = some k') : k' ∈ keys := (nextF_inv h).1
theorem bef_first {d : DeclD} {keys : List Int} {j : Int} (hj : j ∈ keys) : bef d (nextF d keys 1 0) j = false := by
  cases h : nextF d keys 1 0 with
  | none =>
    have := nextF_none_inv h j hj
    simp [behindF] at this
  | some k =>
    obtain ⟨_, _, h3⟩ := nextF_inv h
    have := h3 j hj (by simp [behindF])
    exact decide_eq_false (by omega)
theorem bef_next {d : DeclD} {keys : List Int} {k j : Int} (hU : ∀ j ∈ keys, isU j) (hk : k ∈ keys) (hj : j ∈ keys) : bef d (nextF d keys 0 k) j = (bef d (some k) j || decide (j = k)) := by
  have hle : rank d j ≤ rank d k → (bef d (some k) j || decide (j = k)) = true := by
    intro h
    by_cases hl : rank d j < rank d k
    · simp [bef, hl]
    · have : j = k := rank_inj (d := d) (hU j hj) (hU k hk) (by omega)
      simp [this]
  cases h : nextF d keys 0 k with
  | none =>
    have := nextF_none_inv h j hj
    rw [behind0] at this
    have := of_decide_eq_false this
    rw [hle (by omega)]; rfl
  | some k' =>
    obtain ⟨h1, h2, h3⟩ := nextF_inv h
    rw [behind0] at h2
    have h2' := of_decide_eq_true h2
    by_cases hl : rank d j ≤ rank d k
    · rw [hle hl]
      have hb : bef d (some k') j = true := decide_eq_true (by omega)
      exact hb
    · have hb := h3 j hj (by rw [behind0]; exact decide_eq_true (by omega))
      have hne : j ≠ k := fun e => by subst e; omega
      simp [bef, hne]
      omega
/-- what ONext tells -/
def nextR : Option Int → RV
  | some k => ⟨0, none, k, 0⟩
  | none => ⟨2, none, 0, 0⟩
theorem hdo_next (d : DeclD) (s : HS) (key v fl : Int) : hdoF d s 4 key v fl = (s, nextR (nextF d (s.es.map Ent.key) fl key)) := by
  unfold hdoF
  rw [if_neg (by decide), if_pos rfl]
  cases nextF d (s.es.map Ent.key) fl key <;> rfl
end Go.Proofs.Ytbchkofadjeblaa
