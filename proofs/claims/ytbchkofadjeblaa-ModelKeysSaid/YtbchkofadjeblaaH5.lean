/-
  What an update, a lookup, a deletion mean for the keys that are there.
-/
import Derived.Test.YtbchkofadjeblaaH4
set_option linter.unusedVariables false
set_option linter.unusedSimpArgs false
namespace Go.Proofs.Ytbchkofadjeblaa
open Go Go.SL
abbrev HS.keys (s : HS) : List Int := s.es.map Ent.key
theorem mem_keys {l : List Ent} {k : Int} : k ∈ l.map Ent.key ↔ ∃ e ∈ l, e.key = k := by simp
theorem efind_keys {l : List Ent} {k : Int} {e : Ent} (h : efind l k = some e) : k ∈ l.map Ent.key := mem_keys.2 ⟨e, efind_mem h⟩
theorem efind_no {l : List Ent} {k : Int} (h : efind l k = none) : k ∉ l.map Ent.key := fun hm => by
  obtain ⟨e, he, hk⟩ := mem_keys.1 hm
  exact efind_none h e he hk
theorem efind_not {l : List Ent} {k : Int} (h : k ∉ l.map Ent.key) : efind l k = none := efind_of_not (fun e he hk => h (mem_keys.2 ⟨e, he, hk⟩))
theorem efind_yes {l : List Ent} {k : Int} (h : k ∈ l.map Ent.key) : ∃ e, efind l k = some e := by
  cases h0 : efind l k with
  | none => exact absurd h (efind_no h0)
  | some e => exact ⟨e, rfl⟩
theorem efind_euse {l : List Ent} {k u : Int} {e : Ent} (h : efind l k = some e) : efind (euse l k u) k = some ⟨e.key, e.elem, u⟩ := by
  induction l with
  | nil => cases h
  | cons x l ih =>
    unfold efind at h
    unfold euse
    by_cases hk : k = x.key
    · rw [if_pos hk] at h ⊢
      cases h
      unfold efind
      rw [if_pos hk]
    · rw [if_neg hk] at h ⊢
      unfold efind
      rw [if_neg hk]
      exact ih h
theorem efind_snoc {l : List Ent} {x : Ent} (h : ∀ e ∈ l, e.key ≠ x.key) : efind (l ++ [x]) x.key = some x := by
  induction l with
  | nil => simp [efind]
  | cons y l ih =>
    have hy : ¬ x.key = y.key := fun e => h y (List.mem_cons_self ..) e.symm
    simp only [List.cons_append, efind, hy, if_false]
    exact ih (fun e he => h e (List.mem_cons_of_mem _ he))
theorem euse_keys' (l : List Ent) (k u : Int) : (euse l k u).map Ent.key = l.map Ent.key := (euse_keys l k u).1
theorem edel_keys {l : List Ent} {k : Int} (hn : (l.map Ent.key).Nodup) {j : Int} : j ∈ (edel l k).map Ent.key ↔ j ∈ l.map Ent.key ∧ j ≠ k := by
  constructor
  · intro h
    obtain ⟨e, he, rfl⟩ := mem_keys.1 h
    have := (edel_mem hn).1 he
    exact ⟨mem_keys.2 ⟨e, this.1, rfl⟩, this.2⟩
  · rintro ⟨h, hk⟩
    obtain ⟨e, he, rfl⟩ := mem_keys.1 h
    exact mem_keys.2 ⟨e, (edel_mem hn).2 ⟨he, hk⟩, rfl⟩
/-- what an update by any flag comes to -/
theorem upd_any {d : DeclD} {s : HS} {key : Int} (v : Int) (hI : InvH d s) (hd : d.kind = 4 ∨ d.kind = 5) (he : 1 ≤ d.entries) :
    ((updF d s key v 0).2 = 4 ∧ d.kind = 4 ∧ key ∉ s.keys ∧ (updF d s key v 0).1 = s ∧ (s.es.length : Int) = d.entries) ∨
    ((updF d s key v 0).2 = 0 ∧ ∃ e, efind (updF d s key v 0).1.es key = some e ∧ elemV (updF d s key v 0).1 e = v ∧ (key ∉ s.keys → e.elem = s.elems.length + 1) ∧
      s.elems.length ≤ (updF d s key v 0).1.elems.length ∧ (updF d s key v 0).1.elems.length ≤ s.elems.length + 1 ∧ (∀ j ∈ (updF d s key v 0).1.keys, j = key ∨ j ∈ s.keys) ∧ (d.kind = 4 → ∀ j ∈ s.keys, j ∈ (updF d s key v 0).1.keys)) := by
  unfold updF
  cases hf : efind s.es key with
  | some e =>
    right
    simp only
    rw [if_neg (by decide)]
    obtain ⟨h1, h2⟩ := efind_mem hf
    obtain ⟨e1, e2⟩ := hI.elem e h1
    refine ⟨rfl, _, efind_euse hf, ?_, fun h => absurd (efind_keys hf) h, by simp, by simp, ?_, ?_⟩
    · simp only [elemV]
      rw [List.getElem?_set_self (by omega)]; rfl
    · intro j hj
      simp only [HS.keys] at hj
      rw [euse_keys'] at hj
      exact .inr hj
    · intro _ j hj
      simp only [HS.keys]
      rw [euse_keys']
      exact hj
  | none =>
    have hn := efind_none hf
    have hnk := efind_no hf
    simp only
    rw [if_neg (by decide)]
    by_cases hfull : (s.es.length : Int) ≥ d.entries
    · rw [if_pos hfull]
      by_cases h5 : d.kind ≠ 5
      · left
        rw [if_pos h5]
        have := hI.cap
        exact ⟨rfl, by omega, hnk, rfl, by omega⟩
      · right
        rw [if_neg h5]
        have hsn : ∀ e ∈ edel s.es (eldF s.es), e.key ≠ key := fun e he => hn e ((edel_sub _ _).mem he)
        refine ⟨rfl, _, efind_snoc (x := ⟨key, s.elems.length + 1, s.clock + 1⟩) hsn, ?_, fun _ => rfl, by simp, by simp, ?_, fun h4 => absurd h4 (by omega)⟩
        · simp [elemV]
        · intro j hj
          simp only [HS.keys, List.map_append, List.map_cons, List.map_nil, List.mem_append, List.mem_singleton] at hj
          rcases hj with hj | hj
          · exact .inr ((List.Sublist.map Ent.key (edel_sub s.es (eldF s.es))).mem hj)
          · exact .inl hj
    · right
      rw [if_neg hfull]
      refine ⟨rfl, _, efind_snoc (x := ⟨key, s.elems.length + 1, s.clock + 1⟩) hn, ?_, fun _ => rfl, by simp, by simp, ?_, ?_⟩
      · simp [elemV]
      · intro j hj
        simp only [HS.keys, List.map_append, List.map_cons, List.map_nil, List.mem_append, List.mem_singleton] at hj
        rcases hj with hj | hj
        · exact .inr hj
        · exact .inl hj
      · intro _ j hj
        simp only [HS.keys, List.map_append, List.mem_append]
        exact .inl hj
/-- a lookup -/
theorem hdo_look_hit {d : DeclD} {s : HS} {key v fl : Int} {e : Ent} (h : efind s.es key = some e) : hdoF d s 1 key v fl = (⟨euse s.es key (s.clock + 1), s.clock + 1, s.elems⟩, ⟨0, some (elemV s e), 0, e.elem⟩) := by
  simp [hdoF, h]
theorem hdo_miss {d : DeclD} {s : HS} {kind key v fl : Int} (hk : kind = 1 ∨ kind = 3 ∨ kind = 5) (h : efind s.es key = none) : hdoF d s kind key v fl = (s, ⟨2, none, 0, 0⟩) := by
  have n2 : kind ≠ 2 := by omega
  have n4 : kind ≠ 4 := by omega
  simp [hdoF, h, n2, n4]
theorem hdo_del_hit {d : DeclD} {s : HS} {key v fl : Int} {e : Ent} (h : efind s.es key = some e) : hdoF d s 3 key v fl = (⟨edel s.es key, s.clock, s.elems⟩, ⟨0, none, 0, 0⟩) := by
  simp [hdoF, h]
theorem hdo_take_hit {d : DeclD} {s : HS} {key v fl : Int} {e : Ent} (h : efind s.es key = some e) : hdoF d s 5 key v fl = (⟨edel s.es key, s.clock, s.elems⟩, ⟨0, some (elemV s e), 0, 0⟩) := by
  simp [hdoF, h]
theorem hdo_upd (d : DeclD) (s : HS) (key v fl : Int) : hdoF d s 2 key v fl = ((updF d s key v fl).1, ⟨(updF d s key v fl).2, none, 0, 0⟩) := rfl
end Go.Proofs.Ytbchkofadjeblaa
