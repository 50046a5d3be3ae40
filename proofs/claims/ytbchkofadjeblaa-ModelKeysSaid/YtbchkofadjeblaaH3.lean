/-
  What stays true of a hash whatever is done.
-/
import Derived.Test.YtbchkofadjeblaaT14
set_option linter.unusedVariables false
set_option linter.unusedSimpArgs false
namespace Go.Proofs.Ytbchkofadjeblaa
open Go Go.SL
theorem InvH.sub {d : DeclD} {s : HS} {es' : List Ent} (h : InvH d s) (hs : es'.Sublist s.es) : InvH d ⟨es', s.clock, s.elems⟩ := by
  have hm : ∀ e ∈ es', e ∈ s.es := fun e he => hs.mem he
  refine ⟨fun e he => h.keyU e (hm e he), fun e he => h.elem e (hm e he), fun e he => h.used e (hm e he), fun e he e' he' => h.uinj e (hm e he) e' (hm e' he'), fun e he e' he' => h.einj e (hm e he) e' (hm e' he'), (h.nodup).sublist (hs.map _), h.clk, h.len, ?_⟩
  have := hs.length_le
  have := h.cap
  simp only
  omega
theorem InvH.snoc {d : DeclD} {s : HS} {key v : Int} (h : InvH d s) (hk : isU key) (hn : ∀ e ∈ s.es, e.key ≠ key) (hlt : (s.es.length : Int) < d.entries) : InvH d ⟨s.es ++ [⟨key, s.elems.length + 1, s.clock + 1⟩], s.clock + 1, s.elems ++ [v]⟩ := by
  have hc := h.clk
  have hl := h.len
  constructor
  · intro e he
    rcases List.mem_append.1 he with he | he
    · exact h.keyU e he
    · rw [List.mem_singleton.1 he]; exact hk
  · intro e he
    simp only [List.length_append, List.length_singleton]
    rcases List.mem_append.1 he with he | he
    · have := h.elem e he; omega
    · rw [List.mem_singleton.1 he]; simp only; omega
  · intro e he
    simp only
    rcases List.mem_append.1 he with he | he
    · have := h.used e he; omega
    · rw [List.mem_singleton.1 he]; simp only; omega
  · intro e he e' he' hu
    rcases List.mem_append.1 he with he | he <;> rcases List.mem_append.1 he' with he' | he'
    · exact h.uinj e he e' he' hu
    · rw [List.mem_singleton.1 he'] at hu; have := h.used e he; simp only at hu; omega
    · rw [List.mem_singleton.1 he] at hu; have := h.used e' he'; simp only at hu; omega
    · rw [List.mem_singleton.1 he, List.mem_singleton.1 he']
  · intro e he e' he' hu
    rcases List.mem_append.1 he with he | he <;> rcases List.mem_append.1 he' with he' | he'
    · exact h.einj e he e' he' hu
    · rw [List.mem_singleton.1 he'] at hu; have := h.elem e he; simp only at hu; omega
    · rw [List.mem_singleton.1 he] at hu; have := h.elem e' he'; simp only at hu; omega
    · rw [List.mem_singleton.1 he, List.mem_singleton.1 he']
  · simp only [List.map_append, List.map_cons, List.map_nil]
    rw [List.nodup_append]
    refine ⟨h.nodup, by simp, ?_⟩
    intro a ha b hb hab
    obtain ⟨e, he, rfl⟩ := List.mem_map.1 ha
    rw [List.mem_singleton.1 hb] at hab
    exact hn e he hab
  · simp only; omega
  · simp only [List.length_append, List.length_singleton]; omega
  · simp only [List.length_append, List.length_singleton]; omega
theorem InvH.use {d : DeclD} {s : HS} {key : Int} {elems' : List Int} (h : InvH d s) (hl' : elems'.length = s.elems.length) : InvH d ⟨euse s.es key (s.clock + 1), s.clock + 1, elems'⟩ := by
  have hc := h.clk
  have hl := h.len
  constructor
  · intro e he
    obtain ⟨x, hx, h1, _, _⟩ := (euse_mem h.nodup).1 he
    rw [h1]; exact h.keyU x hx
  · intro e he
    obtain ⟨x, hx, _, h2, _⟩ := (euse_mem h.nodup).1 he
    simp only [h2, hl']; exact h.elem x hx
  · intro e he
    obtain ⟨x, hx, _, _, h3⟩ := (euse_mem h.nodup).1 he
    have := h.used x hx
    simp only
    rw [h3]
    split <;> omega
  · intro e he e' he' hu
    obtain ⟨x, hx, h1, _, h3⟩ := (euse_mem h.nodup).1 he
    obtain ⟨y, hy, g1, _, g3⟩ := (euse_mem h.nodup).1 he'
    rw [h1, g1]
    have u1 := h.used x hx
    have u2 := h.used y hy
    rw [h3, g3] at hu
    by_cases a : x.key = key <;> by_cases b : y.key = key
    · rw [a, b]
    · rw [if_pos a, if_neg b] at hu; omega
    · rw [if_neg a, if_pos b] at hu; omega
    · rw [if_neg a, if_neg b] at hu; exact h.uinj x hx y hy hu
  · intro e he e' he' hu
    obtain ⟨x, hx, h1, h2, _⟩ := (euse_mem h.nodup).1 he
    obtain ⟨y, hy, g1, g2, _⟩ := (euse_mem h.nodup).1 he'
    rw [h1, g1]
    rw [h2, g2] at hu
    exact h.einj x hx y hy hu
  · show ((euse s.es key (s.clock + 1)).map Ent.key).Nodup
    rw [(euse_keys _ _ _).1]; exact h.nodup
  · simp only; omega
  · simp only [hl']; omega
  · show ((euse s.es key (s.clock + 1)).length : Int) ≤ _
    rw [euse_len]; exact h.cap
theorem InvH.upd {d : DeclD} {s : HS} {key : Int} (v flag : Int) (h : InvH d s) (hk : isU key) (hd : 1 ≤ d.entries) : InvH d (updF d s key v flag).1 ∧ (updF d s key v flag).1.clock ≤ s.clock + 1 ∧ s.clock ≤ (updF d s key v flag).1.clock := by
  unfold updF
  cases hf : efind s.es key with
  | some e =>
    simp only
    split
    · exact ⟨h, by dsimp only; omega, by dsimp only; omega⟩
    · exact ⟨h.use (by simp), by simp, by simp only; omega⟩
  | none =>
    have hn := efind_none hf
    simp only
    split
    · exact ⟨h, by dsimp only; omega, by dsimp only; omega⟩
    · split
      · split
        · exact ⟨h, by dsimp only; omega, by dsimp only; omega⟩
        · rename_i hfull _
          have hne : s.es ≠ [] := by intro h0; rw [h0] at hfull; simp at hfull; omega
          obtain ⟨e0, he0, hk0⟩ := eldF_in hne
          have hl := edel_len he0 hk0
          have hc := h.cap
          have := (h.sub (edel_sub s.es (eldF s.es))).snoc (v := v) hk (fun e he => hn e ((edel_sub _ _).mem he)) (by simp only; omega)
          exact ⟨this, by simp, by simp only; omega⟩
      · rename_i hfull
        exact ⟨h.snoc hk hn (by omega), by simp, by simp only; omega⟩
theorem InvH.do {d : DeclD} {s : HS} {key : Int} (kind v flag : Int) (h : InvH d s) (hk : isU key) (hd : 1 ≤ d.entries) : InvH d (hdoF d s kind key v flag).1 ∧ (hdoF d s kind key v flag).1.clock ≤ s.clock + 1 ∧ s.clock ≤ (hdoF d s kind key v flag).1.clock := by
  unfold hdoF
  split
  · exact h.upd v flag hk hd
  · split
    · exact ⟨h, by simp only; omega, by simp only; omega⟩
    · cases hf : efind s.es key with
      | none => exact ⟨h, by simp only; omega, by simp only; omega⟩
      | some e =>
        simp only
        split
        · exact ⟨h.use rfl, by simp, by simp only; omega⟩
        · split
          · exact ⟨h.sub (edel_sub _ _), by simp only; omega, by simp only; omega⟩
          · exact ⟨h.sub (edel_sub _ _), by simp only; omega, by simp only; omega⟩
theorem InvH.init {d : DeclD} (hd : 1 ≤ d.entries) : InvH d ⟨[], 0, []⟩ :=
  ⟨by simp, by simp, by simp, by simp, by simp, by simp, by simp, by simp, by simp only [List.length_nil]; omega⟩
end Go.Proofs.Ytbchkofadjeblaa
