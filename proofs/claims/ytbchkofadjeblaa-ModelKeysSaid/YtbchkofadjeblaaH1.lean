/-
  What a hash does, in plain words: entries, the eldest one, the next key.
-/
import Derived.Test.YtbchkofadjeblaaT6
set_option linter.unusedVariables false
set_option linter.unusedSimpArgs false
namespace Go.Proofs.Ytbchkofadjeblaa
open Go Go.SL

/-- the least by a measure -/
def minBy {α : Type} (f : α → Int) : List α → Option α
  | [] => none
  | a :: l => match minBy f l with
    | none => some a
    | some m => if f m < f a then some m else some a
theorem minBy_none {α : Type} {f : α → Int} : ∀ {l : List α}, minBy f l = none → l = []
  | [], _ => rfl
  | a :: l, h => by
    unfold minBy at h
    split at h
    · cases h
    · split at h <;> cases h
theorem minBy_some {α : Type} {f : α → Int} : ∀ {l : List α} {m : α}, minBy f l = some m → m ∈ l ∧ ∀ a ∈ l, f m ≤ f a
  | [], _, h => by simp [minBy] at h
  | a :: l, m, h => by
    unfold minBy at h
    split at h
    · rename_i h0
      cases h
      rw [minBy_none h0]
      simp
    · rename_i m0 h0
      obtain ⟨h1, h2⟩ := minBy_some h0
      split at h
      · cases h
        rename_i hlt
        refine ⟨List.mem_cons_of_mem _ h1, fun b hb => ?_⟩
        cases hb with
        | head => omega
        | tail _ hb => exact h2 b hb
      · cases h
        rename_i hlt
        refine ⟨List.mem_cons_self .., fun b hb => ?_⟩
        cases hb with
        | head => omega
        | tail _ hb => have := h2 b hb; omega
/-- it is the one whose measure is least, if no two have the same -/
theorem minBy_eq {α : Type} {f : α → Int} {l : List α} {m : α} (hm : m ∈ l) (h : ∀ a ∈ l, f m ≤ f a) (hinj : ∀ a ∈ l, f a = f m → a = m) : minBy f l = some m := by
  cases h0 : minBy f l with
  | none => rw [minBy_none h0] at hm; cases hm
  | some m0 =>
    obtain ⟨h1, h2⟩ := minBy_some h0
    have e1 := h m0 h1
    have e2 := h2 m hm
    rw [hinj m0 h1 (by omega)]

/-! keys in order -/
def rank (d : DeclD) (k : Int) : Int := (bucketF k (if bucketedOf d.kind then d.buckets else 0)) * 18446744073709551616 + k
def isU (k : Int) : Prop := 0 ≤ k ∧ k < 18446744073709551616
theorem rank_inj {d : DeclD} {a b : Int} (ha : isU a) (hb : isU b) (h : rank d a = rank d b) : a = b := by
  unfold rank at h
  unfold isU at ha hb
  omega
def aheadF (d : DeclD) (a b : Int) : Bool := decide (rank d a < rank d b)
def behindF (d : DeclD) (flag key k : Int) : Bool := decide (flag = 1) || aheadF d key k
def nextF (d : DeclD) (keys : List Int) (flag key : Int) : Option Int := minBy (rank d) (keys.filter (behindF d flag key))
theorem nextF_some {d : DeclD} {keys : List Int} {flag key k : Int} (hU : ∀ j ∈ keys, isU j) (h1 : k ∈ keys) (h2 : behindF d flag key k = true) (h3 : ∀ j ∈ keys, behindF d flag key j = true → rank d k ≤ rank d j) : nextF d keys flag key = some k := by
  refine minBy_eq (List.mem_filter.2 ⟨h1, h2⟩) (fun a ha => h3 a (List.mem_filter.1 ha).1 (List.mem_filter.1 ha).2) (fun a ha he => rank_inj (hU a (List.mem_filter.1 ha).1) (hU k h1) he)
theorem nextF_none {d : DeclD} {keys : List Int} {flag key : Int} (h : ∀ j ∈ keys, behindF d flag key j = false) : nextF d keys flag key = none := by
  have : keys.filter (behindF d flag key) = [] := List.filter_eq_nil_iff.2 (fun j hj => by simp [h j hj])
  unfold nextF
  rw [this]; rfl
theorem nextF_inv {d : DeclD} {keys : List Int} {flag key k : Int} (h : nextF d keys flag key = some k) : k ∈ keys ∧ behindF d flag key k = true ∧ ∀ j ∈ keys, behindF d flag key j = true → rank d k ≤ rank d j := by
  obtain ⟨h1, h2⟩ := minBy_some h
  have := List.mem_filter.1 h1
  exact ⟨this.1, this.2, fun j hj hb => h2 j (List.mem_filter.2 ⟨hj, hb⟩)⟩
theorem nextF_none_inv {d : DeclD} {keys : List Int} {flag key : Int} (h : nextF d keys flag key = none) : ∀ j ∈ keys, behindF d flag key j = false := by
  intro j hj
  have h0 := minBy_none h
  have := List.filter_eq_nil_iff.1 h0 j hj
  simpa using this

/-! entries -/
structure Ent where
  (key elem used : Int)
/-- an entry, its block, its stamp -/
structure HEnt where
  (key elem used : Int) (blk born : Nat)
abbrev HEnt.e (h : HEnt) : Ent := ⟨h.key, h.elem, h.used⟩
abbrev HEnt.m (h : HEnt) : MEnt := ⟨h.key, .pointer (some ⟨h.blk, 0, none⟩), h.born⟩
abbrev HEnt.b (h : HEnt) : Nat × HObj := (h.blk, .cells [.int .i64 h.elem, .int .u64 0, .int .i64 h.used] 186)
def efind : List Ent → Int → Option Ent
  | [], _ => none
  | e :: l, k => if k = e.key then some e else efind l k
def edel : List Ent → Int → List Ent
  | [], _ => []
  | e :: l, k => if k = e.key then l else e :: edel l k
def euse : List Ent → Int → Int → List Ent
  | [], _, _ => []
  | e :: l, k, u => if k = e.key then ⟨e.key, e.elem, u⟩ :: l else e :: euse l k u
structure HS where
  (es : List Ent) (clock : Int) (elems : List Int)
def eldF (l : List Ent) : Int := ((minBy Ent.used l).map Ent.key).getD 0
/-- entries as they are found: none, or a first one -/
theorem hfind (hs : List HEnt) (k : Int) : (lkp (hs.map HEnt.m) k = none ∧ efind (hs.map HEnt.e) k = none ∧ (∀ h ∈ hs, h.key ≠ k)) ∨
    ∃ l1 h l2, hs = l1 ++ h :: l2 ∧ h.key = k ∧ (∀ x ∈ l1, x.key ≠ k) ∧ lkp (hs.map HEnt.m) k = some (.pointer (some ⟨h.blk, 0, none⟩)) ∧ efind (hs.map HEnt.e) k = some h.e := by
  induction hs with
  | nil => exact .inl ⟨rfl, rfl, by simp⟩
  | cons x hs ih =>
    by_cases hk : k = x.key
    · exact .inr ⟨[], x, hs, rfl, hk.symm, by simp, by simp [lkp, hk], by simp [efind, hk]⟩
    · rcases ih with ⟨h1, h2, h3⟩ | ⟨l1, h, l2, rfl, h2, h3, h4, h5⟩
      · refine .inl ⟨by simpa [lkp, hk] using h1, by simpa [efind, hk] using h2, ?_⟩
        intro y hy
        cases hy with
        | head => exact fun e => hk e.symm
        | tail _ hy => exact h3 y hy
      · refine .inr ⟨x :: l1, h, l2, rfl, h2, ?_, by simpa [lkp, hk] using h4, by simpa [efind, hk] using h5⟩
        intro y hy
        cases hy with
        | head => exact fun e => hk e.symm
        | tail _ hy => exact h3 y hy
theorem del_at {l1 l2 : List HEnt} {h : HEnt} {k : Int} (hk : h.key = k) (h1 : ∀ x ∈ l1, x.key ≠ k) : del ((l1 ++ h :: l2).map HEnt.m) k = (l1 ++ l2).map HEnt.m ∧ edel ((l1 ++ h :: l2).map HEnt.e) k = (l1 ++ l2).map HEnt.e := by
  induction l1 with
  | nil => simp [del, edel, hk]
  | cons x l1 ih =>
    have hx : ¬ k = x.key := fun e => h1 x (List.mem_cons_self ..) e.symm
    obtain ⟨a, b⟩ := ih (fun y hy => h1 y (List.mem_cons_of_mem _ hy))
    simp only [List.cons_append, List.map_cons, del, edel, hx, if_false, a, b, and_self]
theorem use_at {l1 l2 : List HEnt} {h : HEnt} {k u : Int} (hk : h.key = k) (h1 : ∀ x ∈ l1, x.key ≠ k) : euse ((l1 ++ h :: l2).map HEnt.e) k u = (l1 ++ { h with used := u } :: l2).map HEnt.e := by
  induction l1 with
  | nil => simp [euse, hk]
  | cons x l1 ih =>
    have hx : ¬ k = x.key := fun e => h1 x (List.mem_cons_self ..) e.symm
    have := ih (fun y hy => h1 y (List.mem_cons_of_mem _ hy))
    simp only [List.cons_append, List.map_cons, euse, hx, if_false, this]
end Go.Proofs.Ytbchkofadjeblaa
