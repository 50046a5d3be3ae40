/-
  The layer of triples, seventh part: regions whose order the tape draws. A plan is checked once; what only reads is taken ahead, and must read the same behind whatever may come before it.
-/
import Derived.Test.YtbchkofadjeblaaSlF
import Derived.Orders
set_option linter.unusedVariables false
set_option linter.unusedSimpArgs false
namespace Go.SL
open Go Go.RowKit

/-- reads that are taken ahead: number, operation, value -/
abbrev Pend := List (Nat × Oper × Value)
def condP (P : Program) (x : Nat × Oper × Value) (a : Act) (w : World) : Prop := (execOp a.eval x.2.1).run P w = .ok (.value x.2.2) w

/-- is k ahead of j, by edges -/
def ahead (ops : Array Oper) : Nat → Nat → Nat → Bool
  | 0, _, _ => false
  | f + 1, k, j => match ops[j]? with
    | none => false
    | some o => o.after.toList.any fun e => Region.binds .any e && (e.on == k || ahead ops f k e.on)

def Closed (ops : Array Oper) (listed : Array Bool) : Prop :=
  ∀ j o, listed.getD j false = true → ops[j]? = some o → ∀ e ∈ o.after, Region.binds .any e = true → listed.getD e.on false = true

theorem ahead_false {ops : Array Oper} {listed : Array Bool} (hc : Closed ops listed) {k : Nat} (hk : listed.getD k false = false) : ∀ (f j : Nat),
    (∀ o, ops[j]? = some o → ∀ e ∈ o.after, Region.binds .any e = true → listed.getD e.on false = true) → ahead ops f k j = false
  | 0, _, _ => rfl
  | f + 1, j, h => by
    unfold ahead
    cases ho : ops[j]? with
    | none => rfl
    | some o =>
      simp only
      refine List.any_eq_false.2 (fun e he => ?_)
      have he' : e ∈ o.after := by simpa using he
      cases hb : Region.binds .any e with
      | false => simp
      | true =>
        have h1 := h o ho e he' hb
        have hne : e.on ≠ k := fun h2 => by rw [h2, hk] at h1; cases h1
        have ih := ahead_false hc hk f e.on (fun o' ho' e' he'' hb' => hc e.on o' h1 ho' e' he'' hb')
        simp [ih, hne]

def keepD (ops : Array Oper) (D : Pend) (j : Nat) : Pend := D.filter fun x => !ahead ops ops.size x.1 j
theorem mem_keepD {ops : Array Oper} {D : Pend} {j : Nat} {x : Nat × Oper × Value} : x ∈ keepD ops D j ↔ x ∈ D ∧ ahead ops ops.size x.1 j = false := by
  simp [keepD, List.mem_filter]

section
variable {P : Program} {ops : Array Oper} {Q Q' : Exit → Act → World → Prop}

theorem Oper.wp_mono2 {o : Oper} {a : Act} {w : World} {next next' : Act → World → Prop} (hn : ∀ a w, next a w → next' a w) (hp : ∀ c a w, Q (.panic c) a w → Q' (.panic c) a w) (ho : ∀ a w, Q .outgrown a w → Q' .outgrown a w)
    (h : o.wp P a w next Q) : o.wp P a w next' Q' := by
  unfold Oper.wp at h ⊢
  cases hr : (execOp a.eval o).run P w with
  | ok x w' =>
    rw [hr] at h
    cases x <;> first
      | exact hn _ _ h
      | exact h.elim
      | exact h.mono fun e w' he => (by cases e <;> first | exact hn _ _ he | exact hp _ _ _ he | (obtain ⟨a, w, q⟩ := he; exact ⟨a, w, ho _ _ q⟩))
      | exact h.mono fun v w' hv => hn _ _ hv
  | halt x w' =>
    rw [hr] at h
    cases x <;> first
      | exact hp _ _ _ h
      | exact h.elim

theorem Oper.wp_guard {dst : Option Nat} {op : Op} {ty : TypeId} {pos : String} {after : Array Edge} (g g' : Option (Nat × Bool)) {a : Act} {w : World} {next : Act → World → Prop} :
    Oper.wp P ⟨dst, op, ty, pos, after, g⟩ a w next Q = Oper.wp P ⟨dst, op, ty, pos, after, g'⟩ a w next Q := by
  unfold Oper.wp
  have he : execOp a.eval ⟨dst, op, ty, pos, after, g⟩ = execOp a.eval ⟨dst, op, ty, pos, after, g'⟩ := by cases op <;> rfl
  rw [he]
  rfl

def wpO (P : Program) (ops : Array Oper) (Q : Exit → Act → World → Prop) (i : Nat) (K : Act → World → Prop) (a : Act) (w : World) : Prop :=
  match ops[i]? with
  | none => K a w
  | some o => if Region.wanted o (yielded ops a.tmps) then o.wp P a w K Q else K (a.put o.dst undef) w

theorem wpO_mono {i : Nat} {a : Act} {w : World} {K K' : Act → World → Prop} (hk : ∀ a w, K a w → K' a w) (hq : ∀ e a w, Q e a w → Q' e a w) (h : wpO P ops Q i K a w) : wpO P ops Q' i K' a w := by
  unfold wpO at *
  cases ho : ops[i]? with
  | none => simp only [ho] at h ⊢; exact hk _ _ h
  | some o =>
    simp only [ho] at h ⊢
    by_cases hw : Region.wanted o (yielded ops a.tmps) = true
    · rw [if_pos hw] at h ⊢; exact Oper.wp_mono' hk hq h
    · rw [if_neg hw] at h ⊢; exact hk _ _ h
theorem wpO_wpOp {i : Nat} {a : Act} {w : World} {K : Act → World → Prop} (h : wpO P ops Q i K a w) : wpOp P ops Q i K a w := by
  unfold wpO at h
  unfold wpOp
  cases ho : ops[i]? with
  | none => simp only [ho] at h ⊢; exact h
  | some o =>
    simp only [ho] at h ⊢
    by_cases hw : Region.wanted o (yielded ops a.tmps) = true
    · rw [if_pos hw] at h ⊢; exact .inl h
    · rw [if_neg hw] at h ⊢; exact h

def wpD (P : Program) (ops : Array Oper) (Q : Exit → Act → World → Prop) : Nat → Pend → Array Bool → Act → World → Prop
  | 0, _, listed, a, w => Region.ready .any ops listed = [] ∧ Q .normal a w
  | f + 1, D, listed, a, w => (Region.ready .any ops listed = [] → Q .normal a w) ∧
    ∀ i ∈ Region.ready .any ops listed, wpO P ops Q i (fun a' w' => (∀ x ∈ keepD ops D i, condP P x a' w') ∧ wpD P ops Q f (keepD ops D i) (listed.setIfInBounds i true) a' w') a w

theorem wpD_any : ∀ (f : Nat) (D : Pend) (listed : Array Bool) (a : Act) (w : World), wpD P ops Q f D listed a w → wpAny P .any ops Q f listed a w
  | 0, _, _, _, _, h => h
  | f + 1, D, listed, a, w, h => ⟨h.1, fun i hi => wpO_wpOp (wpO_mono (fun a' w' h' => wpD_any f _ _ a' w' h'.2) (fun _ _ _ q => q) (h.2 i hi))⟩
theorem wpD_mono (hq : ∀ e a w, Q e a w → Q' e a w) : ∀ (f : Nat) (D D' : Pend), (∀ x ∈ D', x ∈ D) → ∀ (listed : Array Bool) (a : Act) (w : World), wpD P ops Q f D listed a w → wpD P ops Q' f D' listed a w
  | 0, _, _, _, _, _, _, h => ⟨h.1, hq _ _ _ h.2⟩
  | f + 1, D, D', hs, listed, a, w, h => by
    refine ⟨fun hr => hq _ _ _ (h.1 hr), fun i hi => wpO_mono (fun a' w' h' => ?_) hq (h.2 i hi)⟩
    have hs' : ∀ x ∈ keepD ops D' i, x ∈ keepD ops D i := fun x hx => mem_keepD.2 ⟨hs x (mem_keepD.1 hx).1, (mem_keepD.1 hx).2⟩
    exact ⟨fun x hx => h'.1 x (hs' x hx), wpD_mono hq f _ _ hs' _ a' w' h'.2⟩

/-- Whether a value that is put already makes no difference to an operation apart. -/
theorem wpO_put {j : Nat} {oi oj : Oper} {v : Value} (W : Act → Prop) (hW1 : ∀ a u, W a → W (a.put oj.dst u)) (hW2 : ∀ a d, W a → W { a with defers := d :: a.defers })
    (hj : ops[j]? = some oj) (hap : oi.apart ops oj = true) (hsj : ∀ cs b, oj.op ≠ .select cs b)
    (hQ : ∀ c a w, ¬ Q (.panic c) a w) {K : Act → World → Prop} {a : Act} {w : World} (hy : W a) (h : wpO P ops Q j K (a.put oi.dst v) w) :
    wpO P ops Q j (fun a' w' => W a' ∧ K (a'.put oi.dst v) w') a w := by
  obtain ⟨h1, h2, h3⟩ := Oper.apart_spec hap
  unfold wpO at *
  simp only [hj] at *
  rw [wanted_put oj a oi.dst v h1] at h
  by_cases hw : Region.wanted oj (yielded ops a.tmps) = true
  · rw [if_pos hw] at h ⊢
    unfold Oper.wp at *
    rw [execOp_put oj hsj a oi.dst v h1] at h
    generalize (execOp a.eval oj).run P w = r at *
    cases r with
    | ok n w' =>
      cases n <;> simp only [Oper.upon] at h ⊢
      case value u => exact ⟨hW1 _ _ hy, by rw [← Act.put_comm a v u h2]; exact h⟩
      case skip => exact ⟨hW1 _ _ hy, by rw [← Act.put_comm a v undef h2]; exact h⟩
      case defer d =>
        refine ⟨hW1 _ _ (hW2 _ d hy), ?_⟩
        rw [← Act.put_comm _ v undef h2, ← Act.put_defers]
        exact h
      case enter f args =>
        refine Calls.mono h fun e w'' he => ?_
        cases e with
        | returned u => exact ⟨hW1 _ _ hy, by rw [← Act.put_comm a v u h2]; exact he⟩
        | panicked c => exact absurd he (hQ _ _ _)
        | outgrown => exact he
      case row row args => exact Rows.mono h fun u w'' he => ⟨hW1 _ _ hy, by rw [← Act.put_comm a v u h2]; exact he⟩
    | halt x w' =>
      cases x <;> simp only [Oper.upon] at h ⊢
      case panic u => exact absurd h (hQ _ _ _)
  · rw [if_neg hw] at h ⊢
    exact ⟨hW1 _ _ hy, by rw [← Act.put_comm a v undef h2]; exact h⟩

def Wanted (ops : Array Oper) (o : Oper) (a : Act) : Prop := Region.wanted o (yielded ops a.tmps) = true
theorem Wanted.put {o oj : Oper} (h3 : ∀ d, oj.dst = some d → d ∉ o.looksAt ops) (a : Act) (u : Value) (h : Wanted ops o a) : Wanted ops o (a.put oj.dst u) := by
  unfold Wanted at *
  rw [wanted_put o a oj.dst u h3]; exact h
theorem Wanted.defers {o : Oper} (a : Act) (d : Deferred) (h : Wanted ops o a) : Wanted ops o { a with defers := d :: a.defers } := h

/-- what o writes is not looked at by x -/
def unseen (ops : Array Oper) (o x : Oper) : Bool := match o.dst with | some d => !(x.looksAt ops).contains d | none => true
theorem unseen_spec {o x : Oper} (h : unseen ops o x = true) : ∀ d, o.dst = some d → d ∉ x.looksAt ops := by
  intro d hd
  simpa [unseen, hd] using h
theorem condP_put {x : Nat × Oper × Value} (hs : ∀ cs b, x.2.1.op ≠ .select cs b) {o : Oper} (hap : unseen ops o x.2.1 = true) (a : Act) (v : Value) (w : World) : condP P x (a.put o.dst v) w ↔ condP P x a w := by
  have h1 := unseen_spec hap
  unfold condP
  rw [execOp_put x.2.1 hs a o.dst v h1]

theorem Closed.set {listed : Array Bool} (hc : Closed ops listed) {j : Nat} (hj : j ∈ Region.ready .any ops listed) : Closed ops (listed.setIfInBounds j true) := by
  intro i o hi ho e he hb
  by_cases hij : j = i
  · subst hij
    obtain ⟨_, o', ho', hall⟩ := mem_ready.1 hj
    rw [ho] at ho'; cases ho'
    exact getD_set_true (hall e he hb)
  · rw [getD_set_ne false hij] at hi
    exact getD_set_true (hc i o hi ho e he hb)

theorem not_after {listed : Array Bool} {i j : Nat} (hr : i ∈ Region.ready .any ops listed) (hj : j ∈ Region.ready .any ops listed) {oj : Oper} (hoj : ops[j]? = some oj) : ∀ e ∈ oj.after, Region.binds .any e = true → e.on ≠ i := by
  intro e he hb heq
  obtain ⟨_, o', ho', hall⟩ := mem_ready.1 hj
  rw [hoj] at ho'; cases ho'
  have h1 := hall e he hb
  have h0 := (mem_ready.1 hr).1
  rw [heq] at h1
  rcases Nat.lt_or_ge i listed.size with h' | h'
  · simp [h'] at h0 h1; rw [h0] at h1; cases h1
  · simp [Array.getElem?_eq_none h'] at h1
theorem ready_not {listed : Array Bool} {i : Nat} (hr : i ∈ Region.ready .any ops listed) : listed.getD i false = false := by
  have h0 := (mem_ready.1 hr).1
  rcases Nat.lt_or_ge i listed.size with h' | h'
  · simp [h'] at h0 ⊢; exact h0
  · simp [Array.getElem?_eq_none h'] at h0

/-- What yields its value whatever the world holds may be taken first. -/
theorem wpD_first {i : Nat} {oi : Oper} {v : Value} (hi : ops[i]? = some oi) (hsel : ∀ (j : Nat) (o : Oper) cs b, ops[j]? = some o → o.op ≠ .select cs b)
    (hQ : ∀ c a w, ¬ Q (.panic c) a w) (W : Act → Prop) (hW1 : ∀ (oj : Oper), oi.apart ops oj = true → ∀ a u, W a → W (a.put oj.dst u)) (hW2 : ∀ a d, W a → W { a with defers := d :: a.defers })
    (hW : ∀ a w, W a → ∀ K : Act → World → Prop, K (a.put oi.dst v) w → wpO P ops Q i K a w) :
    ∀ (f : Nat) (D : Pend) (listed : Array Bool) (a : Act) (w : World),
      (∀ j oj, ops[j]? = some oj → j ≠ i → listed.getD j true = false → (∀ e ∈ oj.after, Region.binds .any e = true → e.on ≠ i) → oi.apart ops oj = true) →
      i ∈ Region.ready .any ops listed → (∀ x ∈ D, ops[x.1]? = some x.2.1 ∧ unseen ops oi x.2.1 = true) → W a → (∀ x ∈ D, condP P x a w) →
      wpD P ops Q f D (listed.setIfInBounds i true) (a.put oi.dst v) w → wpD P ops Q (f + 1) D listed a w := by
  intro f
  induction f with
  | zero =>
    intro D listed a w _ hr hD hy hc H
    refine ⟨fun h => (by rw [h] at hr; cases hr), fun j hj => ?_⟩
    by_cases hji : j = i
    · subst hji
      refine hW a w hy _ ⟨fun x hx => ?_, H.1, H.2⟩
      have hx' := (mem_keepD.1 hx).1
      exact (condP_put (fun cs b => hsel _ _ cs b (hD x hx').1) (hD x hx').2 a v w).2 (hc x hx')
    · have := ready_mono hj hji
      rw [H.1] at this
      cases this
  | succ f ih =>
    intro D listed a w hfree hr hD hy hc H
    refine ⟨fun h => (by rw [h] at hr; cases hr), fun j hj => ?_⟩
    by_cases hji : j = i
    · subst hji
      refine hW a w hy _ ⟨fun x hx => ?_, wpD_mono (fun _ _ _ q => q) _ _ _ (fun x hx => (mem_keepD.1 hx).1) _ _ _ H⟩
      have hx' := (mem_keepD.1 hx).1
      exact (condP_put (fun cs b => hsel _ _ cs b (hD x hx').1) (hD x hx').2 a v w).2 (hc x hx')
    · have h1 := H.2 j (ready_mono hj hji)
      obtain ⟨hjun, oj, hoj, hall⟩ := mem_ready.1 hj
      have hap := hfree j oj hoj hji hjun (not_after hr hj hoj)
      have h2 := wpO_put W (hW1 oj hap) hW2 hoj hap (fun cs b => hsel j oj cs b hoj) hQ hy h1
      have hfree' : ∀ k ok, ops[k]? = some ok → k ≠ i → (listed.setIfInBounds j true).getD k true = false →
          (∀ e ∈ ok.after, Region.binds .any e = true → e.on ≠ i) → oi.apart ops ok = true := fun k ok hk hki hun hno => by
        refine hfree k ok hk hki ?_ hno
        by_cases hjk : j = k
        · subst hjk; exact hjun
        · rw [getD_set_ne true hjk] at hun; exact hun
      refine wpO_mono (fun a' w' h3 => ?_) (fun _ _ _ q => q) h2
      have hc' : ∀ x ∈ keepD ops D j, condP P x a' w' := fun x hx =>
        (condP_put (fun cs b => hsel _ _ cs b (hD x (mem_keepD.1 hx).1).1) (hD x (mem_keepD.1 hx).1).2 a' v w').1 (h3.2.1 x hx)
      refine ⟨hc', ih (keepD ops D j) (listed.setIfInBounds j true) a' w' hfree' (ready_mono hr (Ne.symm hji)) (fun x hx => hD x (mem_keepD.1 hx).1) h3.1 hc' ?_⟩
      rw [Array.setIfInBounds_comm _ _ hji]
      exact h3.2.2

/-- What reads may be taken first, if it reads the same behind all that may come before it. -/
theorem wpD_read {i : Nat} {oi : Oper} {v : Value} (hi : ops[i]? = some oi) (hsel : ∀ (j : Nat) (o : Oper) cs b, ops[j]? = some o → o.op ≠ .select cs b)
    (hQ : ∀ c a w, ¬ Q (.panic c) a w) :
    ∀ (f : Nat) (D : Pend) (listed : Array Bool) (a : Act) (w : World),
      (∀ j oj, ops[j]? = some oj → j ≠ i → listed.getD j true = false → (∀ e ∈ oj.after, Region.binds .any e = true → e.on ≠ i) → oi.apart ops oj = true) → Closed ops listed →
      i ∈ Region.ready .any ops listed → (∀ x ∈ D, ops[x.1]? = some x.2.1 ∧ unseen ops oi x.2.1 = true) → Wanted ops oi a → (∀ d, oi.dst = some d → d ∉ oi.looksAt ops) → (∀ x ∈ D, condP P x a w) → condP P (i, oi, v) a w →
      wpD P ops Q f ((i, oi, v) :: D) (listed.setIfInBounds i true) (a.put oi.dst v) w → wpD P ops Q (f + 1) D listed a w := by
  have now : ∀ (a : Act) (w : World), Wanted ops oi a → condP P (i, oi, v) a w → ∀ K : Act → World → Prop, K (a.put oi.dst v) w → wpO P ops Q i K a w := by
    intro a w hw hv K hk
    unfold wpO
    simp only [hi]
    rw [if_pos (show Region.wanted oi (yielded ops a.tmps) = true from hw)]
    unfold Oper.wp
    have hv' : (execOp a.eval oi).run P w = .ok (.value v) w := hv
    rw [hv']
    exact hk
  intro f
  induction f with
  | zero =>
    intro D listed a w _ _ hr hD hy hself hc hv H
    refine ⟨fun h => (by rw [h] at hr; cases hr), fun j hj => ?_⟩
    by_cases hji : j = i
    · subst hji
      refine now a w hy hv _ ⟨fun x hx => ?_, H.1, H.2⟩
      have hx' := (mem_keepD.1 hx).1
      exact (condP_put (fun cs b => hsel _ _ cs b (hD x hx').1) (hD x hx').2 a v w).2 (hc x hx')
    · have := ready_mono hj hji
      rw [H.1] at this
      cases this
  | succ f ih =>
    intro D listed a w hfree hcl hr hD hy hself hc hv H
    refine ⟨fun h => (by rw [h] at hr; cases hr), fun j hj => ?_⟩
    by_cases hji : j = i
    · subst hji
      refine now a w hy hv _ ⟨fun x hx => ?_, wpD_mono (fun _ _ _ q => q) _ _ _ (fun x hx => List.mem_cons_of_mem _ (mem_keepD.1 hx).1) _ _ _ H⟩
      have hx' := (mem_keepD.1 hx).1
      exact (condP_put (fun cs b => hsel _ _ cs b (hD x hx').1) (hD x hx').2 a v w).2 (hc x hx')
    · have h1 := H.2 j (ready_mono hj hji)
      obtain ⟨hjun, oj, hoj, hall⟩ := mem_ready.1 hj
      have hap := hfree j oj hoj hji hjun (not_after hr hj hoj)
      obtain ⟨g1, g2, g3⟩ := Oper.apart_spec hap
      have hah : ahead ops ops.size i j = false := ahead_false hcl (ready_not hr) _ _ (fun o ho e he hb => by rw [hoj] at ho; cases ho; exact hall e he hb)
      have hkeep : keepD ops ((i, oi, v) :: D) j = (i, oi, v) :: keepD ops D j := by simp [keepD, List.filter_cons, hah]
      rw [hkeep] at h1
      have h2 := wpO_put (Wanted ops oi) (Wanted.put g3) Wanted.defers hoj hap (fun cs b => hsel j oj cs b hoj) hQ hy h1
      have hfree' : ∀ k ok, ops[k]? = some ok → k ≠ i → (listed.setIfInBounds j true).getD k true = false →
          (∀ e ∈ ok.after, Region.binds .any e = true → e.on ≠ i) → oi.apart ops ok = true := fun k ok hk hki hun hno => by
        refine hfree k ok hk hki ?_ hno
        by_cases hjk : j = k
        · subst hjk; exact hjun
        · rw [getD_set_ne true hjk] at hun; exact hun
      refine wpO_mono (fun a' w' h3 => ?_) (fun _ _ _ q => q) h2
      have hc' : ∀ x ∈ keepD ops D j, condP P x a' w' := fun x hx =>
        (condP_put (fun cs b => hsel _ _ cs b (hD x (mem_keepD.1 hx).1).1) (hD x (mem_keepD.1 hx).1).2 a' v w').1 (h3.2.1 x (List.mem_cons_of_mem _ hx))
      have hv' : condP P (i, oi, v) a' w' := by
        have := h3.2.1 _ (List.mem_cons_self ..)
        unfold condP at this ⊢
        rwa [execOp_put oi (fun cs b => hsel i oi cs b hi) a' oi.dst v hself] at this
      refine ⟨hc', ih (keepD ops D j) (listed.setIfInBounds j true) a' w' hfree' (hcl.set hj) (ready_mono hr (Ne.symm hji)) (fun x hx => hD x (mem_keepD.1 hx).1) h3.1 hself hc' hv' ?_⟩
      rw [Array.setIfInBounds_comm _ _ hji]
      exact h3.2.2
end

/-! ### plans -/
def lst (ops : Array Oper) : List Nat → Array Bool
  | [] => Array.replicate ops.size false
  | i :: L => (lst ops L).setIfInBounds i true

/-- 0: yields whatever the world holds; 1: reads; 2: all else. -/
def kindOf (o : Oper) : Nat :=
  match o.op with
  | .load .. | .lookup .. => 1
  | .call ⟨.builtin .len, _, _⟩ => 1
  | .move _ | .assign _ | .pick .. | .build .. | .nilCheck _ | .binOp .. | .unOp .. | .convert .. | .makeInterface .. | .makeFunc .. | .slice .. | .fieldAddr .. | .field .. | .indexAddr .. | .index .. | .extract .. | .typeAssert .. => 0
  | _ => 2

def apartD (ops : Array Oper) (Dk : List Nat) (o : Oper) : Bool := Dk.all fun k => match ops[k]? with | some x => unseen ops o x | none => false
def selfApart (ops : Array Oper) (o : Oper) : Bool := match o.dst with | some d => !(o.looksAt ops).contains d | none => true

inductive Pl
  | done
  | take (i : Nat) (r : Pl)
  | two (i j : Nat) (a b : Pl)

def chk (ops : Array Oper) : Nat → Pl → List Nat → List Nat → Bool
  | _, .done, _, L => (Region.ready .any ops (lst ops L)).isEmpty
  | 0, _, _, _ => false
  | f + 1, .take i rest, Dk, L =>
    match ops[i]? with
    | none => false
    | some o => apartD ops Dk o && (match kindOf o with
      | 0 => (Region.ready .any ops (lst ops L)).contains i && (Region.free .any ops (lst ops L) i && chk ops f rest Dk (i :: L))
      | 1 => (Region.ready .any ops (lst ops L)).contains i && (Region.free .any ops (lst ops L) i && (selfApart ops o && chk ops f rest (i :: Dk) (i :: L)))
      | _ => Region.ready .any ops (lst ops L) == [i] && chk ops f rest (Dk.filter fun k => !ahead ops ops.size k i) (i :: L))
  | f + 1, .two i j a b, Dk, L =>
    Region.ready .any ops (lst ops L) == [i, j] && (chk ops f a (Dk.filter fun k => !ahead ops ops.size k i) (i :: L) && chk ops f b (Dk.filter fun k => !ahead ops ops.size k j) (j :: L))

/-- first what is no effect -/
def planGo (ops : Array Oper) : Nat → List Nat → Pl
  | 0, _ => .done
  | f + 1, L =>
    match (Region.ready .any ops (lst ops L)).find? (fun i => match ops[i]? with | some o => Nat.blt (kindOf o) 2 | none => false) with
    | some i => .take i (planGo ops f (i :: L))
    | none => match Region.ready .any ops (lst ops L) with
      | [] => .done
      | [i] => .take i (planGo ops f (i :: L))
      | i :: j :: _ => .two i j (planGo ops f (i :: L)) (planGo ops f (j :: L))

def noP (K : Exit → Tm → Hp → Prop) : Prop := ∀ c T M, ¬ K (.panic c) T M
theorem noP.thenK {k : Tm → Hp → Prop} {K : Exit → Tm → Hp → Prop} (h : noP K) : noP (thenK k K) := fun c T M hk => h c T M hk
theorem noP.blockK {id : Nat} {K : Exit → Tm → Hp → Prop} (h : noP K) : noP (blockK id K) := fun c T M hk => h c T M hk
theorem noP.endK {C : Cx} {rs : List ResultVar} {k : Value → Hp → Prop} : noP (endK C rs k) := fun _ _ _ hk => hk

section
variable {C : Cx} {n : Nat} {T : Tm} {M : Hp} {K : Exit → Tm → Hp → Prop} {ops : Array Oper} {plan rest : Pl} {D : Pend} {L : List Nat}

def AD (C : Cx) (n : Nat) (ops : Array Oper) (plan : Pl) (D : Pend) (L : List Nat) (T : Tm) (M : Hp) (K : Exit → Tm → Hp → Prop) : Prop :=
  ∀ f Dk, chk ops f plan Dk L = true → (∀ x ∈ D, x.1 ∈ Dk) → (∀ x ∈ D, ops[x.1]? = some x.2.1) → Region.noSelect ops = true → noP K → Closed ops (lst ops L) →
  ∀ a w, TRel n T a → Sat C M w → (∀ x ∈ D, condP C.P x a w) → wpD C.P ops (Post C n M w K) f D (lst ops L) a w

theorem Post.noPanic {w0 : World} (h : noP K) : ∀ c a w, ¬ Post C n M w0 K (.panic c) a w := by
  rintro c a w ⟨T', M', _, _, _, h4⟩
  exact h c T' M' h4

theorem apartD_spec {Dk : List Nat} {o : Oper} (h : apartD ops Dk o = true) (hk : ∀ x ∈ D, x.1 ∈ Dk) (hD : ∀ x ∈ D, ops[x.1]? = some x.2.1) : ∀ x ∈ D, ops[x.1]? = some x.2.1 ∧ unseen ops o x.2.1 = true := by
  intro x hx
  refine ⟨hD x hx, ?_⟩
  have := List.all_eq_true.1 h x.1 (hk x hx)
  rw [hD x hx] at this
  exact this

theorem Sat.drawn {w : World} (h : Sat C M w) : Sat C M { w with drawn := w.drawn + 1 } :=
  ⟨⟨h.below.os, h.below.tape, h.below.output, h.below.size, h.below.block⟩, h.nodup, h.ge, h.here⟩

theorem AD.done (hp : plan = .done) (h : K .normal T M) : AD C n ops plan D L T M K := by
  subst hp
  intro f Dk hc hDk hD hs hP hcl a w ht hsat hcond
  have hr : Region.ready .any ops (lst ops L) = [] := by
    have : (Region.ready .any ops (lst ops L)).isEmpty = true := by cases f <;> exact hc
    simpa using this
  have hq : Post C n M w K .normal a w := ⟨T, M, ht, hsat, Ext.refl M w, h⟩
  cases f with
  | zero => exact ⟨hr, hq⟩
  | succ f => exact ⟨fun _ => hq, fun i hi => by rw [hr] at hi; cases hi⟩

theorem AD.core0 {i : Nat} {o : Oper} {v : Value} (hp : plan = .take i rest) (hi : ops[i]? = some o) (hk : kindOf o = 0) (hd : okDst n o.dst = true)
    (W : Act → Prop) (hW0 : ∀ a, TRel n T a → W a) (hW1 : ∀ (oj : Oper), o.apart ops oj = true → ∀ a u, W a → W (a.put oj.dst u)) (hW2 : ∀ a d, W a → W { a with defers := d :: a.defers })
    (hW : ∀ a w (Q : Exit → Act → World → Prop), W a → ∀ K : Act → World → Prop, K (a.put o.dst v) w → wpO C.P ops Q i K a w)
    (k : AD C n ops rest D (i :: L) (putT T o.dst v) M K) : AD C n ops plan D L T M K := by
  subst hp
  intro f Dk hc hDk hD hs hP hcl a w ht hsat hcond
  cases f with
  | zero => simp [chk] at hc
  | succ f =>
  simp only [chk, hi, hk, Bool.and_eq_true] at hc
  obtain ⟨h1, h2, h3, h4⟩ := hc
  have hr : i ∈ Region.ready .any ops (lst ops L) := by simpa using h2
  have hsel := Region.noSelect_spec hs
  have hD' := apartD_spec h1 hDk hD
  refine wpD_first hi hsel (Post.noPanic hP) W hW1 hW2 (fun a w => hW a w _) f D (lst ops L) a w (Region.free_spec hi h3) hr hD' (hW0 a ht) hcond ?_
  have hcl' := hcl.set hr
  refine k f Dk h4 hDk hD hs hP hcl' (a.put o.dst v) w (ht.put hd v) hsat (fun x hx => ?_)
  exact (condP_put (fun cs b => hsel _ _ cs b (hD x hx)) (hD' x hx).2 a v w).2 (hcond x hx)

/-- an operation that yields whatever the world holds -/
theorem AD.pu {i : Nat} {d : Nat} {op : Op} {ty : TypeId} {pos : String} {after : Array Edge} {v : Value} (hp : plan = .take i rest) (hi : ops[i]? = some ⟨some d, op, ty, pos, after, none⟩)
    (h : PU C n T ⟨some d, op, ty, pos, after, none⟩ v) (hk : kindOf ⟨some d, op, ty, pos, after, none⟩ = 0) (hd : okDst n (some d) = true)
    (k : AD C n ops rest D (i :: L) ((d, v) :: T) M K) : AD C n ops plan D L T M K := by
  intro f Dk hc hDk hD hs
  have hsel := Region.noSelect_spec hs i ⟨some d, op, ty, pos, after, none⟩
  refine AD.core0 (v := v) hp hi hk hd (fun a => ∀ w, (execOp a.eval ⟨some d, op, ty, pos, after, none⟩).run C.P w = .ok (.value v) w) (fun a ht => h a ht) ?_ (fun a _ hw => hw) ?_ k f Dk hc hDk hD hs
  · intro oj hap a u hw w
    obtain ⟨_, _, h3⟩ := Oper.apart_spec hap
    rw [execOp_put _ (fun cs b => hsel cs b hi) a oj.dst u h3]
    exact hw w
  · intro a w Q hw K' hk'
    unfold wpO
    simp only [hi]
    rw [if_pos (by simp [Region.wanted])]
    unfold Oper.wp
    rw [hw w]
    exact hk'
theorem AD.pug {i : Nat} {d : Nat} {op : Op} {ty : TypeId} {pos : String} {after : Array Edge} {j : Nat} {want b : Bool} {v : Value} (hp : plan = .take i rest) (hi : ops[i]? = some ⟨some d, op, ty, pos, after, some (j, want)⟩)
    (hj : gval ops T j = some (.bool b)) (hb : b = want)
    (h : PU C n T ⟨some d, op, ty, pos, after, some (j, want)⟩ v) (hk : kindOf ⟨some d, op, ty, pos, after, some (j, want)⟩ = 0) (hd : okDst n (some d) = true)
    (k : AD C n ops rest D (i :: L) ((d, v) :: T) M K) : AD C n ops plan D L T M K := by
  intro f Dk hc hDk hD hs
  have hsel := Region.noSelect_spec hs i ⟨some d, op, ty, pos, after, some (j, want)⟩
  refine AD.core0 (v := v) hp hi hk hd (fun a => Wanted ops ⟨some d, op, ty, pos, after, some (j, want)⟩ a ∧ ∀ w, (execOp a.eval ⟨some d, op, ty, pos, after, some (j, want)⟩).run C.P w = .ok (.value v) w)
    (fun a ht => ⟨by simp [Wanted, Region.wanted, gval_yielded ht hj, hb], h a ht⟩) ?_ (fun a _ hw => hw) ?_ k f Dk hc hDk hD hs
  · intro oj hap a u hw
    obtain ⟨_, _, h3⟩ := Oper.apart_spec hap
    refine ⟨Wanted.put h3 a u hw.1, fun w => ?_⟩
    rw [execOp_put _ (fun cs b => hsel cs b hi) a oj.dst u h3]
    exact hw.2 w
  · intro a w Q hw K' hk'
    unfold wpO
    simp only [hi]
    rw [if_pos (show Region.wanted _ (yielded ops a.tmps) = true from hw.1)]
    unfold Oper.wp
    rw [hw.2 w]
    exact hk'
/-- one that is not wanted -/
theorem AD.off {i : Nat} {dst : Option Nat} {op : Op} {ty : TypeId} {pos : String} {after : Array Edge} {j : Nat} {want b : Bool} (hp : plan = .take i rest) (hi : ops[i]? = some ⟨dst, op, ty, pos, after, some (j, want)⟩)
    (hj : gval ops T j = some (.bool b)) (hb : b = !want) (hk : Nat.blt (kindOf ⟨dst, op, ty, pos, after, some (j, want)⟩) 2 = true) (hd : okDst n dst = true)
    (k : AD C n ops rest D (i :: L) (putT T dst undef) M K) : AD C n ops plan D L T M K := by
  subst hp
  intro f Dk hc hDk hD hs hP hcl a w ht hsat hcond
  cases f with
  | zero => simp [chk] at hc
  | succ f =>
  have hex : ∃ Dk', (∀ k ∈ Dk, k ∈ Dk') ∧ apartD ops Dk ⟨dst, op, ty, pos, after, some (j, want)⟩ = true ∧ (Region.ready .any ops (lst ops L)).contains i = true ∧ Region.free .any ops (lst ops L) i = true ∧ chk ops f rest Dk' (i :: L) = true := by
    have hk2 : kindOf ⟨dst, op, ty, pos, after, some (j, want)⟩ = 0 ∨ kindOf ⟨dst, op, ty, pos, after, some (j, want)⟩ = 1 := by
      simp only [Nat.blt, Nat.ble_eq] at hk; omega
    rcases hk2 with hk2 | hk2
    · simp only [chk, hi, hk2, Bool.and_eq_true] at hc
      exact ⟨Dk, fun k hk => hk, hc.1, hc.2.1, hc.2.2.1, hc.2.2.2⟩
    · simp only [chk, hi, hk2, Bool.and_eq_true] at hc
      exact ⟨i :: Dk, fun k hk => List.mem_cons_of_mem _ hk, hc.1, hc.2.1, hc.2.2.1, hc.2.2.2.2⟩
  obtain ⟨Dk', hsub, h1, h2, h3, h4⟩ := hex
  have hr : i ∈ Region.ready .any ops (lst ops L) := by simpa using h2
  have hsel := Region.noSelect_spec hs
  have hD' := apartD_spec h1 hDk hD
  refine wpD_first (v := undef) hi hsel (Post.noPanic hP) (fun a => Region.wanted ⟨dst, op, ty, pos, after, some (j, want)⟩ (yielded ops a.tmps) = false) ?_ (fun a _ hw => hw) ?_ f D (lst ops L) a w (Region.free_spec hi h3) hr hD' (by simp [Region.wanted, gval_yielded ht hj, hb]) hcond ?_
  · intro oj hap a u hw
    obtain ⟨_, _, h3⟩ := Oper.apart_spec hap
    rw [wanted_put _ a oj.dst u h3]
    exact hw
  · intro a w hw K' hk'
    unfold wpO
    simp only [hi]
    rw [if_neg (by rw [hw]; simp)]
    exact hk'
  · have hcl' := hcl.set hr
    refine k f Dk' h4 (fun x hx => hsub _ (hDk x hx)) hD hs hP hcl' (a.put dst undef) w (ht.put hd undef) hsat (fun x hx => ?_)
    exact (condP_put (o := ⟨dst, op, ty, pos, after, some (j, want)⟩) (fun cs b => hsel _ _ cs b (hD x hx)) (hD' x hx).2 a undef w).2 (hcond x hx)

/-- a read -/
theorem AD.core1 {i : Nat} {d : Nat} {op : Op} {ty : TypeId} {pos : String} {after : Array Edge} {g : Option (Nat × Bool)} {v : Value} (hp : plan = .take i rest) (hi : ops[i]? = some ⟨some d, op, ty, pos, after, g⟩)
    (h : PV C n T M ⟨some d, op, ty, pos, after, g⟩ v) (hw : ∀ a, TRel n T a → Wanted ops ⟨some d, op, ty, pos, after, g⟩ a) (hk : kindOf ⟨some d, op, ty, pos, after, g⟩ = 1) (hd : okDst n (some d) = true)
    (k : AD C n ops rest ((i, ⟨some d, op, ty, pos, after, g⟩, v) :: D) (i :: L) ((d, v) :: T) M K) : AD C n ops plan D L T M K := by
  subst hp
  intro f Dk hc hDk hD hs hP hcl a w ht hsat hcond
  cases f with
  | zero => simp [chk] at hc
  | succ f =>
  simp only [chk, hi, hk, Bool.and_eq_true] at hc
  obtain ⟨h1, h2, h3, h4, h5⟩ := hc
  have hr : i ∈ Region.ready .any ops (lst ops L) := by simpa using h2
  have hsel := Region.noSelect_spec hs
  have hD' := apartD_spec h1 hDk hD
  have hself : ∀ e, (some d : Option Nat) = some e → e ∉ (⟨some d, op, ty, pos, after, g⟩ : Oper).looksAt ops := by
    intro e he
    cases he
    simpa [selfApart] using h4
  have hv := h a w ht hsat
  refine wpD_read (v := v) hi hsel (Post.noPanic hP) f D (lst ops L) a w (Region.free_spec hi h3) hcl hr hD' (hw a ht) hself hcond hv ?_
  have hcl' := hcl.set hr
  refine k f (i :: Dk) h5 ?_ ?_ hs hP hcl' (a.put (some d) v) w (ht.put hd v) hsat ?_
  · intro x hx
    cases hx with
    | head => exact List.mem_cons_self ..
    | tail _ hx => exact List.mem_cons_of_mem _ (hDk x hx)
  · intro x hx
    cases hx with
    | head => exact hi
    | tail _ hx => exact hD x hx
  · intro x hx
    cases hx with
    | head =>
      show (execOp (a.put (some d) v).eval _).run C.P w = _
      rw [execOp_put _ (fun cs b => hsel i _ cs b hi) a (some d) v hself]
      exact hv
    | tail _ hx => exact (condP_put (o := ⟨some d, op, ty, pos, after, g⟩) (fun cs b => hsel _ _ cs b (hD x hx)) (hD' x hx).2 a v w).2 (hcond x hx)
theorem AD.pv {i : Nat} {d : Nat} {op : Op} {ty : TypeId} {pos : String} {after : Array Edge} {v : Value} (hp : plan = .take i rest) (hi : ops[i]? = some ⟨some d, op, ty, pos, after, none⟩)
    (h : PV C n T M ⟨some d, op, ty, pos, after, none⟩ v) (hk : kindOf ⟨some d, op, ty, pos, after, none⟩ = 1) (hd : okDst n (some d) = true)
    (k : AD C n ops rest ((i, ⟨some d, op, ty, pos, after, none⟩, v) :: D) (i :: L) ((d, v) :: T) M K) : AD C n ops plan D L T M K :=
  AD.core1 hp hi h (fun a _ => by simp [Wanted, Region.wanted]) hk hd k
theorem AD.pvg {i : Nat} {d : Nat} {op : Op} {ty : TypeId} {pos : String} {after : Array Edge} {j : Nat} {want b : Bool} {v : Value} (hp : plan = .take i rest) (hi : ops[i]? = some ⟨some d, op, ty, pos, after, some (j, want)⟩)
    (hj : gval ops T j = some (.bool b)) (hb : b = want)
    (h : PV C n T M ⟨some d, op, ty, pos, after, some (j, want)⟩ v) (hk : kindOf ⟨some d, op, ty, pos, after, some (j, want)⟩ = 1) (hd : okDst n (some d) = true)
    (k : AD C n ops rest ((i, ⟨some d, op, ty, pos, after, some (j, want)⟩, v) :: D) (i :: L) ((d, v) :: T) M K) : AD C n ops plan D L T M K :=
  AD.core1 hp hi h (fun a ht => by simp [Wanted, Region.wanted, gval_yielded ht hj, hb]) hk hd k

def PVs (C : Cx) (n : Nat) (T : Tm) (M : Hp) : Pend → Prop
  | [] => True
  | x :: D => PV C n T M x.2.1 x.2.2 ∧ PVs C n T M D
theorem PVs.all {a : Act} {w : World} : ∀ {D : Pend}, PVs C n T M D → TRel n T a → Sat C M w → ∀ x ∈ D, condP C.P x a w
  | [], _, _, _, _, hx => by cases hx
  | _ :: _, ⟨h1, h2⟩, ht, hs, x, hx => by
    cases hx with
    | head => exact h1 a w ht hs
    | tail _ hx => exact PVs.all h2 ht hs x hx
theorem PVs.nil (h : D = []) : PVs C n T M D := by subst h; trivial
theorem PVs.cons {x : Nat × Oper × Value} {D' : Pend} (h : D = x :: D') (h1 : PV C n T M x.2.1 x.2.2) (h2 : PVs C n T M D') : PVs C n T M D := by subst h; exact ⟨h1, h2⟩

/-- behind an effect -/
def effK (C : Cx) (n : Nat) (ops : Array Oper) (rest : Pl) (D : Pend) (L : List Nat) (K : Exit → Tm → Hp → Prop) : Exit → Tm → Hp → Prop
  | .normal, T, M => PVs C n T M D ∧ AD C n ops rest D L T M K
  | e, T, M => K e T M
theorem effK.nn (h1 : PVs C n T M D) (h2 : AD C n ops rest D L T M K) : effK C n ops rest D L K .normal T M := ⟨h1, h2⟩

theorem keepD_in {Dk : List Nat} {i : Nat} (hDk : ∀ x ∈ D, x.1 ∈ Dk) : ∀ x ∈ keepD ops D i, x.1 ∈ Dk.filter fun k => !ahead ops ops.size k i := by
  intro x hx
  obtain ⟨h1, h2⟩ := mem_keepD.1 hx
  exact List.mem_filter.2 ⟨hDk x h1, by simp [h2]⟩

/-- one effect at its turn -/
theorem AD.coreE {i f : Nat} {Dk : List Nat} {dst : Option Nat} {op : Op} {ty : TypeId} {pos : String} {after : Array Edge} {g : Option (Nat × Bool)} (hi : ops[i]? = some ⟨dst, op, ty, pos, after, g⟩)
    (hg : ∀ a, TRel n T a → Wanted ops ⟨dst, op, ty, pos, after, g⟩ a)
    (h : AL C n ops [(⟨dst, op, ty, pos, after, none⟩, [])] T M (effK C n ops rest (keepD ops D i) (i :: L) K))
    (hc : chk ops f rest (Dk.filter fun k => !ahead ops ops.size k i) (i :: L) = true) (hDk : ∀ x ∈ D, x.1 ∈ Dk) (hD : ∀ x ∈ D, ops[x.1]? = some x.2.1) (hs : Region.noSelect ops = true) (hP : noP K) (hcl' : Closed ops (lst ops (i :: L)))
    {a : Act} {w : World} (ht : TRel n T a) (hsat : Sat C M w) :
    wpO C.P ops (Post C n M w K) i (fun a' w' => (∀ x ∈ keepD ops D i, condP C.P x a' w') ∧ wpD C.P ops (Post C n M w K) f (keepD ops D i) (lst ops (i :: L)) a' w') a w := by
  have hall := h a w ht hsat
  unfold wpLR at hall
  rw [if_pos (by simp [Region.wanted])] at hall
  unfold wpO
  simp only [hi]
  rw [if_pos (show Region.wanted _ (yielded ops a.tmps) = true from hg a ht)]
  rw [Oper.wp_guard none g] at hall
  refine Oper.wp_mono2 (o := ⟨dst, op, ty, pos, after, g⟩) (fun a' w' hw' => ?_) (fun c a' w' hq => ?_) (fun a' w' hq => ?_) hall
  · obtain ⟨_, T', M', g1, g2, g3, g4, g5⟩ := (show _ ∧ Post C n M w (effK C n ops rest (keepD ops D i) (i :: L) K) .normal a' w' from hw')
    have hD2 : ∀ x ∈ keepD ops D i, ops[x.1]? = some x.2.1 := fun x hx => hD x (mem_keepD.1 hx).1
    have hcond' := g4.all g1 g2
    exact ⟨hcond', wpD_mono (fun _ _ _ q => Post.trans g3 q) _ _ _ (fun _ hx => hx) _ _ _ (g5 f _ hc (keepD_in hDk) hD2 hs hP hcl' a' w' g1 g2 hcond')⟩
  · obtain ⟨T', M', g1, g2, g3, g4⟩ := hq
    exact ⟨T', M', g1, g2, g3, g4⟩
  · obtain ⟨T', M', g1, g2, g3, g4⟩ := hq
    exact ⟨T', M', g1, g2, g3, g4⟩

theorem AD.coreE1 {i : Nat} {dst : Option Nat} {op : Op} {ty : TypeId} {pos : String} {after : Array Edge} {g : Option (Nat × Bool)} (hp : plan = .take i rest) (hi : ops[i]? = some ⟨dst, op, ty, pos, after, g⟩)
    (hg : ∀ a, TRel n T a → Wanted ops ⟨dst, op, ty, pos, after, g⟩ a) (hk : kindOf ⟨dst, op, ty, pos, after, g⟩ = 2)
    (h : AL C n ops [(⟨dst, op, ty, pos, after, none⟩, [])] T M (effK C n ops rest (keepD ops D i) (i :: L) K)) : AD C n ops plan D L T M K := by
  subst hp
  intro f Dk hc hDk hD hs hP hcl a w ht hsat hcond
  cases f with
  | zero => simp [chk] at hc
  | succ f =>
  simp only [chk, hi, hk, Bool.and_eq_true] at hc
  obtain ⟨h1, h2, h3⟩ := hc
  have hr : Region.ready .any ops (lst ops L) = [i] := by simpa using h2
  have hcl' := hcl.set (j := i) (by rw [hr]; simp)
  refine ⟨fun h0 => (by rw [hr] at h0; cases h0), fun k hk' => ?_⟩
  rw [hr] at hk'
  simp only [List.mem_singleton] at hk'
  subst hk'
  exact AD.coreE hi hg h h3 hDk hD hs hP hcl' ht hsat
theorem AD.eff {i : Nat} {dst : Option Nat} {op : Op} {ty : TypeId} {pos : String} {after : Array Edge} (hp : plan = .take i rest) (hi : ops[i]? = some ⟨dst, op, ty, pos, after, none⟩)
    (hk : kindOf ⟨dst, op, ty, pos, after, none⟩ = 2)
    (h : AL C n ops [(⟨dst, op, ty, pos, after, none⟩, [])] T M (effK C n ops rest (keepD ops D i) (i :: L) K)) : AD C n ops plan D L T M K :=
  AD.coreE1 hp hi (fun a _ => by simp [Wanted, Region.wanted]) hk h
theorem AD.effg {i : Nat} {dst : Option Nat} {op : Op} {ty : TypeId} {pos : String} {after : Array Edge} {j : Nat} {want b : Bool} (hp : plan = .take i rest) (hi : ops[i]? = some ⟨dst, op, ty, pos, after, some (j, want)⟩)
    (hj : gval ops T j = some (.bool b)) (hb : b = want) (hk : kindOf ⟨dst, op, ty, pos, after, some (j, want)⟩ = 2)
    (h : AL C n ops [(⟨dst, op, ty, pos, after, none⟩, [])] T M (effK C n ops rest (keepD ops D i) (i :: L) K)) : AD C n ops plan D L T M K :=
  AD.coreE1 hp hi (fun a ht => by simp [Wanted, Region.wanted, gval_yielded ht hj, hb]) hk h
theorem AD.off2 {i : Nat} {dst : Option Nat} {op : Op} {ty : TypeId} {pos : String} {after : Array Edge} {j : Nat} {want b : Bool} (hp : plan = .take i rest) (hi : ops[i]? = some ⟨dst, op, ty, pos, after, some (j, want)⟩)
    (hj : gval ops T j = some (.bool b)) (hb : b = !want) (hk : kindOf ⟨dst, op, ty, pos, after, some (j, want)⟩ = 2) (hd : okDst n dst = true)
    (k : AD C n ops rest (keepD ops D i) (i :: L) (putT T dst undef) M K) : AD C n ops plan D L T M K := by
  subst hp
  intro f Dk hc hDk hD hs hP hcl a w ht hsat hcond
  cases f with
  | zero => simp [chk] at hc
  | succ f =>
  simp only [chk, hi, hk, Bool.and_eq_true] at hc
  obtain ⟨h1, h2, h3⟩ := hc
  have hr : Region.ready .any ops (lst ops L) = [i] := by simpa using h2
  have hcl' := hcl.set (j := i) (by rw [hr]; simp)
  have hsel := Region.noSelect_spec hs
  have hD' := apartD_spec h1 hDk hD
  have hcond' : ∀ x ∈ keepD ops D i, condP C.P x (a.put dst undef) w := fun x hx =>
    (condP_put (o := ⟨dst, op, ty, pos, after, some (j, want)⟩) (fun cs b => hsel _ _ cs b (hD x (mem_keepD.1 hx).1)) (hD' x (mem_keepD.1 hx).1).2 a undef w).2 (hcond x (mem_keepD.1 hx).1)
  refine ⟨fun h0 => (by rw [hr] at h0; cases h0), fun k' hk' => ?_⟩
  rw [hr] at hk'
  simp only [List.mem_singleton] at hk'
  subst hk'
  unfold wpO
  simp only [hi]
  rw [if_neg (by simp [Region.wanted, gval_yielded ht hj, hb])]
  exact ⟨hcond', k f _ h3 (keepD_in hDk) (fun x hx => hD x (mem_keepD.1 hx).1) hs hP hcl' _ w (ht.put hd undef) hsat hcond'⟩
/-- two effects, whichever comes first -/
theorem AD.two {i j : Nat} {r1 r2 : Pl} {dst dst' : Option Nat} {op op' : Op} {ty ty' : TypeId} {pos pos' : String} {after after' : Array Edge} (hp : plan = .two i j r1 r2) (hi : ops[i]? = some ⟨dst, op, ty, pos, after, none⟩) (hj : ops[j]? = some ⟨dst', op', ty', pos', after', none⟩)
    (h1 : AL C n ops [(⟨dst, op, ty, pos, after, none⟩, [])] T M (effK C n ops r1 (keepD ops D i) (i :: L) K))
    (h2 : AL C n ops [(⟨dst', op', ty', pos', after', none⟩, [])] T M (effK C n ops r2 (keepD ops D j) (j :: L) K)) : AD C n ops plan D L T M K := by
  subst hp
  intro f Dk hc hDk hD hs hP hcl a w ht hsat hcond
  cases f with
  | zero => simp [chk] at hc
  | succ f =>
  simp only [chk, Bool.and_eq_true] at hc
  obtain ⟨g1, g2, g3⟩ := hc
  have hr : Region.ready .any ops (lst ops L) = [i, j] := by simpa using g1
  refine ⟨fun h0 => (by rw [hr] at h0; cases h0), fun k hk' => ?_⟩
  rw [hr] at hk'
  simp only [List.mem_cons, List.not_mem_nil, or_false] at hk'
  rcases hk' with rfl | rfl
  · exact AD.coreE hi (fun a _ => by simp [Wanted, Region.wanted]) h1 g2 hDk hD hs hP (hcl.set (by rw [hr]; simp)) ht hsat
  · exact AD.coreE hj (fun a _ => by simp [Wanted, Region.wanted]) h2 g3 hDk hD hs hP (hcl.set (by rw [hr]; simp)) ht hsat

class Mix (P : Program) : Prop where
  fact : P.follows .mixedOrders = true

def planOk (ops : Array Oper) (plan : Pl) : Bool := Region.noSelect ops && chk ops ops.size plan [] []
theorem AWp.drawn [Mix C.P] {id : Nat} (hc : planOk ops plan = true) (hP : noP K) (h : AD C n ops plan [] [] T M K) : AWp C n (.region id ops true) T M K := by
  intro a w ht hs
  simp only [planOk, Bool.and_eq_true] at hc
  obtain ⟨h2, h3⟩ := hc
  refine wp_region_any (Mix.fact (P := C.P)) ?_
  have hcl : Closed ops (lst ops []) := fun j o hj => by
    simp only [lst] at hj
    rw [Array.getD_eq_getD_getElem?, Array.getElem?_replicate] at hj
    split at hj <;> simp at hj
  have hw := h _ _ h3 (fun x hx => by cases hx) (fun x hx => by cases hx) h2 hP hcl a _ ht hs.drawn (fun x hx => by cases hx)
  exact wpD_any _ _ _ _ _ (wpD_mono (fun e a' w' ⟨T', M', g1, g2, g3, g4⟩ => ⟨T', M', g1, g2, ⟨g3.size, g3.keep, g3.new⟩, g4⟩) _ _ _ (fun _ hx => hx) _ _ _ hw)
theorem AD.go {ops : Array Oper} {plan : Pl} {D : Pend} {L : List Nat} (h : AD C n ops plan D L T M K) : AD C n ops plan D L T M K := h
theorem AL.go {ops : Array Oper} {l : List (Oper × List Oper)} (h : AL C n ops l T M K) : AL C n ops l T M K := h
theorem AWp.go {c : Code} (h : AWp C n c T M K) : AWp C n c T M K := h
end
end Go.SL
