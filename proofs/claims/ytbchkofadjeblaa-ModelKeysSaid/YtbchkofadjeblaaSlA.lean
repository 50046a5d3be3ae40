/-
  A layer of triples with symbolic heaps over the kit's 'Code.wp': known temporaries, known blocks, everything else stays as it was. Plain lemmas, generic in the program.
-/
import Derived.WalkKit
set_option linter.unusedVariables false
set_option linter.unusedSimpArgs false
namespace Go.SL
open Go Go.RowKit

/-- Known temporaries: the latest first. -/
abbrev Tm := List (Nat × Value)
def Tm.get : Tm → Nat → Option Value
  | [], _ => none
  | (d, v) :: T, t => bif Nat.beq d t then some v else Tm.get T t

def TRel (n : Nat) (T : Tm) (a : Act) : Prop := a.defers = [] ∧ a.tmps.size = n ∧ ∀ t v, Tm.get T t = some v → a.tmps.getD t undef = v

def evO (T : Tm) : Operand → Option Value
  | .tmp t => Tm.get T t
  | .const v => some v
  | .global g => some (.pointer (some ⟨g, 0, none⟩))
  | .func f => some (.func (.func f) #[] #[])

theorem evO_eval {n : Nat} {T : Tm} {a : Act} (h : TRel n T a) {x : Operand} {v : Value} (hx : evO T x = some v) : a.eval x = v := by
  cases x with
  | tmp t => exact h.2.2 t v hx
  | const c => simpa [evO, Act.eval] using hx
  | global g => simpa [evO, Act.eval] using hx
  | func f => simpa [evO, Act.eval] using hx

theorem Tm.get_cons_self (d : Nat) (v : Value) (T : Tm) : Tm.get ((d, v) :: T) d = some v := by simp [Tm.get]
theorem Tm.get_cons_ne {d t : Nat} (h : d ≠ t) (v : Value) (T : Tm) : Tm.get ((d, v) :: T) t = Tm.get T t := by
  have : Nat.beq d t = false := by
    cases hb : Nat.beq d t with
    | false => rfl
    | true => exact absurd (Nat.eq_of_beq_eq_true hb) h
  simp [Tm.get, this]

/-- what a step puts -/
def putT (T : Tm) (dst : Option Nat) (v : Value) : Tm := match dst with | some d => (d, v) :: T | none => T
def okDst (n : Nat) (dst : Option Nat) : Bool := match dst with | some d => Nat.blt d n | none => true

theorem TRel.put {n : Nat} {T : Tm} {a : Act} (h : TRel n T a) {dst : Option Nat} (hd : okDst n dst = true) (v : Value) : TRel n (putT T dst v) (a.put dst v) := by
  cases dst with
  | none => exact h
  | some d =>
    obtain ⟨h0, h1, h2⟩ := h
    have hlt : d < n := by have := hd; simp only [okDst, Nat.blt, Nat.ble_eq] at this; omega
    refine ⟨h0, by simp [Act.put, h1], fun t u hu => ?_⟩
    by_cases e : d = t
    · subst e
      rw [putT, Tm.get_cons_self] at hu
      cases hu
      simp [Act.put, h1, hlt]
    · rw [putT, Tm.get_cons_ne e] at hu
      have := h2 t u hu
      simp only [Act.put, Array.getD_eq_getD_getElem?, Array.getElem?_setIfInBounds_ne e] at this ⊢
      exact this

/-- T knows at least what T1 knows -/
def Sub (T : Tm) : Tm → Prop
  | [] => True
  | (t, v) :: r => Tm.get T t = some v ∧ Sub T r

theorem Sub.get {T : Tm} : ∀ {T1 : Tm}, Sub T T1 → ∀ t v, Tm.get T1 t = some v → Tm.get T t = some v
  | [], _, t, v, h => by simp [Tm.get] at h
  | (d, u) :: r, ⟨h1, h2⟩, t, v, h => by
    by_cases e : d = t
    · subst e; rw [Tm.get_cons_self] at h; cases h; exact h1
    · rw [Tm.get_cons_ne e] at h; exact Sub.get h2 t v h

theorem TRel.sub {n : Nat} {T T1 : Tm} {a : Act} (h : TRel n T a) (hs : Sub T T1) : TRel n T1 a :=
  ⟨h.1, h.2.1, fun t v hv => h.2.2 t v (hs.get t v hv)⟩

/-- Known blocks. -/
inductive HObj
  | cells (cs : List Value) (e : TypeId)
  | pre (cs : List Value) (e : TypeId) (n : Nat)
  | obj (o : Obj)

def HObj.ok : HObj → Obj → Prop
  | .cells cs e, o => o = .cells cs.toArray e (0, 0)
  | .pre cs e n, o => ∃ rest : List Value, o = .cells (cs ++ rest).toArray e (0, 0) ∧ cs.length + rest.length = n
  | .obj o', o => o = o'

abbrev Hp := List (Nat × HObj)
abbrev ids (M : Hp) : List Nat := M.map Prod.fst

/-- The program, the world at the beginning, and its size: below it nothing is written. -/
structure Cx where
  P : Program
  w0 : World
  B : Nat
  hB : B ≤ w0.heap.size

structure Sat (C : Cx) (M : Hp) (w : World) : Prop where
  below : Below C.B C.w0 w
  nodup : (ids M).Nodup
  ge : ∀ x ∈ M, C.B ≤ x.1
  here : ∀ x ∈ M, ∃ o, w.heap[x.1]? = some o ∧ x.2.ok o

structure Ext (M : Hp) (w : World) (M' : Hp) (w' : World) : Prop where
  size : w.heap.size ≤ w'.heap.size
  keep : ∀ b, b < w.heap.size → b ∉ ids M → w'.heap[b]? = w.heap[b]?
  new : ∀ b ∈ ids M', b ∈ ids M ∨ w.heap.size ≤ b

theorem lt_of_some {w : World} {b : Nat} {o : Obj} (h : w.heap[b]? = some o) : b < w.heap.size := by
  rcases Nat.lt_or_ge b w.heap.size with h' | h'
  · exact h'
  · simp [Array.getElem?_eq_none h'] at h

theorem Sat.lt {C : Cx} {M : Hp} {w : World} (h : Sat C M w) {b : Nat} (hb : b ∈ ids M) : b < w.heap.size := by
  obtain ⟨x, hx, rfl⟩ := List.mem_map.1 hb
  obtain ⟨o, ho, _⟩ := h.here x hx
  exact lt_of_some ho

theorem Ext.refl (M : Hp) (w : World) : Ext M w M w := ⟨Nat.le_refl _, fun _ _ _ => rfl, fun _ h => .inl h⟩

theorem Ext.trans {M M1 M2 : Hp} {w w1 w2 : World} (h : Ext M w M1 w1) (k : Ext M1 w1 M2 w2) : Ext M w M2 w2 := by
  refine ⟨Nat.le_trans h.size k.size, fun b hb hn => ?_, fun b hb => ?_⟩
  · have hn1 : b ∉ ids M1 := fun hm => by
      rcases h.new b hm with h1 | h1
      · exact hn h1
      · omega
    rw [k.keep b (Nat.lt_of_lt_of_le hb h.size) hn1, h.keep b hb hn]
  · rcases k.new b hb with h1 | h1
    · exact h.new b h1
    · exact .inr (Nat.le_trans h.size h1)

/-- fewer known blocks at the end -/
theorem Ext.sub {M M1 M2 : Hp} {w w1 : World} (h : Ext M w M1 w1) (hs : ∀ b ∈ ids M2, b ∈ ids M1) : Ext M w M2 w1 :=
  ⟨h.size, h.keep, fun b hb => h.new b (hs b hb)⟩

theorem Sat.perm {C : Cx} {M M' : Hp} {w : World} (h : Sat C M w) (p : M.Perm M') : Sat C M' w :=
  ⟨h.below, (p.map Prod.fst).nodup_iff.1 h.nodup, fun x hx => h.ge x (p.mem_iff.2 hx), fun x hx => h.here x (p.mem_iff.2 hx)⟩

theorem Sat.left {C : Cx} {M F : Hp} {w : World} (h : Sat C (M ++ F) w) : Sat C M w :=
  ⟨h.below, by have := h.nodup; simp only [ids, List.map_append] at this; exact (List.nodup_append.1 this).1, fun x hx => h.ge x (List.mem_append_left _ hx), fun x hx => h.here x (List.mem_append_left _ hx)⟩

/-- the frame -/
theorem Sat.frame {C : Cx} {M M' F : Hp} {w w' : World} (h : Sat C (M ++ F) w) (h' : Sat C M' w') (e : Ext M w M' w') : Sat C (M' ++ F) w' ∧ Ext (M ++ F) w (M' ++ F) w' := by
  have hnd := h.nodup
  simp only [ids, List.map_append] at hnd
  obtain ⟨_, hF, hdis⟩ := List.nodup_append.1 hnd
  have hFnot : ∀ b ∈ ids F, b ∉ ids M := fun b hb hm => hdis b hm b hb rfl
  have hFlt : ∀ b ∈ ids F, b < w.heap.size := fun b hb => h.lt (by simp only [ids, List.map_append]; exact List.mem_append_right _ hb)
  refine ⟨⟨h'.below, ?_, ?_, ?_⟩, ⟨e.size, ?_, ?_⟩⟩
  · simp only [ids, List.map_append]
    refine List.nodup_append.2 ⟨h'.nodup, hF, ?_⟩
    intro b hb c hc hbc
    subst hbc
    rcases e.new b hb with h1 | h1
    · exact hFnot b hc h1
    · have := hFlt b hc; omega
  · intro x hx
    rcases List.mem_append.1 hx with hx | hx
    · exact h'.ge x hx
    · exact h.ge x (List.mem_append_right _ hx)
  · intro x hx
    rcases List.mem_append.1 hx with hx | hx
    · exact h'.here x hx
    · obtain ⟨o, ho, hok⟩ := h.here x (List.mem_append_right _ hx)
      have hb : x.1 ∈ ids F := List.mem_map_of_mem hx
      exact ⟨o, by rw [e.keep x.1 (hFlt _ hb) (hFnot _ hb)]; exact ho, hok⟩
  · intro b hb hn
    simp only [ids, List.map_append, List.mem_append, not_or] at hn
    exact e.keep b hb hn.1
  · intro b hb
    simp only [ids, List.map_append, List.mem_append] at hb ⊢
    rcases hb with hb | hb
    · rcases e.new b hb with h1 | h1
      · exact .inl (.inl h1)
      · exact .inr h1
    · exact .inl (.inr hb)

/-! ### code -/
def Post (C : Cx) (n : Nat) (M : Hp) (w : World) (K : Exit → Tm → Hp → Prop) : Exit → Act → World → Prop :=
  fun e a' w' => ∃ T' M', TRel n T' a' ∧ Sat C M' w' ∧ Ext M w M' w' ∧ K e T' M'

def AWp (C : Cx) (n : Nat) (c : Code) (T : Tm) (M : Hp) (K : Exit → Tm → Hp → Prop) : Prop :=
  ∀ a w, TRel n T a → Sat C M w → c.wp C.P (Post C n M w K) a w

def thenK (k : Tm → Hp → Prop) (K : Exit → Tm → Hp → Prop) : Exit → Tm → Hp → Prop
  | .normal, T, M => k T M
  | e, T, M => K e T M

def blockK (id : Nat) (K : Exit → Tm → Hp → Prop) : Exit → Tm → Hp → Prop
  | .exit id', T, M => if id' = id then K .normal T M else K (.exit id') T M
  | e, T, M => K e T M

section
variable {C : Cx} {n : Nat} {T : Tm} {M : Hp} {K : Exit → Tm → Hp → Prop}

theorem Post.trans {M1 : Hp} {w w1 : World} (h : Ext M w M1 w1) {e : Exit} {a' : Act} {w' : World} (p : Post C n M1 w1 K e a' w') : Post C n M w K e a' w' := by
  obtain ⟨T', M', h1, h2, h3, h4⟩ := p
  exact ⟨T', M', h1, h2, h.trans h3, h4⟩

theorem AWp.mono {c : Code} {K' : Exit → Tm → Hp → Prop} (h : AWp C n c T M K) (hk : ∀ e T' M', K e T' M' → K' e T' M') : AWp C n c T M K' :=
  fun a w ht hs => Code.wp_mono (fun _ _ _ ⟨T', M', h1, h2, h3, h4⟩ => ⟨T', M', h1, h2, h3, hk _ _ _ h4⟩) (h a w ht hs)

theorem AWp.seq {x y : Code} (h : AWp C n x T M (thenK (fun T' M' => AWp C n y T' M' K) K)) : AWp C n (.seq x y) T M K := by
  intro a w ht hs
  refine wp_seq (Code.wp_mono ?_ (h a w ht hs))
  rintro e a' w' ⟨T', M', h1, h2, h3, h4⟩
  cases e with
  | normal => exact Code.wp_mono (fun _ _ _ p => Post.trans h3 p) (h4 a' w' h1 h2)
  | _ => exact ⟨T', M', h1, h2, h3, h4⟩

theorem AWp.skip (h : K .normal T M) : AWp C n .skip T M K := fun _ w ht hs => wp_skip ⟨T, M, ht, hs, Ext.refl M w, h⟩
theorem AWp.label {l : Nat} (h : K .normal T M) : AWp C n (.label l) T M K := fun _ w ht hs => wp_label ⟨T, M, ht, hs, Ext.refl M w, h⟩
theorem AWp.exit {id : Nat} (h : K (.exit id) T M) : AWp C n (.exit id) T M K := fun _ w ht hs => wp_exit ⟨T, M, ht, hs, Ext.refl M w, h⟩
theorem AWp.ret (h : K .ret T M) : AWp C n .ret T M K := fun _ w ht hs => wp_ret ⟨T, M, ht, hs, Ext.refl M w, h⟩

theorem AWp.cond {c : Operand} {x y : Code} {t : Bool} (hc : evO T c = some (.bool t)) (h1 : t = true → AWp C n x T M K) (h2 : t = false → AWp C n y T M K) :
    AWp C n (.cond c x y) T M K := by
  intro a w ht hs
  exact wp_cond_split (evO_eval ht hc) (fun h => h1 h a w ht hs) (fun h => h2 h a w ht hs)
theorem AWp.cond_t {c : Operand} {x y : Code} {t : Bool} (hc : evO T c = some (.bool t)) (ht : t = true) (h1 : AWp C n x T M K) : AWp C n (.cond c x y) T M K :=
  AWp.cond hc (fun _ => h1) (fun h => by simp [ht] at h)
theorem AWp.cond_f {c : Operand} {x y : Code} {t : Bool} (hc : evO T c = some (.bool t)) (ht : t = false) (h1 : AWp C n y T M K) : AWp C n (.cond c x y) T M K :=
  AWp.cond hc (fun h => by simp [ht] at h) (fun _ => h1)
theorem AWp.cond_d {c : Operand} {x y : Code} {p : Prop} [Decidable p] (hc : evO T c = some (.bool (decide p))) (h1 : p → AWp C n x T M K) (h2 : ¬ p → AWp C n y T M K) :
    AWp C n (.cond c x y) T M K :=
  AWp.cond hc (fun h => h1 (of_decide_eq_true h)) (fun h => h2 (of_decide_eq_false h))

theorem AWp.block {id : Nat} {c : Code} (h : AWp C n c T M (blockK id K)) : AWp C n (.block id c) T M K := by
  intro a w ht hs
  refine wp_block (Code.wp_mono ?_ (h a w ht hs))
  rintro e a' w' ⟨T', M', h1, h2, h3, h4⟩
  cases e with
  | exit id' =>
    show (if id' = id then _ else _)
    have h4' : (if id' = id then K .normal T' M' else K (.exit id') T' M') := h4
    by_cases e : id' = id
    · rw [if_pos e] at h4' ⊢; exact ⟨T', M', h1, h2, h3, h4'⟩
    · rw [if_neg e] at h4' ⊢; exact ⟨T', M', h1, h2, h3, h4'⟩
  | _ => exact ⟨T', M', h1, h2, h3, h4⟩

/-- M has all that M1 has, and maybe more. -/
def Has (M M1 : Hp) : Prop := ∃ F, M.Perm (M1 ++ F)
theorem Has.refl (M : Hp) : Has M M := ⟨[], by simp⟩
theorem Sat.has {M1 : Hp} {w : World} (h : Sat C M w) (hh : Has M M1) : Sat C M1 w := by
  obtain ⟨F, p⟩ := hh; exact (h.perm p).left
theorem Has.ids {M1 : Hp} (hh : Has M M1) : ∀ b ∈ SL.ids M1, b ∈ SL.ids M := by
  obtain ⟨F, p⟩ := hh
  intro b hb
  have := (p.map Prod.fst).mem_iff (a := b)
  exact this.2 (by simp only [List.map_append]; exact List.mem_append_left _ hb)

/-- less is known -/
theorem AWp.weaken {c : Code} {T1 : Tm} {M1 : Hp} (hT : Sub T T1) (hM : Has M M1) (h : AWp C n c T1 M1 K) : AWp C n c T M K := by
  intro a w ht hs
  obtain ⟨F, p⟩ := hM
  have hs' := hs.perm p
  refine Code.wp_mono ?_ (h a w (ht.sub hT) hs'.left)
  rintro e a' w' ⟨T', M', h1, h2, h3, h4⟩
  refine ⟨T', M', h1, h2, ⟨h3.size, fun b hb hn => ?_, fun b hb => ?_⟩, h4⟩
  · refine h3.keep b hb (fun hm => hn ?_)
    exact Has.ids ⟨F, p⟩ b hm
  · rcases h3.new b hb with h | h
    · exact .inl (Has.ids ⟨F, p⟩ b h)
    · exact .inr h

/-- at the end less is told -/
theorem AWp.less {c : Code} (h : AWp C n c T M (fun e T' M' => ∃ T1 M1, Sub T' T1 ∧ Has M' M1 ∧ K e T1 M1)) : AWp C n c T M K := by
  intro a w ht hs
  refine Code.wp_mono ?_ (h a w ht hs)
  rintro e a' w' ⟨T', M', h1, h2, h3, T1, M1, hT, hM, h4⟩
  exact ⟨T1, M1, h1.sub hT, h2.has hM, h3.sub hM.ids, h4⟩

theorem wp_loop_rel {P : Program} {Q : Exit → Act → World → Prop} {c : Code} (R : Nat → Act → World → Prop) {a : Act} {w : World} (k0 : Nat) (h₀ : R k0 a w)
    (round : ∀ k a w, R k a w → c.wp P (Exit.then (fun a' w' => ∃ k', k' < k ∧ R k' a' w') Q) a w) : (Code.loop c).wp P Q a w := by
  intro b k cs
  have key : ∀ n a w, R n a w →
      ∃ e a' w', Q e a' w' ∧ Arrives P (lone (b.at a (.code c :: .inLoop c :: k)) cs w) b k cs e a' w' := by
    intro n
    induction n using Nat.strongRecOn with
    | _ n ih =>
      intro a w hI
      obtain ⟨e, a₁, w₁, hq, harr⟩ := round n a w hI b (.inLoop c :: k) cs
      cases e with
      | normal =>
        obtain ⟨k', hlt, hI₁⟩ := hq
        obtain ⟨e₂, a₂, w₂, hq₂, harr₂⟩ := ih k' hlt a₁ w₁ hI₁
        exact ⟨e₂, a₂, w₂, hq₂, .of_steps (Steps.trans harr (.one step_inLoop)) harr₂⟩
      | _ => exact ⟨_, a₁, w₁, hq, .pass (x := .inLoop c) rfl (fun _ _ => .inl (by simp)) harr⟩
  obtain ⟨e, a', w', hq, harr⟩ := key _ a w h₀
  exact ⟨e, a', w', hq, .of_steps (.one step_loop) harr⟩

/-- A loop: what is known at the head of each round, as a function of a state s; a measure. -/
theorem AWp.loop {σ : Type} {c : Code} (Tf : σ → Tm) (Mf : σ → Hp) (I : σ → Prop) (μ : σ → Nat) (s0 : σ) (h0 : I s0) (hT : Sub T (Tf s0)) (hM : Has M (Mf s0))
    (round : ∀ s, I s → AWp C n c (Tf s) (Mf s) (thenK (fun T' M' => ∃ s', I s' ∧ μ s' < μ s ∧ Sub T' (Tf s') ∧ Has M' (Mf s')) K)) :
    AWp C n (.loop c) T M K := by
  refine AWp.weaken hT hM ?_
  intro a w ht hs
  refine wp_loop_rel (fun k a' w' => ∃ s, μ s = k ∧ I s ∧ TRel n (Tf s) a' ∧ Sat C (Mf s) w' ∧ Ext (Mf s0) w (Mf s) w') (μ s0) ⟨s0, rfl, h0, ht, hs, Ext.refl _ _⟩ ?_
  rintro k a' w' ⟨s, rfl, hI, h1, h2, h3⟩
  refine Code.wp_mono ?_ (round s hI a' w' h1 h2)
  rintro e a2 w2 ⟨T', M', k1, k2, k3, k4⟩
  cases e with
  | normal =>
    obtain ⟨s', hI', hlt, hs1, hs2⟩ := k4
    exact ⟨μ s', hlt, s', rfl, hI', k1.sub hs1, k2.has hs2, h3.trans (k3.sub hs2.ids)⟩
  | _ => exact ⟨T', M', k1, k2, h3.trans k3, k4⟩

/-! ### calls -/
def ACalls (C : Cx) (f : FuncId) (args : List Value) (M : Hp) (K : Value → Hp → Prop) : Prop :=
  ∀ w, Sat C M w → Calls C.P f args.toArray w fun e w' => ∃ v M', e = .returned v ∧ Sat C M' w' ∧ Ext M w M' w' ∧ K v M'

theorem ACalls.mono {f : FuncId} {args : List Value} {k k' : Value → Hp → Prop} (h : ACalls C f args M k) (hk : ∀ v M', k v M' → k' v M') : ACalls C f args M k' :=
  fun w hs => (h w hs).mono fun _ _ ⟨v, M', h1, h2, h3, h4⟩ => ⟨v, M', h1, h2, h3, hk v M' h4⟩

theorem ACalls.frame {f : FuncId} {args : List Value} {k : Value → Hp → Prop} {F : Hp} (h : ACalls C f args M k) (M2 : Hp) (p : M2.Perm (M ++ F)) :
    ACalls C f args M2 (fun v M' => ∃ M1, k v M1 ∧ M' = M1 ++ F) := by
  intro w hs
  have hs' := hs.perm p
  refine (h w hs'.left).mono ?_
  rintro e w' ⟨v, M', h1, h2, h3, h4⟩
  obtain ⟨q1, q2⟩ := hs'.frame h2 h3
  refine ⟨v, M' ++ F, h1, q1, ⟨q2.size, fun b hb hn => q2.keep b hb fun hm => hn ?_, fun b hb => ?_⟩, M', h4, rfl⟩
  · exact ((p.map Prod.fst).mem_iff (a := b)).2 hm
  · rcases q2.new b hb with h | h
    · exact .inl (((p.map Prod.fst).mem_iff (a := b)).2 h)
    · exact .inr h

theorem ACalls.less {f : FuncId} {args : List Value} {k : Value → Hp → Prop} (h : ACalls C f args M (fun v M' => ∃ M1, Has M' M1 ∧ k v M1)) : ACalls C f args M k :=
  fun w hs => (h w hs).mono fun _ _ ⟨v, _, h1, h2, h3, M1, hM, h4⟩ => ⟨v, M1, h1, h2.has hM, h3.sub hM.ids, h4⟩

theorem ACalls.weaken {f : FuncId} {args : List Value} {k : Value → Hp → Prop} {M1 : Hp} (hM : Has M M1) (h : ACalls C f args M1 k) : ACalls C f args M k := by
  obtain ⟨F, p⟩ := hM
  exact ((h.frame M p).mono fun v M' ⟨M2, h2, e⟩ => ⟨M2, ⟨F, by rw [e]⟩, h2⟩).less
end
#print axioms AWp.loop
end Go.SL
