/-
  The layer of triples, second part: regions, operations.
-/
import Derived.Test.YtbchkofadjeblaaSlA
set_option linter.unusedVariables false
set_option linter.unusedSimpArgs false
namespace Go.SL
open Go Go.RowKit

/-! ### regions: a list of operations, each with those reads that may come later than it and must read the same behind it -/
def Stable (P : Program) (r : Oper) (a : Act) (w : World) : Prop :=
  r.guard = none ∧ ∃ d, r.dst = some d ∧ (execOp a.eval r).run P w = .ok (.value (a.tmps.getD d undef)) w

def wpLR (P : Program) (ops : Array Oper) (Q : Exit → Act → World → Prop) : List (Oper × List Oper) → Act → World → Prop
  | [], a, w => Q .normal a w
  | (o, ps) :: rest, a, w =>
    if Region.wanted o (yielded ops a.tmps) then o.wp P a w (fun a' w' => (∀ r ∈ ps, Stable P r a' w') ∧ wpLR P ops Q rest a' w') Q
    else wpLR P ops Q rest (a.put o.dst undef) w

def AL (C : Cx) (n : Nat) (ops : Array Oper) (l : List (Oper × List Oper)) (T : Tm) (M : Hp) (K : Exit → Tm → Hp → Prop) : Prop :=
  ∀ a w, TRel n T a → Sat C M w → wpLR C.P ops (Post C n M w K) l a w

def StableAt (C : Cx) (n : Nat) (r : Oper) (T : Tm) (M : Hp) : Prop := ∀ a w, TRel n T a → Sat C M w → Stable C.P r a w
def Stabs (C : Cx) (n : Nat) : List Oper → Tm → Hp → Prop
  | [], _, _ => True
  | r :: rs, T, M => StableAt C n r T M ∧ Stabs C n rs T M

theorem Oper.wp_mono' {P : Program} {o : Oper} {a : Act} {w : World} {next next' : Act → World → Prop} {Q Q' : Exit → Act → World → Prop}
    (hn : ∀ a w, next a w → next' a w) (hq : ∀ e a w, Q e a w → Q' e a w) (h : o.wp P a w next Q) : o.wp P a w next' Q' := by
  unfold Oper.wp at h ⊢
  cases hr : (execOp a.eval o).run P w with
  | ok x w' =>
    rw [hr] at h
    cases x <;> first
      | exact hn _ _ h
      | exact h.elim
      | exact h.mono fun e w' he => (by cases e <;> first | exact hn _ _ he | exact hq _ _ _ he | (obtain ⟨a, w, q⟩ := he; exact ⟨a, w, hq _ _ _ q⟩))
      | exact h.mono fun v w' hv => hn _ _ hv
  | halt x w' =>
    rw [hr] at h
    cases x <;> first
      | exact hq _ _ _ h
      | exact h.elim

theorem wpLR_mono {P : Program} {ops : Array Oper} {Q Q' : Exit → Act → World → Prop} (hq : ∀ e a w, Q e a w → Q' e a w) : ∀ (l : List (Oper × List Oper)) (a : Act) (w : World), wpLR P ops Q l a w → wpLR P ops Q' l a w
  | [], a, w, h => hq _ _ _ h
  | (o, ps) :: rest, a, w, h => by
    unfold wpLR at h ⊢
    split at h
    · rename_i hw
      rw [if_pos hw]
      exact Oper.wp_mono' (fun a w ⟨h1, h2⟩ => ⟨h1, wpLR_mono hq rest a w h2⟩) hq h
    · rename_i hw
      rw [if_neg hw]
      exact wpLR_mono hq rest _ _ h

theorem wpLR_wpList {P : Program} {ops : Array Oper} {Q : Exit → Act → World → Prop} : ∀ (l : List (Oper × List Oper)) (a : Act) (w : World), wpLR P ops Q l a w → wpList P ops Q (l.map Prod.fst) a w
  | [], a, w, h => h
  | (o, ps) :: rest, a, w, h => by
    unfold wpLR at h
    show wpList P ops Q (o :: rest.map Prod.fst) a w
    unfold wpList
    split at h
    · rename_i hw
      rw [if_pos hw]
      exact .inl (Oper.wp_mono' (fun a w ⟨_, h2⟩ => wpLR_wpList rest a w h2) (fun _ _ _ q => q) h)
    · rename_i hw
      rw [if_neg hw]
      exact wpLR_wpList rest _ _ h

section
variable {C : Cx} {n : Nat} {T : Tm} {M : Hp} {K : Exit → Tm → Hp → Prop} {ops : Array Oper} {rest : List (Oper × List Oper)} {ps : List Oper}

/-- what the text's order alone asks -/
def plain : List Oper → List (Oper × List Oper)
  | [] => []
  | o :: r => (o, []) :: plain r
theorem plain_map : ∀ l : List Oper, (plain l).map Prod.fst = l
  | [] => rfl
  | o :: r => by simp [plain, plain_map r]

theorem AWp.region {id : Nat} {l : List Oper} (h : AL C n l.toArray (plain l) T M K) : AWp C n (.region id l.toArray false) T M K := by
  intro a w ht hs
  refine wp_region_lit ?_
  have := wpLR_wpList _ _ _ (h a w ht hs)
  rwa [plain_map] at this

theorem AL.nil (h : K .normal T M) : AL C n ops [] T M K := fun _ w ht hs => ⟨T, M, ht, hs, Ext.refl M w, h⟩

theorem Stabs.all {a : Act} {w : World} : ∀ {ps : List Oper}, Stabs C n ps T M → TRel n T a → Sat C M w → ∀ r ∈ ps, Stable C.P r a w
  | [], _, _, _, _, hr => by cases hr
  | _ :: _, ⟨h1, h2⟩, ht, hs, x, hx => by
    cases hx with
    | head => exact h1 _ _ ht hs
    | tail _ hx => exact Stabs.all h2 ht hs x hx

/-- An operation that gives a value. -/
theorem AL.gen {o : Oper} (hg : o.guard = none) (hd : okDst n o.dst = true) (R : Value → Hp → Prop)
    (h : ∀ a w, TRel n T a → Sat C M w → ∃ v M' w', (execOp a.eval o).run C.P w = .ok (.value v) w' ∧ Sat C M' w' ∧ Ext M w M' w' ∧ R v M')
    (k : ∀ v M', R v M' → Stabs C n ps (putT T o.dst v) M' ∧ AL C n ops rest (putT T o.dst v) M' K) : AL C n ops ((o, ps) :: rest) T M K := by
  intro a w ht hs
  unfold wpLR
  rw [if_pos (by simp [Region.wanted, hg])]
  obtain ⟨v, M', w', hr, h1, h2, h3⟩ := h a w ht hs
  obtain ⟨hst, hk⟩ := k v M' h3
  unfold Oper.wp
  rw [hr]
  have hp := ht.put hd v
  exact ⟨hst.all hp h1, wpLR_mono (fun _ _ _ p => Post.trans h2 p) _ _ _ (hk _ _ hp h1)⟩

/-- An operation that gives none. -/
theorem AL.genSkip {o : Oper} (hg : o.guard = none) (hd : okDst n o.dst = true) (R : Hp → Prop)
    (h : ∀ a w, TRel n T a → Sat C M w → ∃ M' w', (execOp a.eval o).run C.P w = .ok .skip w' ∧ Sat C M' w' ∧ Ext M w M' w' ∧ R M')
    (k : ∀ M', R M' → Stabs C n ps (putT T o.dst undef) M' ∧ AL C n ops rest (putT T o.dst undef) M' K) : AL C n ops ((o, ps) :: rest) T M K := by
  intro a w ht hs
  unfold wpLR
  rw [if_pos (by simp [Region.wanted, hg])]
  obtain ⟨M', w', hr, h1, h2, h3⟩ := h a w ht hs
  obtain ⟨hst, hk⟩ := k M' h3
  unfold Oper.wp
  rw [hr]
  have hp := ht.put hd undef
  exact ⟨hst.all hp h1, wpLR_mono (fun _ _ _ p => Post.trans h2 p) _ _ _ (hk _ _ hp h1)⟩

/-- An operation that leaves the world alone. -/
theorem AL.pureV {o : Oper} (hg : o.guard = none) (hd : okDst n o.dst = true) (v : Value)
    (h : ∀ a w, TRel n T a → Sat C M w → (execOp a.eval o).run C.P w = .ok (.value v) w)
    (hst : Stabs C n ps (putT T o.dst v) M) (k : AL C n ops rest (putT T o.dst v) M K) : AL C n ops ((o, ps) :: rest) T M K :=
  AL.gen hg hd (fun v' M' => v' = v ∧ M' = M) (fun a w ht hs => ⟨v, M, w, h a w ht hs, hs, Ext.refl M w, rfl, rfl⟩) (by rintro v' M' ⟨rfl, rfl⟩; exact ⟨hst, k⟩)

/-- What an operation gives whatever the world holds; what it gives in the worlds that are known so. -/
def PU (C : Cx) (n : Nat) (T : Tm) (o : Oper) (v : Value) : Prop := ∀ a, TRel n T a → ∀ w, (execOp a.eval o).run C.P w = .ok (.value v) w
def PV (C : Cx) (n : Nat) (T : Tm) (M : Hp) (o : Oper) (v : Value) : Prop := ∀ a w, TRel n T a → Sat C M w → (execOp a.eval o).run C.P w = .ok (.value v) w
theorem PU.pv {o : Oper} {v : Value} (h : PU C n T o v) : PV C n T M o v := fun a w ht _ => h a ht w
theorem AL.pv {d : Nat} {op : Op} {ty : TypeId} {pos : String} {after : Array Edge} {v : Value} (h : PV C n T M ⟨some d, op, ty, pos, after, none⟩ v) (hd : okDst n (some d) = true)
    (k : AL C n ops rest ((d, v) :: T) M K) : AL C n ops ((⟨some d, op, ty, pos, after, none⟩, []) :: rest) T M K :=
  AL.pureV rfl hd v h trivial k
theorem AL.pu {d : Nat} {op : Op} {ty : TypeId} {pos : String} {after : Array Edge} {v : Value} (h : PU C n T ⟨some d, op, ty, pos, after, none⟩ v) (hd : okDst n (some d) = true)
    (k : AL C n ops rest ((d, v) :: T) M K) : AL C n ops ((⟨some d, op, ty, pos, after, none⟩, []) :: rest) T M K :=
  AL.pureV rfl hd v h.pv trivial k

/-- A call. -/
theorem AL.genCall {o : Oper} (hg : o.guard = none) (hd : okDst n o.dst = true) (f : FuncId) (args : List Value) (Kf : Value → Hp → Prop)
    (h : ∀ a w, TRel n T a → Sat C M w → (execOp a.eval o).run C.P w = .ok (.enter f args.toArray) w)
    (hc : ACalls C f args M Kf)
    (k : ∀ v M', Kf v M' → Stabs C n ps (putT T o.dst v) M' ∧ AL C n ops rest (putT T o.dst v) M' K) : AL C n ops ((o, ps) :: rest) T M K := by
  intro a w ht hs
  unfold wpLR
  rw [if_pos (by simp [Region.wanted, hg])]
  unfold Oper.wp
  rw [h a w ht hs]
  refine (hc w hs).mono ?_
  rintro e w' ⟨v, M', rfl, h1, h2, h3⟩
  obtain ⟨hst, hk⟩ := k v M' h3
  have hp := ht.put hd v
  exact ⟨hst.all hp h1, wpLR_mono (fun _ _ _ p => Post.trans h2 p) _ _ _ (hk _ _ hp h1)⟩

/-! guards -/
def gval (ops : Array Oper) (T : Tm) (j : Nat) : Option Value := match (ops[j]?).bind (·.dst) with | some d => Tm.get T d | none => none

theorem gval_yielded {a : Act} (ht : TRel n T a) {j : Nat} {b : Bool} (h : gval ops T j = some (.bool b)) : yielded ops a.tmps j = some b := by
  unfold gval at h
  unfold yielded
  cases hd : (ops[j]?).bind (·.dst) with
  | none => rw [hd] at h; simp at h
  | some d =>
    rw [hd] at h
    have h' : Tm.get T d = some (.bool b) := h
    have := ht.2.2 d _ h'
    simp only [Option.bind_some]
    rw [Array.getD_eq_getD_getElem?] at this
    cases hq : a.tmps[d]? with
    | none => rw [hq] at this; simp [undef] at this
    | some v => rw [hq] at this; simp at this; subst this; rfl

def bare (o : Oper) : Oper := { o with guard := none }

theorem AL.guard_t {d : Option Nat} {op : Op} {ty : TypeId} {pos : String} {after : Array Edge} {j : Nat} {want b : Bool} (hj : gval ops T j = some (.bool b)) (hb : b = want)
    (h : AL C n ops ((⟨d, op, ty, pos, after, none⟩, ps) :: rest) T M K) : AL C n ops ((⟨d, op, ty, pos, after, some (j, want)⟩, ps) :: rest) T M K := by
  intro a w ht hs
  have h1 := h a w ht hs
  unfold wpLR at h1 ⊢
  rw [if_pos (by simp [Region.wanted])] at h1
  rw [if_pos (by simp [Region.wanted, gval_yielded ht hj, hb])]
  exact h1

theorem AL.guard_f {d : Option Nat} {op : Op} {ty : TypeId} {pos : String} {after : Array Edge} {j : Nat} {want b : Bool} (hj : gval ops T j = some (.bool b)) (hb : b = !want)
    (hd : okDst n d = true) (h : AL C n ops rest (putT T d undef) M K) : AL C n ops ((⟨d, op, ty, pos, after, some (j, want)⟩, ps) :: rest) T M K := by
  intro a w ht hs
  unfold wpLR
  rw [if_neg (by simp [Region.wanted, gval_yielded ht hj, hb])]
  exact h _ _ (ht.put hd undef) hs

theorem AL.guard {d : Option Nat} {op : Op} {ty : TypeId} {pos : String} {after : Array Edge} {j : Nat} {want b : Bool} (hj : gval ops T j = some (.bool b))
    (hd : okDst n d = true) (h1 : b = want → AL C n ops ((⟨d, op, ty, pos, after, none⟩, ps) :: rest) T M K) (h2 : b = !want → AL C n ops rest (putT T d undef) M K) :
    AL C n ops ((⟨d, op, ty, pos, after, some (j, want)⟩, ps) :: rest) T M K := by
  by_cases e : b = want
  · exact AL.guard_t hj e (h1 e)
  · have e' : b = !want := by cases b <;> cases want <;> simp_all
    exact AL.guard_f hj e' hd (h2 e')
end

/-! ### memory: what may be read, written, split -/
def HObj.list : HObj → List Value
  | .cells cs _ => cs
  | .pre cs _ _ => cs
  | .obj _ => []

def Rd (C : Cx) (M : Hp) (b off : Nat) (v : Value) : Prop :=
  (∃ h, (b, h) ∈ M ∧ h.list[off]? = some v) ∨ (b < C.B ∧ C.w0.cell? ⟨b, off, none⟩ = some v)

section
variable {C : Cx} {M : Hp} {w : World}
theorem HObj.read {h : HObj} {o : Obj} (hok : h.ok o) {b off : Nat} {v : Value} (hw : w.heap[b]? = some o) (hv : h.list[off]? = some v) : w.cell? ⟨b, off, none⟩ = some v := by
  cases h with
  | cells cs e =>
    have : o = _ := hok
    subst this
    have hv' : cs[off]? = some v := hv
    simpa [World.cell?, hw] using hv'
  | pre cs e k =>
    obtain ⟨rest, rfl, _⟩ := hok
    have hlt : off < cs.length := (List.getElem?_eq_some_iff.1 hv).1
    have hv' : cs[off]? = some v := hv
    simp [World.cell?, hw, List.getElem?_append_left hlt, hv']
  | obj o' => simp [HObj.list] at hv

theorem Sat.rd (hs : Sat C M w) {b off : Nat} {v : Value} (h : Rd C M b off v) : w.cell? ⟨b, off, none⟩ = some v := by
  rcases h with ⟨h, hm, hv⟩ | ⟨hb, hv⟩
  · obtain ⟨o, ho, hok⟩ := hs.here _ hm
    exact HObj.read hok ho hv
  · rw [hs.below.cell hb]; exact hv

theorem Rd.own {b off : Nat} {v : Value} {h : HObj} (hm : (b, h) ∈ M) (hv : h.list[off]? = some v) : Rd C M b off v := .inl ⟨h, hm, hv⟩
theorem Rd.old {b off : Nat} {v : Value} (hb : b < C.B) (hv : C.w0.cell? ⟨b, off, none⟩ = some v) : Rd C M b off v := .inr ⟨hb, hv⟩

/-- taking a block out of those that are known -/
inductive Pick (x : Nat × HObj) : Hp → Hp → Prop
  | head (M : Hp) : Pick x (x :: M) M
  | tail (y : Nat × HObj) {M M' : Hp} : Pick x M M' → Pick x (y :: M) (y :: M')
theorem Pick.perm {x : Nat × HObj} {M M' : Hp} (h : Pick x M M') : M.Perm (x :: M') := by
  induction h with
  | head M => exact List.Perm.refl _
  | tail y _ ih => exact (ih.cons y).trans (List.Perm.swap x y _)
inductive Split : Hp → Hp → Hp → Prop
  | nil (M : Hp) : Split [] M M
  | cons {x : Nat × HObj} {M1 M M' F : Hp} : Pick x M M' → Split M1 M' F → Split (x :: M1) M F
theorem Split.perm {M1 M F : Hp} (h : Split M1 M F) : M.Perm (M1 ++ F) := by
  induction h with
  | nil M => exact List.Perm.refl _
  | cons p _ ih => exact p.perm.trans (ih.cons _)
theorem Split.refl : ∀ (M : Hp), Split M M []
  | [] => .nil _
  | _ :: M => .cons (.head _) (Split.refl M)
theorem Pick.app {x : Nat × HObj} : ∀ (M0 : Hp) {F F' : Hp}, Pick x F F' → Pick x (M0 ++ F) (M0 ++ F')
  | [], _, _, h => h
  | y :: M0, _, _, h => .tail y (Pick.app M0 h)
theorem Split.skip {x : Nat × HObj} {M1 M F : Hp} (h : Split M1 M F) : Split M1 (x :: M) (x :: F) := by
  induction h with
  | nil M => exact .nil _
  | cons p _ ih => exact .cons (.tail _ p) ih
theorem Split.left : ∀ (M F : Hp), Split M (M ++ F) F
  | [], F => .nil F
  | _ :: M, F => .cons (.head _) (Split.left M F)
theorem Split.has {M1 M F : Hp} (h : Split M1 M F) : Has M M1 := ⟨F, h.perm⟩

/-! worlds -/
theorem heap_setObj_same (w : World) (b : Nat) (o : Obj) (h : b < w.heap.size) : ({ w with heap := w.heap.setIfInBounds b o } : World).heap[b]? = some o := by
  simp [h]

/-- a block is another one -/
theorem Sat.set (hs : Sat C M w) {b : Nat} {h h' : HObj} {M' M1 : Hp} (p : M.Perm ((b, h) :: M1)) (q : M' = (b, h') :: M1) {w' : World} (hos : w'.os = w.os) (htape : w'.tape = w.tape) (hout : w'.output = w.output)
    (hsize : w'.heap.size = w.heap.size) (hb : ∃ o, w'.heap[b]? = some o ∧ h'.ok o) (ho : ∀ k, k ≠ b → w'.heap[k]? = w.heap[k]?) : Sat C M' w' ∧ Ext M w M' w' := by
  subst q
  have hs' := hs.perm p
  have hge : C.B ≤ b := hs'.ge _ (List.mem_cons_self ..)
  have hnd := hs'.nodup
  simp only [ids, List.map_cons, List.nodup_cons] at hnd
  refine ⟨⟨?_, ?_, ?_, ?_⟩, ⟨by omega, ?_, ?_⟩⟩
  · exact hs'.below.trans ⟨hos, htape, hout, by omega, fun k hk => ho k (by omega)⟩
  · simp only [ids, List.map_cons, List.nodup_cons]; exact hnd
  · intro x hx
    cases hx with
    | head => exact hge
    | tail _ hx => exact hs'.ge _ (List.mem_cons_of_mem _ hx)
  · intro x hx
    cases hx with
    | head => exact hb
    | tail _ hx =>
      obtain ⟨o, h1, h2⟩ := hs'.here x (List.mem_cons_of_mem _ hx)
      have hne : x.1 ≠ b := fun e => hnd.1 (e ▸ List.mem_map_of_mem hx)
      exact ⟨o, by rw [ho _ hne]; exact h1, h2⟩
  · intro k _ hk
    refine ho k (fun e => hk ?_)
    subst e
    exact ((p.map Prod.fst).mem_iff (a := k)).2 (by simp)
  · intro k hk
    refine .inl (((p.map Prod.fst).mem_iff (a := k)).2 ?_)
    simpa using hk

/-- a new block -/
theorem Sat.new (hs : Sat C M w) {h : HObj} {o : Obj} (hok : h.ok o) : Sat C ((w.heap.size, h) :: M) (w.alloc o) ∧ Ext M w ((w.heap.size, h) :: M) (w.alloc o) := by
  have hB : C.B ≤ w.heap.size := Nat.le_trans C.hB hs.below.size
  have hold : ∀ k, k < w.heap.size → (w.alloc o).heap[k]? = w.heap[k]? := fun k hk => heap_alloc_old w o hk
  refine ⟨⟨?_, ?_, ?_, ?_⟩, ⟨by simp, fun k hk _ => hold k hk, ?_⟩⟩
  · exact hs.below.alloc hB o
  · simp only [ids, List.map_cons, List.nodup_cons]
    exact ⟨fun hm => Nat.lt_irrefl _ (hs.lt hm), hs.nodup⟩
  · intro x hx
    cases hx with
    | head => exact hB
    | tail _ hx => exact hs.ge x hx
  · intro x hx
    cases hx with
    | head => exact ⟨o, heap_alloc_new w o, hok⟩
    | tail _ hx =>
      obtain ⟨o', h1, h2⟩ := hs.here x hx
      exact ⟨o', by rw [hold _ (lt_of_some h1)]; exact h1, h2⟩
  · intro k hk
    simp only [ids, List.map_cons, List.mem_cons] at hk
    rcases hk with rfl | hk
    · exact .inr (Nat.le_refl _)
    · exact .inl hk
end
end Go.SL
