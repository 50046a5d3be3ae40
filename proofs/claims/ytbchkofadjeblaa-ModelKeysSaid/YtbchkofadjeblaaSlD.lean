/-
  The layer of triples, fourth part: memory, slices, calls, functions.
-/
import Derived.Test.YtbchkofadjeblaaSlC
import Derived.Laws.AppendOwnNone
set_option linter.unusedVariables false
set_option linter.unusedSimpArgs false
namespace Go.SL
open Go Go.RowKit

def putAt (cs : List Value) (o : Nat) (vs : List Value) : List Value := cs.take o ++ vs ++ cs.drop (o + vs.length)
/-- one cell is another one -/
def put1 : List Value → Nat → Value → List Value
  | [], _, _ => []
  | _ :: cs, 0, v => v :: cs
  | c :: cs, k + 1, v => c :: put1 cs k v
theorem put1_putAt : ∀ (cs : List Value) (o : Nat) (v : Value), o < cs.length → put1 cs o v = putAt cs o [v]
  | [], o, v, h => by simp at h
  | c :: cs, 0, v, _ => by simp [put1, putAt]
  | c :: cs, k + 1, v, h => by
    have := put1_putAt cs k v (by simpa using h)
    simp only [put1, this, putAt, List.take_succ_cons, List.cons_append, List.length_singleton, List.drop_succ_cons]
theorem length_put1 : ∀ (cs : List Value) (o : Nat) (v : Value), (put1 cs o v).length = cs.length
  | [], _, _ => rfl
  | _ :: _, 0, _ => rfl
  | _ :: cs, k + 1, v => by simp [put1, length_put1 cs k v]
theorem length_putAt {cs vs : List Value} {o : Nat} (h : o + vs.length ≤ cs.length) : (putAt cs o vs).length = cs.length := by
  simp only [putAt, List.length_append, List.length_take, List.length_drop]; omega

def HObj.put (h : HObj) (o : Nat) (vs : List Value) : HObj :=
  match h with
  | .cells cs e => .cells (putAt cs o vs) e
  | .pre cs e n => .pre (putAt cs o vs) e n
  | .obj o => .obj o

/-- a block is written -/
inductive Upd (b o : Nat) (vs : List Value) : Hp → Hp → Prop
  | cells {cs : List Value} {e : TypeId} {M : Hp} : o + vs.length ≤ cs.length → Upd b o vs ((b, .cells cs e) :: M) ((b, .cells (putAt cs o vs) e) :: M)
  | pre {cs : List Value} {e : TypeId} {k : Nat} {M : Hp} : o + vs.length ≤ cs.length → Upd b o vs ((b, .pre cs e k) :: M) ((b, .pre (putAt cs o vs) e k) :: M)
  | tail (y : Nat × HObj) {M M' : Hp} : Upd b o vs M M' → Upd b o vs (y :: M) (y :: M')
theorem Upd.cell1 {b o : Nat} {v : Value} {cs cs' : List Value} {e : TypeId} {M : Hp} (h : Nat.blt o cs.length = true) (hc : put1 cs o v = cs') : Upd b o [v] ((b, .cells cs e) :: M) ((b, .cells cs' e) :: M) := by
  have h' : o < cs.length := by simp only [Nat.blt, Nat.ble_eq] at h; omega
  subst hc
  rw [put1_putAt cs o v h']
  exact .cells (by simp; omega)
theorem Upd.pre1 {b o : Nat} {v : Value} {cs cs' : List Value} {e : TypeId} {k : Nat} {M : Hp} (h : Nat.blt o cs.length = true) (hc : put1 cs o v = cs') : Upd b o [v] ((b, .pre cs e k) :: M) ((b, .pre cs' e k) :: M) := by
  have h' : o < cs.length := by simp only [Nat.blt, Nat.ble_eq] at h; omega
  subst hc
  rw [put1_putAt cs o v h']
  exact .pre (by simp; omega)
/-- the whole block -/
theorem Upd.whole {b : Nat} {vs cs : List Value} {e : TypeId} {M : Hp} (h : vs.length = cs.length) : Upd b 0 vs ((b, .cells cs e) :: M) ((b, .cells vs e) :: M) := by
  have : putAt cs 0 vs = vs := by simp [putAt, h]
  have h2 : Upd b 0 vs ((b, .cells cs e) :: M) ((b, .cells (putAt cs 0 vs) e) :: M) := .cells (by omega)
  rwa [this] at h2

theorem Upd.perm {b o : Nat} {vs : List Value} {M M' : Hp} (h : Upd b o vs M M') : ∃ h M1, M.Perm ((b, h) :: M1) ∧ M'.Perm ((b, h.put o vs) :: M1) ∧ (match h with | .cells cs _ => o + vs.length ≤ cs.length | .pre cs _ _ => o + vs.length ≤ cs.length | .obj _ => False) := by
  induction h with
  | cells h => exact ⟨.cells _ _, _, List.Perm.refl _, List.Perm.refl _, h⟩
  | pre h => exact ⟨.pre _ _ _, _, List.Perm.refl _, List.Perm.refl _, h⟩
  | tail y _ ih =>
    obtain ⟨h, M1, p1, p2, h3⟩ := ih
    exact ⟨h, y :: M1, (p1.cons y).trans (List.Perm.swap _ _ _), (p2.cons y).trans (List.Perm.swap _ _ _), h3⟩

theorem Upd.app {b o : Nat} {vs : List Value} : ∀ (M0 : Hp) {F F' : Hp}, Upd b o vs F F' → Upd b o vs (M0 ++ F) (M0 ++ F')
  | [], _, _, h => h
  | y :: M0, _, _, h => .tail y (Upd.app M0 h)
section
variable {C : Cx} {M M' : Hp} {w : World}
theorem run_store_upd {b o : Nat} {vs : List Value} (hu : Upd b o vs M M') (hs : Sat C M w) (h1 : ∀ v ∈ vs, v.oneCell' = true) :
    ∃ w', (storeCells ⟨b, o, none⟩ vs 0).run C.P w = .ok () w' ∧ Sat C M' w' ∧ Ext M w M' w' := by
  obtain ⟨h, M1, p1, p2, hr⟩ := hu.perm
  obtain ⟨ob, ho, hok⟩ := (hs.perm p1).here _ (List.mem_cons_self ..)
  have main : ∀ (cur : List Value) (e : TypeId), ob = .cells cur.toArray e (0, 0) → o + vs.length ≤ cur.length → (h.put o vs).ok (.cells (putAt cur o vs).toArray e (0, 0)) →
      ∃ w', (storeCells ⟨b, o, none⟩ vs 0).run C.P w = .ok () w' ∧ Sat C M' w' ∧ Ext M w M' w' := by
    intro cur e hob hl hok'
    subst hob
    have hrun := run_storeCells_at C.P b o e vs 0 cur.toArray w ho (by simpa using hl) h1
    refine ⟨_, hrun, ?_⟩
    have hset := hs.set (h := h) (h' := h.put o vs) (M' := (b, h.put o vs) :: M1) (M1 := M1) p1 rfl
      (w' := w.setRow b (cur.toArray.toList.take (o + 0) ++ vs ++ cur.toArray.toList.drop (o + 0 + vs.length)).toArray) rfl rfl rfl (by simp)
      ⟨_, setRow_heap w b cur.toArray _ e _ ho, by simpa [putAt] using hok'⟩ (fun k hk => setRow_other w b k _ hk)
    exact ⟨hset.1.perm p2.symm, ⟨hset.2.size, hset.2.keep, fun k hk => hset.2.new k (((p2.map Prod.fst).mem_iff (a := k)).1 hk)⟩⟩
  cases h with
  | cells cs e => exact main cs e hok hr rfl
  | pre cs e k =>
    obtain ⟨rest, rfl, hlen⟩ := hok
    refine main (cs ++ rest) e rfl (by simp; omega) ⟨rest, ?_, ?_⟩
    · have hr' : o + vs.length ≤ cs.length := hr
      simp only [putAt]
      rw [List.take_append_of_le_length (by omega), List.drop_append_of_le_length hr']
      simp
    · have hr' : o + vs.length ≤ cs.length := hr
      have := length_putAt hr'
      rw [this]; exact hlen
  | obj _ => exact hr.elim

/-- a row of cells may be read -/
def RdL (C : Cx) (M : Hp) (b o : Nat) (vs : List Value) : Prop := ∀ (i : Nat) (v : Value), vs[i]? = some v → Rd C M b (o + i) v
theorem RdL.own {b o : Nat} {vs : List Value} {h : HObj} (hm : (b, h) ∈ M) (hv : (h.list.drop o).take vs.length = vs) : RdL C M b o vs := by
  intro i v hi
  refine Rd.own hm ?_
  rw [← hv] at hi
  have hlt : i < vs.length := by
    have := (List.getElem?_eq_some_iff.1 hi).1
    simp at this; omega
  rw [List.getElem?_take_of_lt hlt, List.getElem?_drop] at hi
  exact hi
theorem RdL.whole {b : Nat} {vs : List Value} {e : TypeId} (hm : (b, .cells vs e) ∈ M) : RdL C M b 0 vs := RdL.own hm (by simp [HObj.list])
theorem RdL.nil (b o : Nat) : RdL C M b o [] := fun i v h => by simp at h
theorem RdL.rd {b o : Nat} {vs : List Value} (h : RdL C M b o vs) {i : Nat} {v : Value} (hi : vs[i]? = some v) : Rd C M b (o + i) v := h i v hi
theorem Rd.mono {b o : Nat} {v : Value} (h : Rd C M b o v) (hm : ∀ x ∈ M, x ∈ M') : Rd C M' b o v := by
  rcases h with ⟨h, h1, h2⟩ | h
  · exact .inl ⟨h, hm _ h1, h2⟩
  · exact .inr h
theorem RdL.mono {b o : Nat} {vs : List Value} (h : RdL C M b o vs) (hm : ∀ x ∈ M, x ∈ M') : RdL C M' b o vs := fun i v hi => (h i v hi).mono hm
theorem Sat.rdl (hs : Sat C M w) {b o : Nat} {vs : List Value} (h : RdL C M b o vs) : (loadCells ⟨b, o, none⟩ vs.length).run C.P w = .ok vs.toArray w :=
  run_loadCells_list (P := C.P) w ⟨b, o, none⟩ vs (fun j v hv => by rw [addr_add]; exact hs.rd (h j v hv))
end

section
variable {C : Cx} {n : Nat} {T : Tm} {M : Hp} {K : Exit → Tm → Hp → Prop} {ops : Array Oper} {rest : List (Oper × List Oper)} {ps : List Oper}
  {d : Nat} {dst : Option Nat} {g : Option (Nat × Bool)} {ty : TypeId} {pos : String} {after : Array Edge}

theorem PV.load {x : Operand} {t : TypeId} {D : TypeDesc} [Und C.P t D] (hag : aggD D = false) {b o : Nat} {v : Value} (hx : evO T x = some (.pointer (some ⟨b, o, none⟩))) (hr : Rd C M b o v) : PV C n T M ⟨dst, .load t x, ty, pos, after, g⟩ v :=
  fun act w ht hs => by
    simp [execOp, evO_eval ht hx, Instr.loadAt, Instr.sureAddr, loadVar, run_isAgg (t := t), hag, hs.rd hr]

theorem PV.loadA {x : Operand} {t : TypeId} {D : TypeDesc} {inf : TypeInfo} [Und C.P t D] [Inf C.P t inf] (hag : aggD D = true) {b o : Nat} {vs : List Value} (hsz : inf.size = vs.length) (hx : evO T x = some (.pointer (some ⟨b, o, none⟩))) (hr : RdL C M b o vs) : PV C n T M ⟨dst, .load t x, ty, pos, after, g⟩ (.agg vs.toArray) :=
  fun act w ht hs => by
    have hl := hs.rdl hr
    simp [execOp, evO_eval ht hx, Instr.loadAt, Instr.sureAddr, loadVar, run_isAgg (t := t), hag, run_sizeOf (t := t), hsz, hl]

def cellsL : Value → List Value
  | .agg cs => cs.toList
  | v => [v]
theorem cells_cellsL (v : Value) : v.cells = (cellsL v).toArray := by cases v <;> simp [Value.cells, cellsL]
def one1 (v : Value) : Bool := v.oneCell'

theorem AL.store {x y : Operand} {t : TypeId} {inf : TypeInfo} [Inf C.P t inf] {b o : Nat} {v : Value} {vs : List Value} {M' : Hp} (hd : okDst n dst = true)
    (hx : evO T x = some (.pointer (some ⟨b, o, none⟩))) (hy : evO T y = some v) (hvs : cellsL v = vs) (hsz : inf.size = vs.length) (h1 : vs.all one1 = true) (hu : Upd b o vs M M')
    (hst : Stabs C n ps (putT T dst undef) M') (kk : AL C n ops rest (putT T dst undef) M' K) : AL C n ops ((⟨dst, .store t x y, ty, pos, after, none⟩, ps) :: rest) T M K :=
  AL.genSkip rfl hd (fun M2 => M2 = M') (fun act w ht hs => by
    obtain ⟨w', hr, q1, q2⟩ := run_store_upd hu hs (fun v hv => by have := List.all_eq_true.1 h1 v hv; exact this)
    refine ⟨M', w', ?_, q1, q2, rfl⟩
    subst hvs
    have hc : v.cells.size = inf.size := by rw [cells_cellsL, hsz]; simp
    have hl : v.cells.toList = cellsL v := by rw [cells_cellsL]
    simp [execOp, evO_eval ht hx, evO_eval ht hy, Instr.storeAt, Instr.sureAddr, storeVar, run_sizeOf (t := t), hc, hl, hr]) (by rintro _ rfl; exact ⟨hst, kk⟩)

theorem AL.alloc {t : TypeId} {inf : TypeInfo} {z : Value} {zs : List Value} [Inf C.P t inf] (hz : inf.zero = some z) (hzs : cellsL z = zs) (hd : okDst n (some d) = true)
    (kk : ∀ b, Stabs C n ps ((d, .pointer (some ⟨b, 0, none⟩)) :: T) ((b, .cells zs t) :: M) ∧ AL C n ops rest ((d, .pointer (some ⟨b, 0, none⟩)) :: T) ((b, .cells zs t) :: M) K) :
    AL C n ops ((⟨some d, .alloc t, ty, pos, after, none⟩, ps) :: rest) T M K :=
  AL.gen rfl hd (fun v M' => ∃ b, v = .pointer (some ⟨b, 0, none⟩) ∧ M' = (b, .cells zs t) :: M) (fun act w ht hs => by
    obtain ⟨q1, q2⟩ := hs.new (h := .cells zs t) (o := .cells zs.toArray t) rfl
    refine ⟨_, _, _, ?_, q1, q2, w.heap.size, rfl, rfl⟩
    subst hzs
    simp [execOp, Instr.alloc, run_zero hz, newVar, newRow, cells_cellsL]) (by rintro v M' ⟨b, rfl, rfl⟩; exact kk b)

theorem AL.box {t : TypeId} {x : Operand} {v : Value} {vs : List Value} (hx : evO T x = some v) (hvs : cellsL v = vs) (hd : okDst n (some d) = true)
    (kk : ∀ b, Stabs C n ps ((d, .pointer (some ⟨b, 0, none⟩)) :: T) ((b, .cells vs t) :: M) ∧ AL C n ops rest ((d, .pointer (some ⟨b, 0, none⟩)) :: T) ((b, .cells vs t) :: M) K) :
    AL C n ops ((⟨some d, .box t x, ty, pos, after, none⟩, ps) :: rest) T M K :=
  AL.gen rfl hd (fun v M' => ∃ b, v = .pointer (some ⟨b, 0, none⟩) ∧ M' = (b, .cells vs t) :: M) (fun act w ht hs => by
    obtain ⟨q1, q2⟩ := hs.new (h := .cells vs t) (o := .cells vs.toArray t) rfl
    refine ⟨_, _, _, ?_, q1, q2, w.heap.size, rfl, rfl⟩
    subst hvs
    simp [execOp, Instr.box, newVar, newRow, cells_cellsL, evO_eval ht hx]) (by rintro v M' ⟨b, rfl, rfl⟩; exact kk b)

/-! literals -/
/-- parts laid over cells: each part at its place -/
def fillL (places : List (Nat × Nat)) : List Value → List (Nat × Value) → Option (List Value)
  | cs, [] => some cs
  | cs, (i, v) :: r =>
    match places[i]? with
    | none => none
    | some (off, size) => if (cellsL v).length = size ∧ off + size ≤ cs.length then fillL places (putAt cs off (cellsL v)) r else none

theorem foldl_set (l : List Value) : ∀ (off j : Nat) (cs : Array Value), off + j + l.length ≤ cs.size →
    (l.zipIdx j).foldl (fun cs (c, j) => cs.setIfInBounds (off + j) c) cs = (putAt cs.toList (off + j) l).toArray := by
  induction l with
  | nil => intro off j cs _; simp [putAt]
  | cons c r ih =>
    intro off j cs h
    simp only [List.zipIdx_cons, List.foldl_cons]
    rw [Nat.add_assoc] at h
    have := ih off (j + 1) (cs.setIfInBounds (off + j) c) (by simp at h ⊢; omega)
    rw [this]
    congr 1
    have hlt : off + j < cs.toList.length := by simp at h ⊢; omega
    simp only [putAt, Array.toList_setIfInBounds, List.length_cons]
    have e1 : (cs.toList.set (off + j) c).take (off + (j + 1)) = cs.toList.take (off + j) ++ [c] := by
      rw [← Nat.add_assoc, List.take_add_one]
      rw [List.take_set_of_le (Nat.le_refl _), List.getElem?_set_self hlt]
      rfl
    have e2 : (cs.toList.set (off + j) c).drop (off + (j + 1) + r.length) = cs.toList.drop (off + j + (r.length + 1)) := by
      rw [List.drop_set_of_lt (by omega)]
      congr 1; omega
    rw [e1, e2]
    simp

theorem fill_fillL (places : List (Nat × Nat)) (place : Nat → Option (Nat × Nat)) (hpl : ∀ i q, places[i]? = some q → place i = some q) : ∀ (parts : List (Nat × Value)) (cs : List Value) (r : List Value), fillL places cs parts = some r → Instr.fill place cs.toArray parts = some r.toArray
  | [], cs, r, h => by simp [fillL] at h; simp [Instr.fill, h]
  | (i, v) :: ps, cs, r, h => by
    unfold fillL at h
    unfold Instr.fill
    cases hp : places[i]? with
    | none => simp [hp] at h
    | some q =>
      obtain ⟨off, size⟩ := q
      rw [hp] at h
      rw [hpl i _ hp]
      simp only at h
      by_cases hc : (cellsL v).length = size ∧ off + size ≤ cs.length
      · rw [if_pos hc] at h
        have hsz : v.cells.size = size := by rw [cells_cellsL]; simpa using hc.1
        have hnot : ¬ (v.cells.size ≠ size ∨ off + v.cells.size > cs.toArray.size) := by simp [hsz]; omega
        have hnot' : (decide (v.cells.size ≠ size) || decide (off + v.cells.size > cs.toArray.size)) = false := by simp [hsz]; omega
        simp only
        rw [if_neg (by simpa using hnot)]
        have ih := fill_fillL places place hpl ps _ r h
        have hf := foldl_set (cellsL v) off 0 cs.toArray (by simp; omega)
        have hz : v.cells.zipIdx.foldl (fun cs (c, j) => cs.setIfInBounds (off + j) c) cs.toArray = (putAt cs off (cellsL v)).toArray := by
          rw [cells_cellsL, ← Array.foldl_toList, Array.toList_zipIdx]
          simpa using hf
        rw [hz]
        exact ih
      · rw [if_neg hc] at h; cases h

/-- parts laid over segments, each in the place of one -/
def fillSeg : List (List Value) → List (Nat × Value) → Option (List (List Value))
  | segs, [] => some segs
  | segs, (i, v) :: r =>
    match segs[i]? with
    | none => none
    | some s => bif Nat.beq (cellsL v).length s.length then fillSeg (segs.set i (cellsL v)) r else none
def offs : Nat → List (List Value) → List (Nat × Nat)
  | _, [] => []
  | k, s :: r => (k, s.length) :: offs (k + s.length) r
theorem offs_get : ∀ (segs : List (List Value)) (k i : Nat) (s : List Value), segs[i]? = some s → ∃ off, (offs k segs)[i]? = some (k + off, s.length) ∧ off + s.length ≤ segs.flatten.length ∧
    ∀ vs : List Value, vs.length = s.length → putAt segs.flatten off vs = (segs.set i vs).flatten ∧ offs k (segs.set i vs) = offs k segs
  | [], _, _, _, h => by simp at h
  | s0 :: r, k, 0, s, h => by
    simp at h
    subst h
    refine ⟨0, by simp [offs], by simp, fun vs hv => ⟨?_, by simp [offs, hv]⟩⟩
    simp [putAt, hv]
  | s0 :: r, k, i + 1, s, h => by
    obtain ⟨off, h1, h2, h3⟩ := offs_get r (k + s0.length) i s (by simpa using h)
    refine ⟨s0.length + off, ?_, by rw [List.flatten_cons, List.length_append]; omega, fun vs hv => ?_⟩
    · simp only [offs, List.getElem?_cons_succ, h1, Nat.add_assoc]
    · obtain ⟨g1, g2⟩ := h3 vs hv
      refine ⟨?_, by simp [offs, g2]⟩
      simp only [List.set_cons_succ, List.flatten_cons, ← g1, putAt, Nat.add_assoc]
      rw [List.take_append, List.drop_append]
      have e1 : s0.length + off - s0.length = off := by omega
      have e2 : s0.length + (off + vs.length) - s0.length = off + vs.length := by omega
      rw [List.take_of_length_le (by omega), List.drop_eq_nil_of_le (by omega), e1, e2]
      simp
theorem fillL_fillSeg : ∀ (parts : List (Nat × Value)) (segs segs' : List (List Value)), fillSeg segs parts = some segs' → fillL (offs 0 segs) segs.flatten parts = some segs'.flatten
  | [], segs, segs', h => by simp [fillSeg] at h; simp [fillL, h]
  | (i, v) :: r, segs, segs', h => by
    unfold fillSeg at h
    cases hs : segs[i]? with
    | none => simp [hs] at h
    | some s =>
      rw [hs] at h
      simp only at h
      cases hb : Nat.beq (cellsL v).length s.length with
      | false => simp [hb] at h
      | true =>
        rw [hb] at h
        have hl := Nat.eq_of_beq_eq_true hb
        obtain ⟨off, h1, h2, h3⟩ := offs_get segs 0 i s hs
        obtain ⟨g1, g2⟩ := h3 (cellsL v) hl
        have ih := fillL_fillSeg r (segs.set i (cellsL v)) segs' h
        unfold fillL
        simp only [Nat.zero_add] at h1
        rw [h1]
        simp only
        rw [if_pos ⟨hl, h2⟩, g1, ← g2]
        exact ih

class Str (P : Program) (t : TypeId) (segs : outParam (List (List Value))) : Prop where
  fact : ∃ fs i z, P.underlying t = some (.struct fs) ∧ fs.toList.mapM (fun f => (P.info? f.type).map fun inf => (f.offset, inf.size)) = some (offs 0 segs) ∧ P.info? t = some i ∧ i.zero = some z ∧ cellsL z = segs.flatten

theorem run_mapM_places {P : Program} {w : World} : ∀ (l : List Field) (places : List (Nat × Nat)), l.mapM (fun f => (P.info? f.type).map fun inf => (f.offset, inf.size)) = some places →
    ((l.mapM fun f => do Pure.pure (f.offset, ← sizeOf f.type) : Sem (List (Nat × Nat)))).run P w = .ok places w
  | [], places, h => by simp at h; simp [h]
  | f :: l, places, h => by
    rw [List.mapM_cons] at h ⊢
    cases hi : P.info? f.type with
    | none => simp [hi] at h
    | some inf =>
      cases hl : l.mapM (fun f => (P.info? f.type).map fun inf => (f.offset, inf.size)) with
      | none => simp [hi, hl] at h
      | some r =>
        simp [hi, hl] at h
        have ih := run_mapM_places (w := w) l r hl
        have h0 : (sizeOf f.type).run P w = .ok inf.size w := by simp [sizeOf, typeInfo, hi]
        rw [Sem.run_bind, Sem.run_bind, h0]
        simp only [Result.andThen_ok, Sem.run_pure, Sem.run_bind, ih, h]

def parts? (T : Tm) : List (Nat × Operand) → Option (List (Nat × Value))
  | [] => some []
  | (i, x) :: r => match evO T x, parts? T r with | some v, some l => some ((i, v) :: l) | _, _ => none
theorem parts_eval {a : Act} (ht : TRel n T a) : ∀ {l : List (Nat × Operand)} {r : List (Nat × Value)}, parts? T l = some r → l.map (fun (i, x) => (i, a.eval x)) = r
  | [], r, h => by simp [parts?] at h; simp [h]
  | (i, x) :: l, r, h => by
    unfold parts? at h
    cases hx : evO T x with
    | none => simp [hx] at h
    | some v =>
      cases hl : parts? T l with
      | none => simp [hx, hl] at h
      | some q => simp [hx, hl] at h; subst h; simp [evO_eval ht hx]; exact parts_eval ht hl

theorem PU.build {t : TypeId} {segs segs' : List (List Value)} [hS : Str C.P t segs] {parts : List (Nat × Operand)} {pv : List (Nat × Value)} {vs : List Value} (hp : parts? T parts = some pv) (hf : fillSeg segs pv = some segs') (hvs : segs'.flatten = vs) : PU C n T ⟨dst, .build t parts.toArray, ty, pos, after, g⟩ (.agg vs.toArray) :=
  fun act ht w => by
    obtain ⟨fs, i, z, h1, h2, h3, h4, h5⟩ := hS.fact
    have hm := run_mapM_places (w := w) fs.toList _ h2
    have hpe := parts_eval ht hp
    have hfill := fill_fillL (offs 0 segs) (fun i => (offs 0 segs)[i]?) (fun _ _ h => h) pv segs.flatten _ (fillL_fillSeg pv segs segs' hf)
    subst hvs
    have hma : (fs.mapM fun f => do Pure.pure (f.offset, ← sizeOf f.type) : Sem (Array (Nat × Nat))).run C.P w = .ok (offs 0 segs).toArray w := by
      rw [← Array.toArray_toList (xs := fs), List.mapM_toArray]
      simp only [Sem.run_map, hm, Result.andThen_ok]
    simp only [execOp, Instr.build, zeroValue, typeInfo, underlying, Sem.run_bind, run_program, Result.andThen_ok, h3, h4, h1, Sem.run_pure, List.map_toArray, hpe, cells_cellsL, h5, hma]
    simp [hfill]

theorem offs_replicate {len sz : Nat} {zc : List Value} (hzl : zc.length = sz) : ∀ {k i : Nat} {q : Nat × Nat}, (offs (k * sz) (List.replicate len zc))[i]? = some q → some ((k + i) * sz, sz) = some q := by
  induction len with
  | zero => intro k i q h; simp [offs] at h
  | succ len ih =>
    intro k i q h
    rw [List.replicate_succ] at h
    cases i with
    | zero => simpa [offs, hzl] using h
    | succ i =>
      simp only [offs, List.getElem?_cons_succ, hzl] at h
      have e : k * sz + sz = (k + 1) * sz := by rw [Nat.add_mul, Nat.one_mul]
      rw [e] at h
      have := ih h
      rw [← this]
      congr 3; omega
theorem map_mod_replicate (len : Nat) (zc : List Value) : (List.range (len * zc.length)).map (fun i => zc[i % zc.length]!) = (List.replicate len zc).flatten := by
  induction len with
  | zero => simp
  | succ len ih =>
    rw [Nat.succ_mul, List.range_add, List.map_append, ih, List.replicate_succ', List.flatten_append]
    congr 1
    simp only [List.map_map, List.flatten_cons, List.flatten_nil, List.append_nil]
    apply List.ext_getElem?
    intro j
    by_cases hj : j < zc.length
    · simp [hj, Nat.mod_eq_of_lt hj, Nat.mul_comm len]
    · simp [hj]

/-- a literal of a slice whose elements have one cell each -/
theorem AL.buildSlice {t e : TypeId} {inf : TypeInfo} [Und C.P t (.slice e)] [Inf C.P e inf] {len : Nat} {parts : List (Nat × Operand)} {pv : List (Nat × Value)} {segs' : List (List Value)} {vs : List Value} {z : Value}
    (hz : inf.zero = some z) (hzl : (cellsL z).length = inf.size) (hsm : Nat.ble (len * inf.size) 16777216 = true) (hpos : Nat.blt 0 (len * inf.size) = true)
    (hd : okDst n (some d) = true) (hp : parts? T parts = some pv) (hf : fillSeg (List.replicate len (cellsL z)) pv = some segs') (hvs : segs'.flatten = vs)
    (kk : ∀ b, Stabs C n ps ((d, .slice (some ⟨b, 0, none⟩) len len) :: T) ((b, .cells vs e) :: M) ∧ AL C n ops rest ((d, .slice (some ⟨b, 0, none⟩) len len) :: T) ((b, .cells vs e) :: M) K) :
    AL C n ops ((⟨some d, .buildSlice t len parts.toArray, ty, pos, after, none⟩, ps) :: rest) T M K :=
  AL.gen rfl hd (fun v M' => ∃ b, v = .slice (some ⟨b, 0, none⟩) len len ∧ M' = (b, .cells vs e) :: M) (fun act w ht hs => by
    obtain ⟨q1, q2⟩ := hs.new (h := .cells vs e) (o := .cells vs.toArray e) rfl
    refine ⟨_, _, _, ?_, q1, q2, w.heap.size, rfl, rfl⟩
    have hpe := parts_eval ht hp
    have hsm' : ¬ len * inf.size > 16777216 := by have := Nat.le_of_ble_eq_true hsm; omega
    have h1 : ∀ w, (underlying t).run C.P w = .ok (.slice e) w := fun w => run_und
    have h2 : ∀ w, (sizeOf e).run C.P w = .ok inf.size w := fun w => run_sizeOf
    have h3 : ∀ w, (zeroValue e).run C.P w = .ok z w := fun w => run_zero hz
    have hfill := fill_fillL _ (fun i => some (i * inf.size, inf.size)) (fun i q h => by have := offs_replicate (k := 0) hzl (by simpa using h); simpa using this) pv _ _ (fillL_fillSeg pv _ segs' hf)
    rw [hvs] at hfill
    have h0 : ¬ len * inf.size = 0 := by have := Nat.le_of_ble_eq_true hpos; omega
    have hzs' : (Array.range (len * inf.size)).map (fun x => z.cells[x % z.cells.size]!) = (List.replicate len (cellsL z)).flatten.toArray := by
      apply Array.ext'
      rw [← hzl]
      simpa [cells_cellsL] using map_mod_replicate len (cellsL z)
    have hrun : (Instr.buildSlice t len pv.toArray).run C.P w = .ok (.slice (some ⟨w.heap.size, 0, none⟩) len len) (w.alloc (.cells vs.toArray e)) := by
      unfold Instr.buildSlice
      rw [Sem.run_bind, h1]
      simp only [Result.andThen_ok]
      rw [Sem.run_bind, h2]
      simp only [Result.andThen_ok]
      simp only [Sem.run_bind, hsm', if_false, h0, Sem.run_pure, Result.andThen_ok, h3, Nat.reducePow]
      rw [hzs']
      simp [hfill, newRow]
    simp only [execOp, List.map_toArray, hpe, Sem.run_bind, hrun, Result.andThen_ok, Sem.run_pure]) (by rintro v M' ⟨b, rfl, rfl⟩; exact kk b)
end
end Go.SL
