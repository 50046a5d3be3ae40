/-
  The layer of triples, eighth part: maps whose keys are numbers of 64 bits.
-/
import Derived.Test.YtbchkofadjeblaaSlG
import Derived.Maps.RangeRun
set_option linter.unusedVariables false
set_option linter.unusedSimpArgs false
namespace Go.SL
open Go Go.RowKit

/-- an entry: key, value, stamp -/
structure MEnt where
  key : Int
  val : Value
  born : Nat
abbrev MEnt.e (x : MEnt) : MapEntry := { key := .int .u64 x.key, val := x.val, born := x.born }
def mkEs (l : List MEnt) : Array MapEntry := (l.map MEnt.e).toArray
/-- a map's block -/
def mapO (l : List MEnt) (clock : Nat) : HObj := .obj (.map (mkEs l) clock)
def lkp : List MEnt → Int → Option Value
  | [], _ => none
  | x :: l, k => if k = x.key then some x.val else lkp l k
def has (l : List MEnt) (k : Int) : Bool := (lkp l k).isSome
def del : List MEnt → Int → List MEnt
  | [], _ => []
  | x :: l, k => if k = x.key then l else x :: del l k
def upd : List MEnt → Int → Value → List MEnt
  | [], _, _ => []
  | x :: l, k, v => if k = x.key then ⟨k, v, x.born⟩ :: l else x :: upd l k v
def put (l : List MEnt) (clock : Nat) (k : Int) (v : Value) : List MEnt := if has l k then upd l k v else l ++ [⟨k, v, clock⟩]
def putClock (l : List MEnt) (clock : Nat) (k : Int) : Nat := if has l k then clock else clock + 1

def fi : List MEnt → Int → Nat
  | [], _ => 0
  | x :: l, k => if k = x.key then 0 else fi l k + 1
theorem findNow_mk (k : Int) : ∀ (l : List MEnt) (i : Nat), Instr.findNow (.int .u64) (.int .u64 k) (l.map MEnt.e) i = some ((lkp l k).map fun v => (i + fi l k, v))
  | [], i => rfl
  | x :: l, i => by
    by_cases h : k = x.key
    · simp [Instr.findNow, Instr.sameNow, lkp, fi, h]
    · have ih := findNow_mk k l (i + 1)
      have hb : (k == x.key) = false := by simpa using h
      simp only [List.map_cons, Instr.findNow, Instr.sameNow, lkp, fi, h, if_false, ih, if_true, hb]
      rw [Nat.add_assoc, Nat.add_comm 1]
theorem fi_lt {k : Int} : ∀ {l : List MEnt}, has l k = true → fi l k < l.length
  | [], h => by simp [has, lkp] at h
  | x :: l, h => by
    by_cases e : k = x.key
    · simp [fi, e]
    · have := fi_lt (l := l) (k := k) (by simpa [has, lkp, e] using h)
      simp [fi, e, this]
theorem fi_key {k : Int} : ∀ {l : List MEnt}, has l k = true → ((l.map MEnt.e)[fi l k]?).map (·.key) = some (.int .u64 k)
  | [], h => by simp [has, lkp] at h
  | x :: l, h => by
    by_cases e : k = x.key
    · simp [fi, e]
    · have := fi_key (l := l) (k := k) (by simpa [has, lkp, e] using h)
      simpa [fi, e] using this
theorem fi_del {k : Int} : ∀ {l : List MEnt}, has l k = true → (l.map MEnt.e).eraseIdx (fi l k) = (del l k).map MEnt.e
  | [], h => by simp [has, lkp] at h
  | x :: l, h => by
    by_cases e : k = x.key
    · simp [fi, del, e]
    · have := fi_del (l := l) (k := k) (by simpa [has, lkp, e] using h)
      simp [fi, del, e, this]
theorem fi_upd {k : Int} (v : Value) : ∀ {l : List MEnt}, has l k = true → (l.map MEnt.e).modify (fi l k) (fun e => { e with key := .int .u64 k, val := v }) = (upd l k v).map MEnt.e
  | [], h => by simp [has, lkp] at h
  | x :: l, h => by
    by_cases e : k = x.key
    · simp [fi, upd, e]
    · have := fi_upd (l := l) (k := k) v (by simpa [has, lkp, e] using h)
      simp [fi, upd, e] at this ⊢
      exact this

section
variable {P : Program} {w : World}
theorem run_checkKey {b : Bool} {t : TypeId} [Und P t (.int .u64)] {k : Int} : (Instr.checkKey b 10000 t (.int .u64 k)).run P w = .ok () w := by
  have hu : ∀ w, (underlying t).run P w = .ok (.int .u64) w := fun w => run_und
  have : ∀ m, (Instr.checkKey b (m + 1) t (.int .u64 k)).run P w = .ok () w := fun m => by simp [Instr.checkKey, hu]
  exact this 9999
theorem run_findKey {t : TypeId} [Und P t (.int .u64)] {k : Int} {l : List MEnt} : (Instr.findKey t (.int .u64 k) (mkEs l).toList).run P w = .ok ((lkp l k).map fun v => (fi l k, v)) w := by
  have hu : ∀ w, (underlying t).run P w = .ok (.int .u64) w := fun w => run_und
  have h1 := findNow_mk k l 0
  rw [Nat.zero_add] at h1
  simp [Instr.findKey, hu, mkEs, h1]
theorem run_getObj {b : Nat} {es : Array MapEntry} {c : Nat} (h : w.heap[b]? = some (.map es c)) : (getObj b).run P w = .ok (.map es c) w := by simp [getObj, Sem.run, h]
theorem run_setObj {b : Nat} {es : Array MapEntry} {c : Nat} (h : w.heap[b]? = some (.map es c)) (o' : Obj) : (setObj b o').run P w = .ok () { w with heap := w.heap.setIfInBounds b o' } := by
  simp [setObj, Sem.run, h]
theorem run_newObj (o : Obj) : (newObj o).run P w = .ok w.heap.size (w.alloc o) := by
  simp [newObj, Sem.run]
end

section
variable {C : Cx} {n : Nat} {T : Tm} {M : Hp} {K : Exit → Tm → Hp → Prop} {ops : Array Oper} {rest : List (Oper × List Oper)} {ps : List Oper}
  {d : Nat} {dst : Option Nat} {g : Option (Nat × Bool)} {ty : TypeId} {pos : String} {after : Array Edge}

theorem Sat.mapHere {w : World} (hs : Sat C M w) {r : Nat} {l : List MEnt} {clock : Nat} (h : (r, mapO l clock) ∈ M) : w.heap[r]? = some (.map (mkEs l) clock) := by
  obtain ⟨o, ho, hok⟩ := hs.here _ h
  have : o = .map (mkEs l) clock := hok
  rw [← this]; exact ho

/-- the block r is another object -/
theorem Sat.setO {w : World} (hs : Sat C M w) {r : Nat} {h : HObj} {o' : Obj} {M1 : Hp} (p : Pick (r, h) M M1) : ∀ w', w' = ({ w with heap := w.heap.setIfInBounds r o' } : World) → Sat C ((r, .obj o') :: M1) w' ∧ Ext M w ((r, .obj o') :: M1) w' := by
  intro w' hw
  subst hw
  obtain ⟨o, ho, _⟩ := (hs.perm p.perm).here _ (List.mem_cons_self ..)
  have hlt := lt_of_some ho
  exact hs.set (h := h) (h' := .obj o') p.perm rfl rfl rfl rfl (by simp) ⟨o', by simp [hlt], rfl⟩ (fun k hk => by simp [Array.getElem?_setIfInBounds_ne (Ne.symm hk)])

theorem AL.makeMap {t k e : TypeId} {r : Option Operand} (hr : r = none) (hd : okDst n (some d) = true)
    (kk : ∀ b, Stabs C n ps ((d, .map (some b)) :: T) ((b, mapO [] 0) :: M) ∧ AL C n ops rest ((d, .map (some b)) :: T) ((b, mapO [] 0) :: M) K) :
    AL C n ops ((⟨some d, .makeMap t r, ty, pos, after, none⟩, ps) :: rest) T M K :=
  AL.gen rfl hd (fun v M' => ∃ b, v = .map (some b) ∧ M' = (b, mapO [] 0) :: M) (fun act w ht hs => by
    obtain ⟨q1, q2⟩ := hs.new (h := mapO [] 0) (o := .map #[] 0) rfl
    refine ⟨_, _, _, ?_, q1, q2, w.heap.size, rfl, rfl⟩
    subst hr
    simp [execOp, Instr.makeMap, run_newObj]) (by rintro v M' ⟨b, rfl, rfl⟩; exact kk b)

theorem PV.lookup {x ix : Operand} {t k e : TypeId} {inf : TypeInfo} {z : Value} [Und C.P t (.map k e)] [Und C.P k (.int .u64)] [Inf C.P e inf] (hz : inf.zero = some z) {r : Nat} {key : Int} {l : List MEnt} {clock : Nat}
    (hx : evO T x = some (.map (some r))) (hi : evO T ix = some (.int .u64 key)) (hm : (r, mapO l clock) ∈ M) : PV C n T M ⟨dst, .lookup t x ix false, ty, pos, after, g⟩ ((lkp l key).getD z) :=
  fun act w ht hs => by
    have hu : ∀ w, (underlying t).run C.P w = .ok (.map k e) w := fun w => run_und
    have hh := run_getObj (P := C.P) (hs.mapHere hm)
    have h1 := run_findKey (P := C.P) (w := w) (t := k) (k := key) (l := l)
    have h3 : ∀ w, (zeroValue e).run C.P w = .ok z w := fun w => run_zero hz
    have hc : ∀ b w, (Instr.checkKey b 10000 k (.int .u64 key)).run C.P w = .ok () w := fun b w => run_checkKey
    simp only [execOp, evO_eval ht hx, evO_eval ht hi, Instr.lookup, Sem.run_bind, hu, Result.andThen_ok, hh, Sem.run_pure, hc, h1]
    cases hl : lkp l key <;> simp [h3]

theorem sameBits_int (a : Int) : Instr.sameBits 10000 (.int .u64 a) (.int .u64 a) = true := by
  have : ∀ m, Instr.sameBits m (.int .u64 a) (.int .u64 a) = true := fun m => by cases m <;> simp [Instr.sameBits]
  exact this 10000

theorem AL.mapUpdate {x ix y : Operand} {t k e : TypeId} [Und C.P t (.map k e)] [Und C.P k (.int .u64)] {r : Nat} {key : Int} {v : Value} {l : List MEnt} {clock : Nat} {F : Hp} (hd : okDst n dst = true)
    (hx : evO T x = some (.map (some r))) (hi : evO T ix = some (.int .u64 key)) (hv : evO T y = some v) (hp : Pick (r, mapO l clock) M F)
    (kk : AL C n ops rest (putT T dst undef) ((r, mapO (put l clock key v) (putClock l clock key)) :: F) K) :
    AL C n ops ((⟨dst, .mapUpdate t x ix y, ty, pos, after, none⟩, []) :: rest) T M K :=
  AL.genSkip rfl hd (fun M' => M' = (r, mapO (put l clock key v) (putClock l clock key)) :: F) (fun act w ht hs => by
    have hu : ∀ w, (underlying t).run C.P w = .ok (.map k e) w := fun w => run_und
    have hmem : (r, mapO l clock) ∈ M := hp.perm.mem_iff.2 (List.mem_cons_self ..)
    have hat := hs.mapHere hmem
    have hh := run_getObj (P := C.P) hat
    have hset := run_setObj (P := C.P) hat
    have h1 := run_findKey (P := C.P) (w := w) (t := k) (k := key) (l := l)
    have hc : ∀ b w, (Instr.checkKey b 10000 k (.int .u64 key)).run C.P w = .ok () w := fun b w => run_checkKey
    obtain ⟨q1, q2⟩ := hs.setO (o' := .map (mkEs (put l clock key v)) (putClock l clock key)) hp _ rfl
    refine ⟨_, _, ?_, q1, q2, rfl⟩
    simp only [execOp, evO_eval ht hx, evO_eval ht hi, evO_eval ht hv, Instr.mapUpdate, Sem.run_bind, hu, Result.andThen_ok, hh, Sem.run_pure, hc, h1]
    cases hl : lkp l key with
    | none =>
      have hno : has l key = false := by simp [has, hl]
      have := hset (.map ((mkEs l).push { key := .int .u64 key, val := v, born := clock }) (clock + 1))
      simp only [Option.map_none, this, Result.andThen_ok]
      simp [put, putClock, hno, mkEs]
    | some v0 =>
      have hyes : has l key = true := by simp [has, hl]
      have hold : (((mkEs l)[fi l key]?).map (·.key)).getD (.int .u64 key) = .int .u64 key := by
        have := fi_key hyes
        simp only [mkEs, List.getElem?_toArray]
        rw [this]; rfl
      have hput : (mkEs l).modify (fi l key) (fun e => { e with key := .int .u64 key, val := v }) = mkEs (put l clock key v) := by
        have := fi_upd v hyes
        apply Array.ext'
        simp only [Array.toList_modify, mkEs, put, hyes, if_true]
        exact this
      have hset' := hset (.map ((mkEs l).modify (fi l key) fun e => { e with key := .int .u64 key, val := v }) clock)
      simp only [Option.map_some, Result.andThen_ok, hold, Instr.keyThatStays, sameBits_int, if_true, Sem.run_bind, Sem.run_pure, hset']
      rw [hput]
      simp [putClock, hyes]) (by rintro _ rfl; exact ⟨trivial, kk⟩)

theorem AL.delete {x ix : Operand} {t k e : TypeId} {tys : Array TypeId} [Und C.P t (.map k e)] [Und C.P k (.int .u64)] {r : Nat} {key : Int} {l : List MEnt} {clock : Nat} {F : Hp} (ht0 : tys[0]? = some t) (hd : okDst n (some d) = true)
    (hx : evO T x = some (.map (some r))) (hi : evO T ix = some (.int .u64 key)) (hp : Pick (r, mapO l clock) M F)
    (kk : AL C n ops rest ((d, .tuple #[]) :: T) ((r, mapO (del l key) clock) :: F) K) :
    AL C n ops ((⟨some d, .call ⟨.builtin .delete, #[x, ix], tys⟩, ty, pos, after, none⟩, []) :: rest) T M K :=
  AL.gen rfl hd (fun v M' => v = .tuple #[] ∧ M' = (r, mapO (del l key) clock) :: F) (fun act w ht hs => by
    have hu : ∀ w, (underlying t).run C.P w = .ok (.map k e) w := fun w => run_und
    have hmem : (r, mapO l clock) ∈ M := hp.perm.mem_iff.2 (List.mem_cons_self ..)
    have hat := hs.mapHere hmem
    have hh := run_getObj (P := C.P) hat
    have hset := run_setObj (P := C.P) hat
    have h1 := run_findKey (P := C.P) (w := w) (t := k) (k := key) (l := l)
    have hc : ∀ b w, (Instr.checkKey b 10000 k (.int .u64 key)).run C.P w = .ok () w := fun b w => run_checkKey
    obtain ⟨q1, q2⟩ := hs.setO (o' := .map (mkEs (del l key)) clock) hp _ rfl
    refine ⟨_, _, _, ?_, q1, q2, rfl, rfl⟩
    have hrun : (Builtin.delete_ tys ty #[.map (some r), .int .u64 key]).run C.P w = .ok (.tuple #[]) { w with heap := w.heap.setIfInBounds r (.map (mkEs (del l key)) clock) } := by
      simp only [Builtin.delete_, ht0, List.getElem?_toArray, List.getElem?_cons_zero, List.getElem?_cons_succ, Sem.run_bind, hu, Result.andThen_ok, hh, hc, h1]
      cases hl : lkp l key with
      | none =>
        have hno : has l key = false := by simp [has, hl]
        have hdel : del l key = l := by
          clear hh hset h1 q1 q2 hat hmem hp kk
          induction l with
          | nil => rfl
          | cons y l ih =>
            by_cases e : key = y.key
            · simp [has, lkp, e] at hno
            · simp only [has, lkp, e, if_false] at hno hl
              simp [del, e, ih hl hno]
        rw [hdel]
        simp [hset]
      | some v0 =>
        have hyes : has l key = true := by simp [has, hl]
        have her : (mkEs l).eraseIdxIfInBounds (fi l key) = mkEs (del l key) := by
          have h2 := fi_lt hyes
          have hlt : fi l key < (mkEs l).size := by simpa [mkEs] using h2
          rw [Array.eraseIdxIfInBounds, dif_pos hlt]
          apply Array.ext'
          rw [Array.toList_eraseIdx]
          simpa [mkEs] using fi_del hyes
        simp [hset, her]
    simp only [execOp, resolve, List.map_toArray, List.map_cons, List.map_nil, evO_eval ht hx, evO_eval ht hi]
    unfold Go.invoke Go.builtin
    simp [hrun]) (by rintro _ _ ⟨rfl, rfl⟩; exact ⟨trivial, kk⟩)

theorem AL.deleteO {x ix : Operand} {t k e : TypeId} {tys : Array TypeId} [Und C.P t (.map k e)] [Und C.P k (.int .u64)] {r : Nat} {key : Int} {l : List MEnt} {clock : Nat} {F : Hp} (ht0 : tys[0]? = some t) (hd : okDst n dst = true)
    (hx : evO T x = some (.map (some r))) (hi : evO T ix = some (.int .u64 key)) (hp : Pick (r, mapO l clock) M F)
    (kk : AL C n ops rest (putT T dst (.tuple #[])) ((r, mapO (del l key) clock) :: F) K) :
    AL C n ops ((⟨dst, .call ⟨.builtin .delete, #[x, ix], tys⟩, ty, pos, after, none⟩, []) :: rest) T M K :=
  AL.gen rfl hd (fun v M' => v = .tuple #[] ∧ M' = (r, mapO (del l key) clock) :: F) (fun act w ht hs => by
    have hu : ∀ w, (underlying t).run C.P w = .ok (.map k e) w := fun w => run_und
    have hmem : (r, mapO l clock) ∈ M := hp.perm.mem_iff.2 (List.mem_cons_self ..)
    have hat := hs.mapHere hmem
    have hh := run_getObj (P := C.P) hat
    have hset := run_setObj (P := C.P) hat
    have h1 := run_findKey (P := C.P) (w := w) (t := k) (k := key) (l := l)
    have hc : ∀ b w, (Instr.checkKey b 10000 k (.int .u64 key)).run C.P w = .ok () w := fun b w => run_checkKey
    obtain ⟨q1, q2⟩ := hs.setO (o' := .map (mkEs (del l key)) clock) hp _ rfl
    refine ⟨_, _, _, ?_, q1, q2, rfl, rfl⟩
    have hrun : (Builtin.delete_ tys ty #[.map (some r), .int .u64 key]).run C.P w = .ok (.tuple #[]) { w with heap := w.heap.setIfInBounds r (.map (mkEs (del l key)) clock) } := by
      simp only [Builtin.delete_, ht0, List.getElem?_toArray, List.getElem?_cons_zero, List.getElem?_cons_succ, Sem.run_bind, hu, Result.andThen_ok, hh, hc, h1]
      cases hl : lkp l key with
      | none =>
        have hno : has l key = false := by simp [has, hl]
        have hdel : del l key = l := by
          clear hh hset h1 q1 q2 hat hmem hp kk
          induction l with
          | nil => rfl
          | cons y l ih =>
            by_cases e : key = y.key
            · simp [has, lkp, e] at hno
            · simp only [has, lkp, e, if_false] at hno hl
              simp [del, e, ih hl hno]
        rw [hdel]
        simp [hset]
      | some v0 =>
        have hyes : has l key = true := by simp [has, hl]
        have her : (mkEs l).eraseIdxIfInBounds (fi l key) = mkEs (del l key) := by
          have h2 := fi_lt hyes
          have hlt : fi l key < (mkEs l).size := by simpa [mkEs] using h2
          rw [Array.eraseIdxIfInBounds, dif_pos hlt]
          apply Array.ext'
          rw [Array.toList_eraseIdx]
          simpa [mkEs] using fi_del hyes
        simp [hset, her]
    simp only [execOp, resolve, List.map_toArray, List.map_cons, List.map_nil, evO_eval ht hx, evO_eval ht hi]
    unfold Go.invoke Go.builtin
    simp [hrun]) (by rintro _ _ ⟨rfl, rfl⟩; exact ⟨trivial, kk⟩)

theorem PV.lenMap {x : Operand} {t k e : TypeId} [Und C.P t (.map k e)] {r : Nat} {l : List MEnt} {clock : Nat} (hx : evO T x = some (.map (some r))) (hm : (r, mapO l clock) ∈ M) :
    PV C n T M ⟨dst, .call ⟨.builtin .len, #[x], #[t]⟩, ty, pos, after, g⟩ (.int .i64 l.length) :=
  fun act w ht hs => by
    have hu : ∀ w, (underlying t).run C.P w = .ok (.map k e) w := fun w => run_und
    have hh := run_getObj (P := C.P) (hs.mapHere hm)
    simp [execOp, resolve, invoke, builtin, Builtin.len_, evO_eval ht hx, hu, hh, goInt, mkEs]

theorem IsRow.asSlice {sz : Nat} {e : TypeId} {v : Value} {n : Nat} {cs : List Value} {R : Hp} (h : IsRow sz e v n cs R) : ∃ a cap, v = .slice a n cap := by
  cases h <;> exact ⟨_, _, rfl⟩
theorem IsRow.shows {sz : Nat} {e : TypeId} {v : Value} {n : Nat} {cs : List Value} {R M : Hp} (h : IsRow sz e v n cs R) (hm : ∀ x ∈ R, x ∈ M) : Shows C M sz v n cs := by
  cases h with
  | nil => exact .nil
  | lit h1 h2 => exact .some h1 (RdL.whole (hm _ (List.mem_singleton.2 rfl)))
  | row h1 h2 h3 => exact .some h1 (RdL.own (hm _ (List.mem_singleton.2 rfl)) (by simp [HObj.list]))

/-- an iterator over a map to which nothing is laid meanwhile -/
def iterO (r since : Nat) (seen : List Nat) (c0 : Nat) : HObj := .obj (.mapIter (some r) since seen.toArray c0)
theorem AL.range {x : Operand} {t k e : TypeId} [Und C.P t (.map k e)] {r : Nat} {l : List MEnt} {clock : Nat} (hd : okDst n (some d) = true)
    (hx : evO T x = some (.map (some r))) (hm : (r, mapO l clock) ∈ M)
    (kk : ∀ b, AL C n ops rest ((d, .pointer (some ⟨b, 0, none⟩)) :: T) ((b, iterO r clock [] clock) :: M) K) :
    AL C n ops ((⟨some d, .range t x, ty, pos, after, none⟩, []) :: rest) T M K :=
  AL.gen rfl hd (fun v M' => ∃ b, v = .pointer (some ⟨b, 0, none⟩) ∧ M' = (b, iterO r clock [] clock) :: M) (fun act w ht hs => by
    obtain ⟨q1, q2⟩ := hs.new (h := iterO r clock [] clock) (o := .mapIter (some r) clock #[] clock) rfl
    have hu : ∀ w, (underlying t).run C.P w = .ok (.map k e) w := fun w => run_und
    have hh := run_getObj (P := C.P) (hs.mapHere hm)
    refine ⟨_, _, _, ?_, q1, q2, w.heap.size, rfl, rfl⟩
    simp [execOp, Instr.range, evO_eval ht hx, hu, hh, run_newObj]) (by rintro v M' ⟨b, rfl, rfl⟩; exact ⟨trivial, kk b⟩)

theorem Sat.iterHere {w : World} (hs : Sat C M w) {it r since c0 : Nat} {seen : List Nat} (h : (it, iterO r since seen c0) ∈ M) : w.heap[it]? = some (.mapIter (some r) since seen.toArray c0) := by
  obtain ⟨o, ho, hok⟩ := hs.here _ h
  have : o = .mapIter (some r) since seen.toArray c0 := hok
  rw [← this]; exact ho
theorem Sat.drew {w : World} (h : Sat C M w) : Sat C M w.drew := ⟨⟨h.below.os, h.below.tape, h.below.output, h.below.size, h.below.block⟩, h.nodup, h.ge, h.here⟩

theorem AL.next {x : Operand} {it r clock : Nat} {seen : List Nat} {l : List MEnt} {F : Hp} (hd : okDst n (some d) = true) (hx : evO T x = some (.pointer (some ⟨it, 0, none⟩))) (hp : Pick (it, iterO r clock seen clock) M F) (hm : (r, mapO l clock) ∈ M)
    (hold : ∀ x ∈ l, x.born < clock)
    (k0 : (∀ x ∈ l, x.born ∈ seen) → AL C n ops rest ((d, .tuple #[.bool false]) :: T) M K)
    (k1 : ∀ x ∈ l, x.born ∉ seen → AL C n ops rest ((d, .tuple #[.bool true, .int .u64 x.key, x.val]) :: T) ((it, iterO r clock (seen ++ [x.born]) clock) :: F) K) :
    AL C n ops ((⟨some d, .next x false, ty, pos, after, none⟩, []) :: rest) T M K :=
  AL.gen rfl hd (fun v M' => (v = .tuple #[.bool false] ∧ M' = M ∧ ∀ x ∈ l, x.born ∈ seen) ∨ ∃ x ∈ l, x.born ∉ seen ∧ v = .tuple #[.bool true, .int .u64 x.key, x.val] ∧ M' = (it, iterO r clock (seen ++ [x.born]) clock) :: F) (fun act w ht hs => by
    have hitm : (it, iterO r clock seen clock) ∈ M := hp.perm.mem_iff.2 (List.mem_cons_self ..)
    have h1 := hs.iterHere hitm
    have h2 := hs.mapHere hm
    have hold' : ∀ x ∈ (mkEs l).toList, x.born < clock := by
      intro x hx
      simp only [mkEs, List.mem_map] at hx
      obtain ⟨y, hy, rfl⟩ := hx
      exact hold y hy
    have hex : execOp act.eval ⟨some d, .next x false, ty, pos, after, none⟩ = (do let v ← Instr.next (.pointer (some ⟨it, 0, none⟩)) false ty; Pure.pure (.value v)) := by simp only [execOp, evO_eval ht hx]
    rcases run_next_at (P := C.P) w ty it r clock clock seen.toArray (mkEs l) clock h1 h2 hold' (Nat.le_refl _) with ⟨h0, hr⟩ | ⟨e, he, w1, hw1, hr⟩
    · refine ⟨_, M, w, by rw [hex, Sem.run_bind, hr]; rfl, hs, Ext.refl M w, .inl ⟨rfl, rfl, ?_⟩⟩
      intro y hy
      have : leftOf (mkEs l) seen.toArray = #[] := Array.eq_empty_of_size_eq_zero h0
      unfold leftOf at this
      rw [Array.filter_eq_empty_iff] at this
      have := this y.e (by simp only [mkEs, List.mem_toArray]; exact List.mem_map_of_mem hy)
      simpa using this
    · have he' : e ∈ (mkEs l).toList ∧ e.born ∉ seen := by
        unfold leftOf at he
        simp at he
        exact ⟨by simpa using he.1, he.2⟩
      obtain ⟨hin, hns⟩ := he'
      simp only [mkEs, List.mem_map] at hin
      obtain ⟨y, hy, rfl⟩ := hin
      have hs1 : Sat C M w1 := by rcases hw1 with rfl | rfl; exact hs; exact hs.drew
      have hext1 : Ext M w M w1 := by rcases hw1 with rfl | rfl <;> exact ⟨Nat.le_refl _, fun _ _ _ => rfl, fun _ h => .inl h⟩
      obtain ⟨q1, q2⟩ := hs1.setO (o' := .mapIter (some r) clock (seen.toArray.push y.born) clock) hp _ rfl
      refine ⟨_, (it, iterO r clock (seen ++ [y.born]) clock) :: F, _, by rw [hex, Sem.run_bind, hr]; rfl, ?_, ?_, .inr ⟨y, hy, hns, rfl, rfl⟩⟩
      · have e1 : iterO r clock (seen ++ [y.born]) clock = .obj (.mapIter (some r) clock (seen.toArray.push y.born) clock) := by simp [iterO]
        rw [e1]; exact q1
      · have e1 : iterO r clock (seen ++ [y.born]) clock = .obj (.mapIter (some r) clock (seen.toArray.push y.born) clock) := by simp [iterO]
        rw [e1]; exact hext1.trans q2) (by
    rintro v M' (⟨rfl, rfl, h⟩ | ⟨y, hy, hns, rfl, rfl⟩)
    · exact ⟨trivial, k0 h⟩
    · exact ⟨trivial, k1 y hy hns⟩)

theorem PV.entry {x : Operand} {it r clock : Nat} {seen : List Nat} {l : List MEnt} {y : MEnt} (hx : evO T x = some (.pointer (some ⟨it, 0, none⟩))) (hit : (it, iterO r clock (seen ++ [y.born]) clock) ∈ M) (hm : (r, mapO l clock) ∈ M)
    (hy : y ∈ l) (hn : (l.map MEnt.born).Nodup) : PV C n T M ⟨dst, .entry x, ty, pos, after, g⟩ (.tuple #[.int .u64 y.key, y.val]) :=
  fun act w ht hs => by
    have h1 := hs.iterHere hit
    have h2 := hs.mapHere hm
    have h1' : w.heap[it]? = some (.mapIter (some r) clock (seen.toArray.push y.e.born) clock) := by rw [h1]; simp
    have hr := run_entry_at (P := C.P) w it r clock seen.toArray (mkEs l) clock y.e h1' h2 (by simp only [mkEs]; exact List.mem_map_of_mem hy) (by simpa [mkEs, Function.comp_def] using hn)
    simp only [execOp, evO_eval ht hx, Sem.run_bind, hr, Result.andThen_ok, Sem.run_pure]
end
end Go.SL
