/-
  The layer of triples, third part: the operations one by one.
-/
import Derived.Test.YtbchkofadjeblaaSlB
set_option linter.unusedVariables false
set_option linter.unusedSimpArgs false
namespace Go.SL
open Go Go.RowKit

class Und (P : Program) (t : TypeId) (d : outParam TypeDesc) : Prop where
  fact : P.underlying t = some d
class Inf (P : Program) (t : TypeId) (i : outParam TypeInfo) : Prop where
  fact : P.info? t = some i
class Bod (P : Program) (f : FuncId) : Prop where
  fact : ∃ fn, P.funcs[f]? = some fn ∧ (fn.name == "runtime.NumGoroutine") = false ∧ fn.body.isNone = false
/-- a method of an interface, its receiver the value itself -/
class Meth (P : Program) (t : TypeId) (name : String) (f : outParam FuncId) : Prop where
  fact : ∀ (a : Option Addr) (w : World), (method (P.types.size + Made.depth) t (.pointer a) name).run P w = .ok (f, .pointer a) w

def aggD : TypeDesc → Bool
  | .struct _ | .array _ _ => true
  | _ => false

section
variable {P : Program} {w : World}
theorem run_und {t : TypeId} {d : TypeDesc} [h : Und P t d] : (underlying t).run P w = .ok d w := by
  simp [underlying, h.fact]
theorem run_isAgg {t : TypeId} {d : TypeDesc} [h : Und P t d] : (isAgg t).run P w = .ok (aggD d) w := by
  unfold isAgg
  rw [Sem.run_bind, run_und (h := h)]
  cases d <;> simp [aggD]
theorem run_sizeOf {t : TypeId} {i : TypeInfo} [h : Inf P t i] : (sizeOf t).run P w = .ok i.size w := by
  simp [sizeOf, typeInfo, h.fact]
theorem run_typeInfo {t : TypeId} {i : TypeInfo} [h : Inf P t i] : (typeInfo t).run P w = .ok i w := by
  simp [typeInfo, h.fact]
theorem run_zero {t : TypeId} {i : TypeInfo} [h : Inf P t i] {z : Value} (hz : i.zero = some z) : (zeroValue t).run P w = .ok z w := by
  simp [zeroValue, typeInfo, h.fact, hz]
end

section
variable {C : Cx} {n : Nat} {T : Tm} {M : Hp} {K : Exit → Tm → Hp → Prop} {ops : Array Oper} {rest : List (Oper × List Oper)} {ps : List Oper}
  {d : Nat} {dst : Option Nat} {g : Option (Nat × Bool)} {ty : TypeId} {pos : String} {after : Array Edge}

theorem PU.move {x : Operand} {v : Value} (hx : evO T x = some v) : PU C n T ⟨dst, .move x, ty, pos, after, g⟩ v :=
  fun a ht w => by simp [execOp, evO_eval ht hx]
theorem PU.assign {x : Operand} {v : Value} (hx : evO T x = some v) : PU C n T ⟨dst, .assign x, ty, pos, after, g⟩ v :=
  fun a ht w => by simp [execOp, evO_eval ht hx]
theorem PU.pick_t {c x y : Operand} {b : Bool} {v : Value} (hc : evO T c = some (.bool b)) (hb : b = true) (hx : evO T x = some v) : PU C n T ⟨dst, .pick c x y, ty, pos, after, g⟩ v :=
  fun a ht w => by simp [execOp, evO_eval ht hc, evO_eval ht hx, asBool, hb]
theorem PU.pick_f {c x y : Operand} {b : Bool} {v : Value} (hc : evO T c = some (.bool b)) (hb : b = false) (hy : evO T y = some v) : PU C n T ⟨dst, .pick c x y, ty, pos, after, g⟩ v :=
  fun a ht w => by simp [execOp, evO_eval ht hc, evO_eval ht hy, asBool, hb]
theorem PU.nilCheck {x : Operand} {a : Addr} (hx : evO T x = some (.pointer (some a))) : PU C n T ⟨dst, .nilCheck x, ty, pos, after, g⟩ (.pointer (some a)) :=
  fun a ht w => by simp [execOp, evO_eval ht hx]
theorem PU.not {x : Operand} {xt : TypeId} {b : Bool} (hx : evO T x = some (.bool b)) : PU C n T ⟨dst, .unOp .not xt x, ty, pos, after, g⟩ (.bool (!b)) :=
  fun a ht w => by simp [execOp, evO_eval ht hx, Op.unary]

/-! integers -/
theorem run_int_bin {P : Program} {w : World} {op : BinOp} {xt : TypeId} {x y : Operand} {k : IntKind} {a b : Int} {r : Value}
    (hop : (match op with | .shl | .shr => false | _ => true) = true)
    (h : ((match op with | .add | .sub | .mul => Op.intArith op k a b | .quo | .rem => Op.intDiv op k a b | .and | .or | .xor | .andNot => Op.intBits op k a b | _ => Op.intCmp op a b) : Sem Value).run P w = .ok r w) :
    (do eqGuard op xt x y (.int k a) (.int k b); binOp op xt (.int k a) (.int k b) : Sem Value).run P w = .ok r w := by
  have hg : (eqGuard op xt x y (.int k a) (.int k b)).run P w = .ok () w := by
    unfold eqGuard
    cases op <;> simp
  rw [Sem.run_bind, hg]
  cases op <;> first | (simp at hop; done) | (simp only [binOp, Result.andThen_ok]; simpa using h)

def intV (op : BinOp) (k : IntKind) (a b : Int) : Option Value :=
  match op with
  | .add => some (.int k (k.wrap (a + b)))
  | .sub => some (.int k (k.wrap (a - b)))
  | .mul => some (.int k (k.wrap (a * b)))
  | .eql => some (.bool (a == b))
  | .neq => some (.bool (a != b))
  | .lss => some (.bool (decide (a < b)))
  | .leq => some (.bool (decide (a ≤ b)))
  | .gtr => some (.bool (decide (a > b)))
  | .geq => some (.bool (decide (a ≥ b)))
  | .and => some (.int k (k.wrap (BitVec.ofInt k.bits a &&& BitVec.ofInt k.bits b).toNat))
  | .or => some (.int k (k.wrap (BitVec.ofInt k.bits a ||| BitVec.ofInt k.bits b).toNat))
  | .xor => some (.int k (k.wrap (BitVec.ofInt k.bits a ^^^ BitVec.ofInt k.bits b).toNat))
  | .andNot => some (.int k (k.wrap (BitVec.ofInt k.bits a &&& ~~~ (BitVec.ofInt k.bits b)).toNat))
  | _ => none

theorem PU.int {op : BinOp} {x y : Operand} {xt yt : TypeId} {k : IntKind} {a b : Int} {r : Value} (hx : evO T x = some (.int k a)) (hy : evO T y = some (.int k b)) (hr : intV op k a b = some r) : PU C n T ⟨dst, .binOp op xt x y yt, ty, pos, after, g⟩ r :=
  fun act ht w => by
    have : (do eqGuard op xt x y (.int k a) (.int k b); binOp op xt (.int k a) (.int k b) : Sem Value).run C.P w = .ok r w := by
      refine run_int_bin ?_ ?_
      · cases op <;> simp [intV] at hr ⊢
      · cases op <;> simp [intV, Op.intArith, Op.intCmp, Op.intBits] at hr ⊢ <;> exact hr
    simp only [execOp, evO_eval ht hx, evO_eval ht hy]
    rw [Sem.run_bind, this]; rfl

/-- a sum, a difference that fits -/
theorem wrap_i64 {x : Int} (h1 : -9223372036854775808 ≤ x) (h2 : x ≤ 9223372036854775807) : IntKind.i64.wrap x = x := by
  have h : (2 : Int) ^ 64 = 18446744073709551616 := by decide
  have h' : (2 : Int) ^ (64 - 1) = 9223372036854775808 := by decide
  simp only [IntKind.wrap, IntKind.bits, IntKind.signed, h, h', Bool.true_and, decide_eq_true_eq]; omega
theorem wrap_u64 {x : Int} (h1 : 0 ≤ x) (h2 : x ≤ 18446744073709551615) : IntKind.u64.wrap x = x := by
  have h : (2 : Int) ^ 64 = 18446744073709551616 := by decide
  simp only [IntKind.wrap, IntKind.bits, IntKind.signed, h, Bool.false_and]
  simp only [Bool.false_eq_true, if_false]
  omega
theorem PU.add {x y : Operand} {xt yt : TypeId} {a b : Int} (hx : evO T x = some (.int .i64 a)) (hy : evO T y = some (.int .i64 b)) (hb : -9223372036854775808 ≤ a + b ∧ a + b ≤ 9223372036854775807) : PU C n T ⟨dst, .binOp .add xt x y yt, ty, pos, after, g⟩ (.int .i64 (a + b)) :=
  PU.int hx hy (by simp only [intV]; rw [wrap_i64 hb.1 hb.2])
theorem PU.sub {x y : Operand} {xt yt : TypeId} {a b : Int} (hx : evO T x = some (.int .i64 a)) (hy : evO T y = some (.int .i64 b)) (hb : -9223372036854775808 ≤ a - b ∧ a - b ≤ 9223372036854775807) : PU C n T ⟨dst, .binOp .sub xt x y yt, ty, pos, after, g⟩ (.int .i64 (a - b)) :=
  PU.int hx hy (by simp only [intV]; rw [wrap_i64 hb.1 hb.2])

theorem PU.addu {x y : Operand} {xt yt : TypeId} {a b : Int} (hx : evO T x = some (.int .u64 a)) (hy : evO T y = some (.int .u64 b)) (hb : 0 ≤ a + b ∧ a + b ≤ 18446744073709551615) : PU C n T ⟨dst, .binOp .add xt x y yt, ty, pos, after, g⟩ (.int .u64 (a + b)) :=
  PU.int hx hy (by simp only [intV]; rw [wrap_u64 hb.1 hb.2])
theorem PU.subu {x y : Operand} {xt yt : TypeId} {a b : Int} (hx : evO T x = some (.int .u64 a)) (hy : evO T y = some (.int .u64 b)) (hb : 0 ≤ a - b ∧ a - b ≤ 18446744073709551615) : PU C n T ⟨dst, .binOp .sub xt x y yt, ty, pos, after, g⟩ (.int .u64 (a - b)) :=
  PU.int hx hy (by simp only [intV]; rw [wrap_u64 hb.1 hb.2])

theorem PU.quo {op : BinOp} {x y : Operand} {xt yt : TypeId} {k : IntKind} {a b : Int} {r : Value} (hx : evO T x = some (.int k a)) (hy : evO T y = some (.int k b)) (h0 : b ≠ 0) (hr : (match op with | .quo => some (Value.int k (k.wrap (a.tdiv b))) | .rem => some (.int k (a.tmod b)) | _ => none) = some r) : PU C n T ⟨dst, .binOp op xt x y yt, ty, pos, after, g⟩ r :=
  fun act ht w => by
    have : (do eqGuard op xt x y (.int k a) (.int k b); binOp op xt (.int k a) (.int k b) : Sem Value).run C.P w = .ok r w := by
      refine run_int_bin ?_ ?_
      · cases op <;> simp at hr ⊢
      · cases op <;> simp [Op.intDiv, h0] at hr ⊢ <;> exact hr
    simp only [execOp, evO_eval ht hx, evO_eval ht hy]
    rw [Sem.run_bind, this]; rfl

theorem PU.shift {op : BinOp} {x y : Operand} {xt yt : TypeId} {k k2 : IntKind} {a b : Int} {r : Value} (hx : evO T x = some (.int k a)) (hy : evO T y = some (.int k2 b)) (h0 : 0 ≤ b) (hr : (match op with | .shl => some (Value.int k (k.wrap (a * 2 ^ (min b.toNat k.bits)))) | .shr => some (.int k (a.fdiv (2 ^ (min b.toNat k.bits)))) | _ => none) = some r) : PU C n T ⟨dst, .binOp op xt x y yt, ty, pos, after, g⟩ r :=
  fun act ht w => by
    have hnot : ¬ b < 0 := by omega
    have : (do eqGuard op xt x y (.int k a) (.int k2 b); binOp op xt (.int k a) (.int k2 b) : Sem Value).run C.P w = .ok r w := by
      cases op <;> simp at hr <;> subst hr <;> simp [eqGuard, binOp, Op.shift, hnot]
    simp only [execOp, evO_eval ht hx, evO_eval ht hy]
    rw [Sem.run_bind, this]; rfl

/-- pointers against nil -/
def nilV (op : BinOp) (p q : Option Addr) : Option Value :=
  match op, p, q with
  | .eql, none, q => some (.bool q.isNone)
  | .eql, some _, none => some (.bool false)
  | .neq, none, q => some (.bool (!q.isNone))
  | .neq, some _, none => some (.bool true)
  | _, _, _ => none
theorem run_nil_cmp {P : Program} {w : World} {op : BinOp} {xt e : TypeId} [Und P xt (.pointer e)] {x y : Operand} {p q : Option Addr} {r : Value} (hr : nilV op p q = some r) :
    (do eqGuard op xt x y (.pointer p) (.pointer q); binOp op xt (.pointer p) (.pointer q) : Sem Value).run P w = .ok r w := by
  have hu : ∀ w, (underlying xt).run P w = .ok (.pointer e) w := fun w => run_und
  have hg : (eqGuard op xt x y (.pointer p) (.pointer q)).run P w = .ok () w := by
    unfold eqGuard
    cases op <;> simp
  have he : ∀ (b : Bool) (d : Nat), (match p, q with | none, q => some q.isNone | some _, none => some false | _, _ => none) = some b → (Op.equalIn (d + 1) xt (.pointer p) (.pointer q)).run P w = .ok b w := by
    intro b d hb
    cases p with
    | none => simp at hb; subst hb; simp [Op.equalIn, hu]
    | some a => cases q with
      | none => simp at hb; subst hb; simp [Op.equalIn, hu]
      | some a' => simp at hb
  rw [Sem.run_bind, hg]
  simp only [Result.andThen_ok]
  cases op <;> first
    | (cases p <;> cases q <;> simp [nilV] at hr; done)
    | (cases p <;> cases q <;> simp only [nilV] at hr <;> first | (cases hr; done) | (cases hr; simp only [binOp, Op.equal, Op.maxDepth, Sem.run_bind]; rw [he _ 9999 rfl]; rfl))
theorem PU.nil_cmp {op : BinOp} {x y : Operand} {xt yt e : TypeId} [Und C.P xt (.pointer e)] {p q : Option Addr} {r : Value} (hx : evO T x = some (.pointer p)) (hy : evO T y = some (.pointer q)) (hr : nilV op p q = some r) : PU C n T ⟨dst, .binOp op xt x y yt, ty, pos, after, g⟩ r :=
  fun act ht w => by
    simp only [execOp, evO_eval ht hx, evO_eval ht hy]
    rw [Sem.run_bind, run_nil_cmp hr]; rfl

/-- an integer becomes one of another kind -/
theorem PU.convert {x : Operand} {s t : TypeId} {ks k : IntKind} [Und C.P s (.int ks)] [Und C.P t (.int k)] {a : Int} (hx : evO T x = some (.int ks a)) : PU C n T ⟨dst, .convert s t x, ty, pos, after, g⟩ (.int k (k.wrap a)) :=
  fun act ht w => by
    have h1 : ∀ w, (underlying s).run C.P w = .ok (.int ks) w := fun w => run_und
    have h2 : ∀ w, (underlying t).run C.P w = .ok (.int k) w := fun w => run_und
    simp [execOp, evO_eval ht hx, Go.convert, h1, h2, Conv.intToInt]
theorem PU.convert_fit {x : Operand} {s t : TypeId} {ks k : IntKind} [Und C.P s (.int ks)] [Und C.P t (.int k)] {a : Int} (hx : evO T x = some (.int ks a)) (hf : k.wrap a = a) : PU C n T ⟨dst, .convert s t x, ty, pos, after, g⟩ (.int k a) :=
  by have := PU.convert (C := C) (n := n) (T := T) (s := s) (t := t) (dst := dst) (ty := ty) (pos := pos) (after := after) (g := g) hx; rwa [hf] at this

theorem PU.makeInterface {x : Operand} {xt : TypeId} {D : TypeDesc} [Und C.P xt D] {v : Value} (hi : (match D with | .interface _ => false | _ => true) = true) (hx : evO T x = some v) : PU C n T ⟨dst, .makeInterface xt x, ty, pos, after, g⟩ (.iface xt v) :=
  fun act ht w => by
    have h1 : ∀ w, (underlying xt).run C.P w = .ok D w := fun w => run_und
    cases D <;> first | (simp at hi; done) | simp [execOp, evO_eval ht hx, Instr.makeInterface, h1]

def evL (T : Tm) : List Operand → Option (List Value)
  | [] => some []
  | x :: xs => match evO T x, evL T xs with | some v, some vs => some (v :: vs) | _, _ => none
theorem evL_eval {a : Act} (ht : TRel n T a) : ∀ {xs : List Operand} {vs : List Value}, evL T xs = some vs → xs.map a.eval = vs
  | [], vs, h => by simp [evL] at h; simp [h]
  | x :: xs, vs, h => by
    unfold evL at h
    cases hx : evO T x with
    | none => simp [hx] at h
    | some v =>
      cases hl : evL T xs with
      | none => simp [hx, hl] at h
      | some us => simp [hx, hl] at h; subst h; simp [evO_eval ht hx, evL_eval ht hl]

theorem PU.makeFunc {fn : Fn} {first cap : List Operand} {vs us : List Value} (h1 : evL T first = some vs) (h2 : evL T cap = some us) : PU C n T ⟨dst, .makeFunc fn first.toArray cap.toArray, ty, pos, after, g⟩ (.func fn vs.toArray us.toArray) :=
  fun act ht w => by simp [execOp, Instr.makeFunc, evL_eval ht h1, evL_eval ht h2]

theorem PU.extract {x : Operand} {vs : List Value} {i : Nat} {v : Value} (hx : evO T x = some (.tuple vs.toArray)) (hv : vs[i]? = some v) : PU C n T ⟨dst, .extract x i, ty, pos, after, g⟩ v :=
  fun act ht w => by simp [execOp, evO_eval ht hx, Instr.extract, hv]

/-! addresses -/
theorem addr_add (b off k : Nat) : (⟨b, off, none⟩ : Addr).add k = ⟨b, off + k, none⟩ := by
  unfold Addr.add; split
  · simp_all
  · rfl
def fieldF (P : Program) (s : TypeId) (i : Nat) : Option Nat :=
  match P.underlying s with
  | some (.struct fs) => (fs[i]?).bind fun f => match P.info? f.type with | some inf => if inf.size = 0 then none else some f.offset | none => none
  | _ => none
class Fld (P : Program) (s : TypeId) (i : Nat) (off : outParam Nat) : Prop where
  fact : fieldF P s i = some off
theorem run_fieldAt {P : Program} {s : TypeId} {i off : Nat} [h : Fld P s i off] {b o : Nat} {w : World} : (Instr.fieldAt s (.pointer (some ⟨b, o, none⟩)) i).run P w = .ok (.pointer (some ⟨b, o + off, none⟩)) w := by
  have h := h.fact
  unfold fieldF at h
  split at h
  · rename_i fs hu
    cases hf : fs[i]? with
    | none => simp [hf] at h
    | some f =>
      rw [hf] at h
      simp only [Option.bind_some] at h
      cases hi : P.info? f.type with
      | none => simp [hi] at h
      | some inf =>
        rw [hi] at h
        by_cases hz : inf.size = 0
        · simp [hz] at h
        · simp [hz] at h
          simp [Instr.fieldAt, underlying, hu, hf, Instr.sureAddr, fieldPlace, sizeOf, typeInfo, hi, hz, addr_add, h]
  · simp at h
theorem PU.fieldAddr {x : Operand} {s : TypeId} {i off : Nat} [Fld C.P s i off] {b o : Nat} (hx : evO T x = some (.pointer (some ⟨b, o, none⟩))) : PU C n T ⟨dst, .fieldAddr s x i, ty, pos, after, g⟩ (.pointer (some ⟨b, o + off, none⟩)) :=
  fun act ht w => by simp only [execOp, evO_eval ht hx, Sem.run_bind, run_fieldAt, Result.andThen_ok, Sem.run_pure]

theorem PU.indexAddr {x i : Operand} {t e : TypeId} {inf : TypeInfo} [Und C.P t (.slice e)] [Inf C.P e inf] {b o len cap : Nat} {k : IntKind} {j : Int} {sz : Nat} (hsz : inf.size = sz) (hx : evO T x = some (.slice (some ⟨b, o, none⟩) len cap)) (hi : evO T i = some (.int k j)) (hj : 0 ≤ j ∧ j < len) : PU C n T ⟨dst, .indexAddr t x i, ty, pos, after, g⟩ (.pointer (some ⟨b, o + j.toNat * sz, none⟩)) :=
  fun act ht w => by
    have h1 : ∀ w, (underlying t).run C.P w = .ok (.slice e) w := fun w => run_und
    have h2 : ∀ w, (sizeOf e).run C.P w = .ok inf.size w := fun w => run_sizeOf
    subst hsz
    simp [execOp, evO_eval ht hx, evO_eval ht hi, Instr.indexAt, asIntOf, h1, h2, hj, addr_add]

theorem PU.indexArr {x i : Operand} {t e : TypeId} {len : Nat} {inf : TypeInfo} [Und C.P t (.array len e)] [Inf C.P e inf] {b o : Nat} {k : IntKind} {j : Int} {sz : Nat} (hsz : inf.size = sz) (hx : evO T x = some (.pointer (some ⟨b, o, none⟩))) (hi : evO T i = some (.int k j)) (hj : 0 ≤ j ∧ j < len) : PU C n T ⟨dst, .indexAddr t x i, ty, pos, after, g⟩ (.pointer (some ⟨b, o + j.toNat * sz, none⟩)) :=
  fun act ht w => by
    have h1 : ∀ w, (underlying t).run C.P w = .ok (.array len e) w := fun w => run_und
    have h2 : ∀ w, (sizeOf e).run C.P w = .ok inf.size w := fun w => run_sizeOf
    subst hsz
    simp [execOp, evO_eval ht hx, evO_eval ht hi, Instr.indexAt, asIntOf, Instr.sureAddr, h1, h2, hj, addr_add]

theorem PU.len {x : Operand} {t : TypeId} {e : TypeId} [Und C.P t (.slice e)] {a : Option Addr} {len cap : Nat} (hx : evO T x = some (.slice a len cap)) : PU C n T ⟨dst, .call ⟨.builtin .len, #[x], #[t]⟩, ty, pos, after, g⟩ (.int .i64 len) :=
  fun act ht w => by
    have h1 : ∀ w, (underlying t).run C.P w = .ok (.slice e) w := fun w => run_und
    simp [execOp, resolve, invoke, builtin, Builtin.len_, evO_eval ht hx, h1, goInt]
end
end Go.SL
