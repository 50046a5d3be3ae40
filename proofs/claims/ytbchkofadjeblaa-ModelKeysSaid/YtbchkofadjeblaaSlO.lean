/-
  The layer of triples, fifteenth part: parts of a function's code, each walked in a theorem of its own.
-/
import Derived.Test.YtbchkofadjeblaaSlN
set_option linter.unusedVariables false
set_option linter.unusedSimpArgs false
namespace Go.SL
open Go Go.RowKit
/-- ways down into a code -/
inductive Dir
  | l | r
def codeAt : List Dir → Code → Code
  | [], c => c
  | .l :: p, .seq x _ => codeAt p x
  | .r :: p, .seq _ y => codeAt p y
  | .l :: p, .block _ x => codeAt p x
  | .l :: p, .loop x => codeAt p x
  | .l :: p, .cond _ x _ => codeAt p x
  | .r :: p, .cond _ _ y => codeAt p y
  | _ :: _, c => c
def bodyOf (f : Func) : Code := f.body.getD .skip
section
variable {C : Cx} {n : Nat} {T T1 : Tm} {M M1 : Hp} {K : Exit → Tm → Hp → Prop} {k : Nat} {σ : Type} {Tf : σ → Tm} {Mf : σ → Hp} {I : σ → Prop}
/-- ends by going on, in one of several states -/
def goesOn (Tf : σ → Tm) (Mf : σ → Hp) (I : σ → Prop) : Exit → Tm → Hp → Prop := thenK (Meet Tf Mf I) (fun _ _ _ => False)
theorem Meet.of {T : Tm} {M : Hp} (s : σ) (h : I s) (hT : Sub T (Tf s)) (hM : Has M (Mf s)) : Meet Tf Mf I T M := ⟨s, h, hT, hM⟩
theorem goesOn.at {T : Tm} {M : Hp} (s : σ) (h : I s) (hT : Sub T (Tf s)) (hM : Has M (Mf s)) : goesOn Tf Mf I .normal T M := ⟨s, h, hT, hM⟩
theorem AWp.use {c : Code} (hT : Sub T T1) (hM : Has M M1) (h : AWp C n c T1 M1 (goesOn Tf Mf I)) (hk : ∀ s, I s → ∀ T' M', Sub T' (Tf s) → Has M' (Mf s) → K .normal T' M') : AWp C n c T M K := by
  refine AWp.weaken hT hM (h.mono ?_)
  intro e T' M' he
  cases e with
  | normal => obtain ⟨s, hs, h1, h2⟩ := he; exact hk s hs T' M' h1 h2
  | _ => exact he.elim
theorem noP.goesOn : noP (goesOn Tf Mf I) := fun _ _ _ hk => hk
/-- ahead of more code -/
theorem AWp.useN {c y : Code} {K2 : Exit → Tm → Hp → Prop} (hT : Sub T T1) (hM : Has M M1) (h : AWp C n c T1 M1 (goesOn Tf Mf I)) (hk : ∀ s, I s → AWp C n y (Tf s) (Mf s) K) : AWp C n c T M (thenK (fun T' M' => AWp C n y T' M' K) K2) :=
  AWp.use hT hM h (fun s hs _ _ h1 h2 => AWp.weaken h1 h2 (hk s hs))
theorem AWp.useTo {c c' : Code} (ht : Tail k c c') (hT : Sub T T1) (hM : Has M M1) (h1 : ∀ K, upTo C n (Meet Tf Mf I) K k c T1 M1) (h2 : ∀ s, I s → AWp C n c' (Tf s) (Mf s) K) : AWp C n c T M K :=
  AWp.weaken hT hM (upTo.elim ht (h1 K) (fun _ _ ⟨s, h, hT, hM⟩ => AWp.weaken hT hM (h2 s h)))
theorem Upd.cellJ {b j : Nat} {v : Value} {cs : List Value} {e : TypeId} {F : Hp} (h : j < cs.length) : Upd b (0 + j * 1) [v] ((b, .cells cs e) :: F) ((b, .cells (cs.set j v) e) :: F) := by
  have := Upd.cellS (b := b) (o := 0 + j * 1) (v := v) (cs := cs) (e := e) (M := F) (by omega)
  simpa using this
end
/-! bools -/
def boolV (op : BinOp) (p q : Bool) : Option Value :=
  match op with
  | .eql => some (.bool (p == q))
  | .neq => some (.bool (p != q))
  | _ => none
theorem run_bool_cmp {P : Program} {w : World} {op : BinOp} {xt : TypeId} [Und P xt .bool] {x y : Operand} {p q : Bool} {r : Value} (hr : boolV op p q = some r) :
    (do eqGuard op xt x y (.bool p) (.bool q); binOp op xt (.bool p) (.bool q) : Sem Value).run P w = .ok r w := by
  have hu : ∀ w, (underlying xt).run P w = .ok .bool w := fun w => run_und
  have hg : (eqGuard op xt x y (.bool p) (.bool q)).run P w = .ok () w := by
    unfold eqGuard
    cases op <;> simp
  have he : ∀ d : Nat, (Op.equalIn (d + 1) xt (.bool p) (.bool q)).run P w = .ok (p == q) w := by
    intro d
    simp [Op.equalIn, hu]
  rw [Sem.run_bind, hg]
  simp only [Result.andThen_ok]
  cases op <;> first
    | (simp [boolV] at hr; done)
    | (simp only [boolV] at hr; cases hr; simp only [binOp, Op.equal, Op.maxDepth, Sem.run_bind]; rw [he 9999]; rfl)
theorem PU.boolCmp {C : Cx} {n : Nat} {T : Tm} {dst : Option Nat} {g : Option (Nat × Bool)} {ty : TypeId} {pos : String} {after : Array Edge} {op : BinOp} {x y : Operand} {xt yt : TypeId} [Und C.P xt .bool] {p q : Bool} {r : Value} (hx : evO T x = some (.bool p)) (hy : evO T y = some (.bool q)) (hr : boolV op p q = some r) : PU C n T ⟨dst, .binOp op xt x y yt, ty, pos, after, g⟩ r :=
  fun act ht w => by
    simp only [execOp, evO_eval ht hx, evO_eval ht hy]
    rw [Sem.run_bind, run_bool_cmp hr]; rfl
end Go.SL
