/-
  The layer of triples, eleventh part: empty literals, slices against nil, cuts with a bound.
-/
import Derived.Test.YtbchkofadjeblaaSlJ
import Derived.Lib.SliceRun
set_option linter.unusedVariables false
set_option linter.unusedSimpArgs false
namespace Go.SL
open Go Go.RowKit
section
variable {C : Cx} {n : Nat} {T : Tm} {M : Hp} {K : Exit → Tm → Hp → Prop} {ops : Array Oper} {rest : List (Oper × List Oper)}
  {d : Nat} {dst : Option Nat} {g : Option (Nat × Bool)} {ty : TypeId} {pos : String} {after : Array Edge}
theorem PU.slice_nil {x y : Operand} {xt yt e : TypeId} [Und C.P xt (.slice e)] {a : Option Addr} {k c k' c' : Nat} (hx : evO T x = some (.slice a k c)) (hy : evO T y = some (.slice none k' c')) :
    PU C n T ⟨dst, .binOp .eql xt x y yt, ty, pos, after, g⟩ (.bool a.isNone) :=
  fun act ht w => by
    have hu : C.P.underlying xt = some (.slice e) := Und.fact
    have hr := Go.Lib.run_eql_slice_nil (P := C.P) w xt e a k c k' c' hu
    have hg : (eqGuard .eql xt x y (.slice a k c) (.slice none k' c')).run C.P w = .ok () w := by
      unfold eqGuard
      simp
    simp only [execOp, evO_eval ht hx, evO_eval ht hy]
    rw [Sem.run_bind, Sem.run_bind, hg]
    simp only [Result.andThen_ok, hr, Sem.run_pure]

theorem PU.slice3 {x y u z : Operand} {t e : TypeId} {inf : TypeInfo} [Und C.P t (.slice e)] [Inf C.P e inf] {a : Option Addr} {len cap l h m : Nat} {k1 k2 k3 : IntKind} {sz : Nat} (hsz : inf.size = sz)
    (hx : evO T x = some (.slice a len cap)) (hlo : evO T y = some (.int k1 l)) (hhi : evO T u = some (.int k2 h)) (hmx : evO T z = some (.int k3 m)) (h1 : l ≤ h) (h2 : h ≤ m) (h3 : m ≤ cap) :
    PU C n T ⟨dst, .slice t x (some y) (some u) (some z), ty, pos, after, g⟩ (.slice (if m = l then a else a.map (·.add (l * sz))) (h - l) (m - l)) :=
  fun act ht w => by
    have g1 : ∀ w, (underlying t).run C.P w = .ok (.slice e) w := fun w => run_und
    have g2 : ∀ w, (sizeOf e).run C.P w = .ok inf.size w := fun w => run_sizeOf
    subst hsz
    have hh0 : (0 : Int) ≤ (h : Int) := by omega
    have hl0 : (0 : Int) ≤ (l : Int) := by omega
    have hm0 : (0 : Int) ≤ (m : Int) := by omega
    have hb : ∀ w, (Instr.sliceBounds true len cap (some (act.eval y)) (some (act.eval u)) (some (act.eval z))).run C.P w = .ok (l, h, m) w := by
      intro w
      simp [Instr.sliceBounds, Instr.sliceBound, evO_eval ht hlo, evO_eval ht hhi, evO_eval ht hmx, asIntOf, hh0, hl0, hm0, h1, h2, h3]
    simp [execOp, evO_eval ht hx, Instr.sliceAt, Instr.slice, g1, g2, hb]

theorem PU.sliceTo {x y : Operand} {t e : TypeId} {inf : TypeInfo} [Und C.P t (.slice e)] [Inf C.P e inf] {b o len cap h : Nat} {k : IntKind}
    (hx : evO T x = some (.slice (some ⟨b, o, none⟩) len cap)) (hh : evO T y = some (.int k h)) (h2 : h ≤ cap) :
    PU C n T ⟨dst, .slice t x none (some y) none, ty, pos, after, g⟩ (.slice (some ⟨b, o, none⟩) h cap) := by
  have := PU.slice (C := C) (n := n) (T := T) (lo := none) (hi := some y) (dst := dst) (ty := ty) (pos := pos) (after := after) (g := g) (t := t) (l := 0) (h := h) rfl hx rfl ⟨k, hh⟩ (Nat.zero_le _) h2
  by_cases hc : cap = 0
  · simpa [hc] using this
  · simpa [hc, addr_add] using this
theorem PU.sliceFrom {x y : Operand} {t e : TypeId} {inf : TypeInfo} [Und C.P t (.slice e)] [Inf C.P e inf] {b o len cap l sz : Nat} {k : IntKind} (hsz : inf.size = sz)
    (hx : evO T x = some (.slice (some ⟨b, o, none⟩) len cap)) (hl : evO T y = some (.int k l)) (h1 : l ≤ len) (h2 : len ≤ cap) :
    PU C n T ⟨dst, .slice t x (some y) none none, ty, pos, after, g⟩ (.slice (some ⟨b, (if cap = l then o else o + l * sz), none⟩) (len - l) (cap - l)) := by
  have := PU.slice (C := C) (n := n) (T := T) (lo := some y) (hi := none) (dst := dst) (ty := ty) (pos := pos) (after := after) (g := g) (t := t) (l := l) (h := len) hsz hx ⟨k, hl⟩ rfl h1 h2
  by_cases hc : cap = l
  · simpa [hc] using this
  · simpa [hc, addr_add] using this
theorem PU.sliceBoth {x y z : Operand} {t e : TypeId} {inf : TypeInfo} [Und C.P t (.slice e)] [Inf C.P e inf] {b o len cap l h sz : Nat} {k k2 : IntKind} (hsz : inf.size = sz)
    (hx : evO T x = some (.slice (some ⟨b, o, none⟩) len cap)) (hl : evO T y = some (.int k l)) (hh : evO T z = some (.int k2 h)) (h1 : l ≤ h) (h2 : h ≤ cap) (h3 : l < cap) :
    PU C n T ⟨dst, .slice t x (some y) (some z) none, ty, pos, after, g⟩ (.slice (some ⟨b, o + l * sz, none⟩) (h - l) (cap - l)) := by
  have := PU.slice (C := C) (n := n) (T := T) (lo := some y) (hi := some z) (dst := dst) (ty := ty) (pos := pos) (after := after) (g := g) (t := t) (l := l) (h := h) hsz hx ⟨k, hl⟩ ⟨k2, hh⟩ h1 h2
  have hc : cap ≠ l := by omega
  simpa [hc, addr_add] using this
/-- less of a block is known -/
theorem AL.preDrop {b tot : Nat} {cs ds : List Value} {e : TypeId} {F : Hp} {l : List (Oper × List Oper)} (p : Pick (b, .pre (cs ++ ds) e tot) M F) (h : AL C n ops l T ((b, .pre cs e tot) :: F) K) : AL C n ops l T M K := by
  intro a w ht hs
  have hs' := (hs.perm p.perm).preDrop
  have hids : ∀ k, k ∈ ids M ↔ k ∈ ids ((b, HObj.pre cs e tot) :: F) := fun k => by
    rw [(p.perm.map Prod.fst).mem_iff (a := k)]; simp [ids]
  refine wpLR_mono ?_ _ _ _ (h a w ht hs')
  rintro e a' w' ⟨T', M', h1, h2, h3, h4⟩
  exact ⟨T', M', h1, h2, ⟨h3.size, fun k hk hn => h3.keep k hk (fun hm => hn ((hids k).2 hm)), fun k hk => (h3.new k hk).imp (fun hm => (hids k).2 hm) id⟩, h4⟩
theorem Shows.none_inv {sz m k c : Nat} {cs : List Value} (h : Shows C M sz (.slice none k c) m cs) : k = 0 ∧ c = 0 ∧ m = 0 ∧ cs = [] := by
  cases h; exact ⟨rfl, rfl, rfl, rfl⟩
theorem Shows.mono {sz m : Nat} {v : Value} {cs : List Value} {M' : Hp} (h : Shows C M sz v m cs) (hm : ∀ x ∈ M, x ∈ M') : Shows C M' sz v m cs := by
  cases h with
  | nil => exact .nil
  | some h1 h2 => exact .some h1 (h2.mono hm)
theorem AL.buildSlice0 {t e : TypeId} {inf : TypeInfo} [Und C.P t (.slice e)] [Inf C.P e inf] (hd : okDst n (some d) = true)
    (kk : ∀ b, AL C n ops rest ((d, .slice (some ⟨b, 0, none⟩) 0 0) :: T) ((b, .cells [] e) :: M) K) :
    AL C n ops ((⟨some d, .buildSlice t 0 #[], ty, pos, after, none⟩, []) :: rest) T M K :=
  AL.gen rfl hd (fun v M' => ∃ b, v = .slice (some ⟨b, 0, none⟩) 0 0 ∧ M' = (b, .cells [] e) :: M) (fun act w ht hs => by
    obtain ⟨q1, q2⟩ := hs.new (h := .cells [] e) (o := .cells #[] e) rfl
    refine ⟨_, _, _, ?_, q1, q2, w.heap.size, rfl, rfl⟩
    have h1 : ∀ w, (underlying t).run C.P w = .ok (.slice e) w := fun w => run_und
    have h2 : ∀ w, (sizeOf e).run C.P w = .ok inf.size w := fun w => run_sizeOf
    simp [execOp, Instr.buildSlice, h1, h2, Instr.fill, newRow]
    rw [Array.eq_empty_of_size_eq_zero (xs := Array.map _ (Array.range 0)) (by simp)]) (by rintro v M' ⟨b, rfl, rfl⟩; exact ⟨trivial, kk b⟩)
end
end Go.SL
