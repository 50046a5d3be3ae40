/-
  The layer of triples, ninth part: ways that meet; cells that are written at a place that is not a number.
-/
import Derived.Test.YtbchkofadjeblaaSlH
set_option linter.unusedVariables false
set_option linter.unusedSimpArgs false
namespace Go.SL
open Go Go.RowKit
section
variable {C : Cx} {n : Nat} {T : Tm} {M : Hp} {K : Exit → Tm → Hp → Prop}
/-- ways that meet -/
theorem AWp.cut {x y : Code} (T1 : Tm) (M1 : Hp) (h1 : AWp C n x T M (thenK (fun T' M' => Sub T' T1 ∧ Has M' M1) K)) (h2 : AWp C n y T1 M1 K) : AWp C n (.seq x y) T M K := by
  refine AWp.seq (h1.mono ?_)
  intro e T' M' he
  cases e with
  | normal => exact AWp.weaken he.1 he.2 h2
  | _ => exact he
theorem AWp.cutP {x y : Code} (φ : Prop) (T1 : Tm) (M1 : Hp) (h1 : AWp C n x T M (thenK (fun T' M' => φ ∧ Sub T' T1 ∧ Has M' M1) K)) (h2 : φ → AWp C n y T1 M1 K) : AWp C n (.seq x y) T M K := by
  refine AWp.seq (h1.mono ?_)
  intro e T' M' he
  cases e with
  | normal => exact AWp.weaken he.2.1 he.2.2 (h2 he.1)
  | _ => exact he
theorem Split.app {M1 M F : Hp} (R : Hp) (h : Split M1 M F) : Split M1 (R ++ M) (R ++ F) := by
  induction h with
  | nil M => exact .nil _
  | cons p _ ih => exact .cons (Pick.app R p) ih
theorem Sub.nil : Sub T [] := trivial
theorem Sub.cons {t : Nat} {v : Value} {T1 : Tm} (h : Tm.get T t = some v) (h1 : Sub T T1) : Sub T ((t, v) :: T1) := ⟨h, h1⟩
theorem Sub.bool {t : Nat} {b b' : Bool} {T1 : Tm} (h : Tm.get T t = some (.bool b)) (e : b = b') (h1 : Sub T T1) : Sub T ((t, .bool b') :: T1) := ⟨e ▸ h, h1⟩
theorem Sub.val {t : Nat} {v v' : Value} {T1 : Tm} (h : Tm.get T t = some v) (e : v = v') (h1 : Sub T T1) : Sub T ((t, v') :: T1) := ⟨e ▸ h, h1⟩
theorem put1_set : ∀ (cs : List Value) (o : Nat) (v : Value), put1 cs o v = cs.set o v
  | [], _, _ => by simp [put1]
  | _ :: _, 0, _ => by simp [put1]
  | _ :: cs, o + 1, v => by simp [put1, put1_set cs o v]
theorem Upd.cellS {b o : Nat} {v : Value} {cs : List Value} {e : TypeId} {M : Hp} (h : o < cs.length) : Upd b o [v] ((b, .cells cs e) :: M) ((b, .cells (cs.set o v) e) :: M) :=
  Upd.cell1 (by simp only [Nat.blt, Nat.ble_eq]; omega) (put1_set cs o v)
theorem Upd.preS {b o k : Nat} {v : Value} {cs : List Value} {e : TypeId} {M : Hp} (h : o < cs.length) : Upd b o [v] ((b, .pre cs e k) :: M) ((b, .pre (cs.set o v) e k) :: M) :=
  Upd.pre1 (by simp only [Nat.blt, Nat.ble_eq]; omega) (put1_set cs o v)
theorem Has.split {M1 F : Hp} (h : Split M1 M F) : Has M M1 := h.has
end
/-! a guard that has no value: the operation is not wanted -/
section
variable {C : Cx} {n : Nat} {T : Tm} {M : Hp} {K : Exit → Tm → Hp → Prop} {ops : Array Oper}
theorem gval_undef {a : Act} (ht : TRel n T a) {j : Nat} (h : gval ops T j = some undef) : yielded ops a.tmps j = none := by
  unfold gval at h
  unfold yielded
  cases hd : (ops[j]?).bind (·.dst) with
  | none => rw [hd] at h; simp at h
  | some d =>
    rw [hd] at h
    have h' : Tm.get T d = some undef := h
    have := ht.2.2 d _ h'
    simp only [Option.bind_some]
    rw [Array.getD_eq_getD_getElem?] at this
    cases hq : a.tmps[d]? with
    | none => rfl
    | some v => rw [hq] at this; simp at this; subst this; rfl
theorem AL.guard_u {rest : List (Oper × List Oper)} {ps : List Oper} {d : Option Nat} {op : Op} {ty : TypeId} {pos : String} {after : Array Edge} {j : Nat} {want : Bool} (hj : gval ops T j = some undef)
    (hd : okDst n d = true) (h : AL C n ops rest (putT T d undef) M K) : AL C n ops ((⟨d, op, ty, pos, after, some (j, want)⟩, ps) :: rest) T M K := by
  intro a w ht hs
  unfold wpLR
  rw [if_neg (by simp [Region.wanted, gval_undef ht hj])]
  exact h _ _ (ht.put hd undef) hs
variable {plan rest : Pl} {D : Pend} {L : List Nat}
/-- one that is not wanted -/
theorem AD.offu {i : Nat} {dst : Option Nat} {op : Op} {ty : TypeId} {pos : String} {after : Array Edge} {j : Nat} {want : Bool} (hp : plan = .take i rest) (hi : ops[i]? = some ⟨dst, op, ty, pos, after, some (j, want)⟩)
    (hj : gval ops T j = some undef) (hk : Nat.blt (kindOf ⟨dst, op, ty, pos, after, some (j, want)⟩) 2 = true) (hd : okDst n dst = true)
    (k : AD C n ops rest D (i :: L) (putT T dst undef) M K) : AD C n ops plan D L T M K := by
  subst hp
  intro f Dk hc hDk hD hs hP hcl a w ht hsat hcond
  cases f with
  | zero => simp [chk] at hc
  | succ f =>
  have hex : ∃ Dk', (∀ k ∈ Dk, k ∈ Dk') ∧ apartD ops Dk ⟨dst, op, ty, pos, after, some (j, want)⟩ = true ∧ (Region.ready .any ops (lst ops L)).contains i = true ∧ Region.free .any ops (lst ops L) i = true ∧ chk ops f rest Dk' (i :: L) = true := by
    have hk2 : kindOf ⟨dst, op, ty, pos, after, some (j, want)⟩ = 0 ∨ kindOf ⟨dst, op, ty, pos, after, some (j, want)⟩ = 1 := by
      simp only [Nat.blt, Nat.ble_eq] at hk; omega
    rcases hk2 with hk2 | hk2
    · simp only [chk, hi, hk2, Bool.and_eq_true] at hc
      exact ⟨Dk, fun k hk => hk, hc.1, hc.2.1, hc.2.2.1, hc.2.2.2⟩
    · simp only [chk, hi, hk2, Bool.and_eq_true] at hc
      exact ⟨i :: Dk, fun k hk => List.mem_cons_of_mem _ hk, hc.1, hc.2.1, hc.2.2.1, hc.2.2.2.2⟩
  obtain ⟨Dk', hsub, h1, h2, h3, h4⟩ := hex
  have hr : i ∈ Region.ready .any ops (lst ops L) := by simpa using h2
  have hsel := Region.noSelect_spec hs
  have hD' := apartD_spec h1 hDk hD
  refine wpD_first (v := undef) hi hsel (Post.noPanic hP) (fun a => Region.wanted ⟨dst, op, ty, pos, after, some (j, want)⟩ (yielded ops a.tmps) = false) ?_ (fun a _ hw => hw) ?_ f D (lst ops L) a w (Region.free_spec hi h3) hr hD' (by simp [Region.wanted, gval_undef ht hj]) hcond ?_
  · intro oj hap a u hw
    obtain ⟨_, _, h3⟩ := Oper.apart_spec hap
    rw [wanted_put _ a oj.dst u h3]
    exact hw
  · intro a w hw K' hk'
    unfold wpO
    simp only [hi]
    rw [if_neg (by rw [hw]; simp)]
    exact hk'
  · have hcl' := hcl.set hr
    refine k f Dk' h4 (fun x hx => hsub _ (hDk x hx)) hD hs hP hcl' (a.put dst undef) w (ht.put hd undef) hsat (fun x hx => ?_)
    exact (condP_put (o := ⟨dst, op, ty, pos, after, some (j, want)⟩) (fun cs b => hsel _ _ cs b (hD x hx)) (hD' x hx).2 a undef w).2 (hcond x hx)

theorem AD.off2u {i : Nat} {dst : Option Nat} {op : Op} {ty : TypeId} {pos : String} {after : Array Edge} {j : Nat} {want : Bool} (hp : plan = .take i rest) (hi : ops[i]? = some ⟨dst, op, ty, pos, after, some (j, want)⟩)
    (hj : gval ops T j = some undef) (hk : kindOf ⟨dst, op, ty, pos, after, some (j, want)⟩ = 2) (hd : okDst n dst = true)
    (k : AD C n ops rest (keepD ops D i) (i :: L) (putT T dst undef) M K) : AD C n ops plan D L T M K := by
  subst hp
  intro f Dk hc hDk hD hs hP hcl a w ht hsat hcond
  cases f with
  | zero => simp [chk] at hc
  | succ f =>
  simp only [chk, hi, hk, Bool.and_eq_true] at hc
  obtain ⟨h1, h2, h3⟩ := hc
  have hr : Region.ready .any ops (lst ops L) = [i] := by simpa using h2
  have hcl' := hcl.set (j := i) (by rw [hr]; simp)
  have hsel := Region.noSelect_spec hs
  have hD' := apartD_spec h1 hDk hD
  have hcond' : ∀ x ∈ keepD ops D i, condP C.P x (a.put dst undef) w := fun x hx =>
    (condP_put (o := ⟨dst, op, ty, pos, after, some (j, want)⟩) (fun cs b => hsel _ _ cs b (hD x (mem_keepD.1 hx).1)) (hD' x (mem_keepD.1 hx).1).2 a undef w).2 (hcond x (mem_keepD.1 hx).1)
  refine ⟨fun h0 => (by rw [hr] at h0; cases h0), fun k' hk' => ?_⟩
  rw [hr] at hk'
  simp only [List.mem_singleton] at hk'
  subst hk'
  unfold wpO
  simp only [hi]
  rw [if_neg (by simp [Region.wanted, gval_undef ht hj])]
  exact ⟨hcond', k f _ h3 (keepD_in hDk) (fun x hx => hD x (mem_keepD.1 hx).1) hs hP hcl' _ w (ht.put hd undef) hsat hcond'⟩
end
end Go.SL
