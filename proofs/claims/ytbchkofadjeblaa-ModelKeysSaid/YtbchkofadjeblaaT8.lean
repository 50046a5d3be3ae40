import Derived.Test.YtbchkofadjeblaaSlM
import Derived.Test.YtbchkofadjeblaaT6
import Derived.Test.YtbchkofadjeblaaSlK
set_option linter.unusedVariables false
set_option linter.unusedSimpArgs false
namespace Go.Proofs.Ytbchkofadjeblaa
open Go Go.SL
attribute [local irreducible] AL AWp thenK blockK endK ACalls RVals AD effK PVs PU PV planOk noP
set_option maxRecDepth 100000
set_option maxHeartbeats 2000000
variable {w0 : World} {B : Nat} {hB : B ≤ w0.heap.size}

/-- words -/
abbrev uL (l : List Int) : List Value := l.map (Value.int .u64)
theorem uL_one (l : List Int) : ∀ u ∈ uL l, u.oneCell' = true := by
  intro u hu
  obtain ⟨x, _, rfl⟩ := List.mem_map.1 hu
  rfl
theorem cloneU_s {M0 : Hp} {a : Option Addr} {n cap : Nat} {l : List Int} (h : Shows (cx w0 B hB) M0 1 (.slice a n cap) n (uL l)) (hl : l.length = n) (hn : n ≤ 1000000) :
    ACalls (cx w0 B hB) 56 [.slice a n cap] M0 (fun v M' => ∃ R, IsRow 1 28 v n (uL l) R ∧ M' = R ++ M0) := by
  refine ACalls.fn Try.func56 rfl rfl rfl rfl ?_
  cases a with
  | none =>
    obtain ⟨rfl, rfl, h0, h1⟩ := h.none_inv
    rw [h1]
    (repeat (first | (refine AL.go ?_; first | refine AL.a1 ?_ | refine AL.a2 ?_ | refine AL.nil ?_ | refine AL.a3 ?_ | refine AL.a4 (fun _ => ?_) | refine AL.a5 (fun _ => ?_) | refine AL.a6 (fun _ => ?_) | refine AL.a7 (fun _ => ?_) | refine AL.a8 (fun _ _ _ _ => ?_) | refine AL.g1 ?_ | refine AL.g2 ?_ | refine AL.g3 ?_) | (refine AWp.go ?_; first | refine AWp.seq ?_ | refine AWp.region ?_ | refine AWp.block ?_ | refine AWp.skip ?_ | refine AWp.exit ?_ | refine AWp.ret ?_ | refine AWp.label ?_ | refine AWp.c1 ?_ | refine AWp.c2 ?_) | refine thenK.nn ?_ | refine thenK.x ?_ | refine thenK.r ?_ | refine blockK.nn ?_ | refine blockK.hit ?_ | refine blockK.m1 ?_ | refine blockK.r ?_ | refine endK.nn ?_ | refine effK.n1 ?_))
    refine endK.go ?_; exact endK.r (RVals.one (RVal.tmp rfl)) ⟨_, .nil, rfl⟩ (by (first | ((repeat' first | exact Split.refl _ | exact Split.nil _ | exact Split.left _ _ | apply Split.cons | apply Split.assoc | refine Split.nilA rfl ?_ | exact Pick.head _ | apply Pick.tail | apply Pick.app | apply Split.consL | apply Split.lone | exact PickL.head _ | exact PickL.here | apply PickL.tail | apply PickL.app); done) | fail))
  | some a =>
    (repeat (first | (refine AL.go ?_; first | refine AL.a1 ?_ | refine AL.a2 ?_ | refine AL.nil ?_ | refine AL.a3 ?_ | refine AL.a4 (fun _ => ?_) | refine AL.a5 (fun _ => ?_) | refine AL.a6 (fun _ => ?_) | refine AL.a7 (fun _ => ?_) | refine AL.a8 (fun _ _ _ _ => ?_) | refine AL.g1 ?_ | refine AL.g2 ?_ | refine AL.g3 ?_) | (refine AWp.go ?_; first | refine AWp.seq ?_ | refine AWp.region ?_ | refine AWp.block ?_ | refine AWp.skip ?_ | refine AWp.exit ?_ | refine AWp.ret ?_ | refine AWp.label ?_ | refine AWp.c1 ?_ | refine AWp.c2 ?_) | refine thenK.nn ?_ | refine thenK.x ?_ | refine thenK.r ?_ | refine blockK.nn ?_ | refine blockK.hit ?_ | refine blockK.m1 ?_ | refine blockK.r ?_ | refine endK.nn ?_ | refine effK.n1 ?_))
    refine AL.append (by_ := 8) (sz := 1) rfl rfl rfl rfl rfl rfl rfl rfl (.lit (cs := []) rfl (by decide)) (List.Perm.refl _) (h.mono (by first | (intro _ hh; (repeat (first | exact hh | apply List.mem_cons_of_mem | exact List.mem_append_left _ hh | apply List.mem_append_right)); done) | fail)) (uL_one l) (by simp only [maxLen]; omega) (by omega) ?_
    intro v' R' hr
    refine ⟨trivial, ?_⟩
    rw [Nat.zero_add, List.nil_append] at hr
    (repeat (first | (refine AL.go ?_; first | refine AL.a1 ?_ | refine AL.a2 ?_ | refine AL.nil ?_ | refine AL.a3 ?_ | refine AL.a4 (fun _ => ?_) | refine AL.a5 (fun _ => ?_) | refine AL.a6 (fun _ => ?_) | refine AL.a7 (fun _ => ?_) | refine AL.a8 (fun _ _ _ _ => ?_) | refine AL.g1 ?_ | refine AL.g2 ?_ | refine AL.g3 ?_) | (refine AWp.go ?_; first | refine AWp.seq ?_ | refine AWp.region ?_ | refine AWp.block ?_ | refine AWp.skip ?_ | refine AWp.exit ?_ | refine AWp.ret ?_ | refine AWp.label ?_ | refine AWp.c1 ?_ | refine AWp.c2 ?_) | refine thenK.nn ?_ | refine thenK.x ?_ | refine thenK.r ?_ | refine blockK.nn ?_ | refine blockK.hit ?_ | refine blockK.m1 ?_ | refine blockK.r ?_ | refine endK.nn ?_ | refine effK.n1 ?_))
    refine endK.go ?_; exact endK.r (RVals.one (RVal.tmp rfl)) ⟨_, hr, rfl⟩ (by (first | ((repeat' first | exact Split.refl _ | exact Split.nil _ | exact Split.left _ _ | apply Split.cons | apply Split.assoc | refine Split.nilA rfl ?_ | exact Pick.head _ | apply Pick.tail | apply Pick.app | apply Split.consL | apply Split.lone | exact PickL.head _ | exact PickL.here | apply PickL.tail | apply PickL.app); done) | fail))
theorem del_list {junk cs : List Value} {i n : Nat} (z : Value) (hi : i < n) (hc : cs.length = n) :
    putAt (putAt (junk ++ cs) (junk.length + i * 1) (cs.drop (i + 1))) (junk.length + (n - 1) * 1) [z] = junk ++ (cs.eraseIdx i ++ [z]) := by
  have e1 : putAt (junk ++ cs) (junk.length + i * 1) (cs.drop (i + 1)) = (junk ++ cs.eraseIdx i) ++ cs.drop (n - 1) := by
    simp only [putAt, Nat.mul_one, List.take_length_add_append, List.eraseIdx_eq_take_drop_succ, List.append_assoc]
    congr 3
    rw [List.length_drop, show junk.length + i + (cs.length - (i + 1)) = junk.length + (n - 1) by omega, List.drop_length_add_append]
  have hl : (junk ++ cs.eraseIdx i).length = junk.length + (n - 1) * 1 := by simp [List.length_eraseIdx, hc, hi]
  rw [e1]
  simp only [putAt]
  rw [← hl, List.take_left]
  have : ((junk ++ cs.eraseIdx i) ++ cs.drop (n - 1)).drop ((junk ++ cs.eraseIdx i).length + [z].length) = [] := by
    apply List.drop_eq_nil_of_le
    simp [hc]; omega
  rw [this]
  simp
theorem delete_s {b o n cap tot : Nat} {junk cs : List Value} (i : Nat) (hi : i < n) (hj : junk.length = o) (hc : cs.length = n) (hn : n ≤ cap) (hcm : n ≤ 1000000) (htot : o + cap ≤ tot) (h1 : ∀ u ∈ cs, u.oneCell' = true) :
    ACalls (cx w0 B hB) 124 [.slice (some ⟨b, o, none⟩) n cap, .int .i64 i, .int .i64 (i + 1)] [(b, .pre (junk ++ cs) 22 tot)]
      (fun v M' => v = .slice (some ⟨b, o, none⟩) (n - 1) cap ∧ M' = [(b, .pre (junk ++ (cs.eraseIdx i ++ [nilS])) 22 tot)]) := by
  refine ACalls.fn Try.func124 rfl rfl rfl rfl ?_
  (repeat (first | (refine AL.go ?_; first | refine AL.a1 ?_ | refine AL.a2 ?_ | refine AL.nil ?_ | refine AL.a3 ?_ | refine AL.a4 (fun _ => ?_) | refine AL.a5 (fun _ => ?_) | refine AL.a6 (fun _ => ?_) | refine AL.a7 (fun _ => ?_) | refine AL.a8 (fun _ _ _ _ => ?_) | refine AL.g1 ?_ | refine AL.g2 ?_ | refine AL.g3 ?_ | refine AL.a1 ?_ (by first | exact PU.slice3 (l := i) (h := i + 1) (m := n) rfl rfl rfl rfl rfl (by omega) (by omega) (by omega) | exact PU.sliceTo (h := i) rfl rfl (by omega) | exact PU.sliceFrom (sz := 1) (l := i + 1) rfl rfl rfl (by omega) (by omega))) | (refine AWp.go ?_; first | refine AWp.seq ?_ | refine AWp.region ?_ | refine AWp.block ?_ | refine AWp.skip ?_ | refine AWp.exit ?_ | refine AWp.ret ?_ | refine AWp.label ?_ | refine AWp.c1 ?_ | refine AWp.c2 ?_ | refine AWp.d1 (id := 5) (.take 0 (.take 1 (.take 2 (.take 3 (.take 4 (.take 5 (.take 6 (.take 7 (.done))))))))) (by kernel_rfl) ?_) | (refine AD.go ?_; first | refine AD.d1 ?_ | refine AD.d2 ?_ | refine AD.d3 ?_ | refine AD.d0 ?_ | refine AD.d4 ?_ | refine AD.d5 ?_ | refine AD.d6 ?_ | refine AD.d7 ?_ | refine AD.d8 ?_ | refine AD.d9 ?_ | refine AD.e9 ?_ | refine AD.two rfl rfl rfl ?_ ?_ | refine AD.d1 ?_ rfl rfl (by first | exact PU.slice3 (l := i) (h := i + 1) (m := n) rfl rfl rfl rfl rfl (by omega) (by omega) (by omega) | exact PU.sliceTo (h := i) rfl rfl (by omega) | exact PU.sliceFrom (sz := 1) (l := i + 1) rfl rfl rfl (by omega) (by omega)) | refine AD.d5 ?_ rfl rfl rfl (by first | rfl | assumption | exact decide_eq_true (by omega) | exact decide_eq_false (by omega) | exact beq_iff_eq.2 (by omega) | exact beq_eq_false_iff_ne.2 (by omega) | exact bne_iff_ne.2 (by omega) | exact bne_eq_false_iff_eq.2 (by omega) | (simp only [Bool.not_eq_true', Bool.not_eq_false', Bool.not_true, Bool.not_false]; assumption)) (by first | exact PU.slice3 (l := i) (h := i + 1) (m := n) rfl rfl rfl rfl rfl (by omega) (by omega) (by omega) | exact PU.sliceTo (h := i) rfl rfl (by omega) | exact PU.sliceFrom (sz := 1) (l := i + 1) rfl rfl rfl (by omega) (by omega))) | refine thenK.nn ?_ | refine thenK.x ?_ | refine thenK.r ?_ | refine blockK.nn ?_ | refine blockK.hit ?_ | refine blockK.m1 ?_ | refine blockK.r ?_ | refine endK.nn ?_ | refine effK.n1 ?_))
  subst hj
  refine AL.appendIn (sz := 1) (xs := cs.drop (i + 1)) (m := n - (i + 1)) rfl rfl rfl rfl ?_ (by omega) (fun u hu => h1 u (List.mem_of_mem_drop hu)) (.pre (by simp; omega)) ?_
  · refine .some (by simp; omega) ?_
    by_cases hci : cap = i + 1
    · have : cs.drop (i + 1) = [] := List.drop_eq_nil_of_le (by omega)
      rw [this]; exact RdL.nil _ _
    · rw [if_neg hci]
      refine RdL.own (List.Mem.head _) ?_
      simp only [HObj.list, Nat.mul_one, List.drop_length_add_append, List.take_length]
  · have e : i + (n - (i + 1)) = n - 1 := by omega
    rw [e]
    (repeat (first | (refine AL.go ?_; first | refine AL.a1 ?_ | refine AL.a2 ?_ | refine AL.nil ?_ | refine AL.a3 ?_ | refine AL.a4 (fun _ => ?_) | refine AL.a5 (fun _ => ?_) | refine AL.a6 (fun _ => ?_) | refine AL.a7 (fun _ => ?_) | refine AL.a8 (fun _ _ _ _ => ?_) | refine AL.g1 ?_ | refine AL.g2 ?_ | refine AL.g3 ?_ | refine AL.a1 ?_ (by first | exact PU.sliceBoth (sz := 1) (l := n - 1) (h := n) rfl rfl rfl rfl (by omega) (by omega) (by omega))) | (refine AWp.go ?_; first | refine AWp.seq ?_ | refine AWp.region ?_ | refine AWp.block ?_ | refine AWp.skip ?_ | refine AWp.exit ?_ | refine AWp.ret ?_ | refine AWp.label ?_ | refine AWp.c1 ?_ | refine AWp.c2 ?_ | refine AWp.d1 (id := 5) (.take 0 (.take 1 (.take 2 (.take 3 (.take 4 (.take 5 (.take 6 (.take 7 (.done))))))))) (by kernel_rfl) ?_) | (refine AD.go ?_; first | refine AD.d1 ?_ | refine AD.d2 ?_ | refine AD.d3 ?_ | refine AD.d0 ?_ | refine AD.d4 ?_ | refine AD.d5 ?_ | refine AD.d6 ?_ | refine AD.d7 ?_ | refine AD.d8 ?_ | refine AD.d9 ?_ | refine AD.e9 ?_ | refine AD.two rfl rfl rfl ?_ ?_ | refine AD.d1 ?_ rfl rfl (by first | exact PU.sliceBoth (sz := 1) (l := n - 1) (h := n) rfl rfl rfl rfl (by omega) (by omega) (by omega)) | refine AD.d5 ?_ rfl rfl rfl (by first | rfl | assumption | exact decide_eq_true (by omega) | exact decide_eq_false (by omega) | exact beq_iff_eq.2 (by omega) | exact beq_eq_false_iff_ne.2 (by omega) | exact bne_iff_ne.2 (by omega) | exact bne_eq_false_iff_eq.2 (by omega) | (simp only [Bool.not_eq_true', Bool.not_eq_false', Bool.not_true, Bool.not_false]; assumption)) (by first | exact PU.sliceBoth (sz := 1) (l := n - 1) (h := n) rfl rfl rfl rfl (by omega) (by omega) (by omega))) | refine thenK.nn ?_ | refine thenK.x ?_ | refine thenK.r ?_ | refine blockK.nn ?_ | refine blockK.hit ?_ | refine blockK.m1 ?_ | refine blockK.r ?_ | refine endK.nn ?_ | refine effK.n1 ?_))
    have e2 : n - (n - 1) = 1 := by omega
    rw [e2]
    refine AL.clear (M' := [(b, .pre (junk ++ (cs.eraseIdx i ++ [nilS])) 22 tot)]) rfl rfl rfl rfl rfl (by rw [← del_list nilS hi hc]; exact .pre (by rw [length_putAt (by simp; omega)]; simp; omega)) ?_
    (repeat (first | (refine AL.go ?_; first | refine AL.a1 ?_ | refine AL.a2 ?_ | refine AL.nil ?_ | refine AL.a3 ?_ | refine AL.a4 (fun _ => ?_) | refine AL.a5 (fun _ => ?_) | refine AL.a6 (fun _ => ?_) | refine AL.a7 (fun _ => ?_) | refine AL.a8 (fun _ _ _ _ => ?_) | refine AL.g1 ?_ | refine AL.g2 ?_ | refine AL.g3 ?_) | (refine AWp.go ?_; first | refine AWp.seq ?_ | refine AWp.region ?_ | refine AWp.block ?_ | refine AWp.skip ?_ | refine AWp.exit ?_ | refine AWp.ret ?_ | refine AWp.label ?_ | refine AWp.c1 ?_ | refine AWp.c2 ?_ | refine AWp.d1 (id := 5) (.take 0 (.take 1 (.take 2 (.take 3 (.take 4 (.take 5 (.take 6 (.take 7 (.done))))))))) (by kernel_rfl) ?_) | (refine AD.go ?_; first | refine AD.d1 ?_ | refine AD.d2 ?_ | refine AD.d3 ?_ | refine AD.d0 ?_ | refine AD.d4 ?_ | refine AD.d5 ?_ | refine AD.d6 ?_ | refine AD.d7 ?_ | refine AD.d8 ?_ | refine AD.d9 ?_ | refine AD.e9 ?_ | refine AD.two rfl rfl rfl ?_ ?_) | refine thenK.nn ?_ | refine thenK.x ?_ | refine thenK.r ?_ | refine blockK.nn ?_ | refine blockK.hit ?_ | refine blockK.m1 ?_ | refine blockK.r ?_ | refine endK.nn ?_ | refine effK.n1 ?_))
    refine endK.go ?_; exact endK.r (RVals.one (RVal.tmp rfl)) ⟨rfl, rfl⟩ (by (first | ((repeat' first | exact Split.refl _ | exact Split.nil _ | exact Split.left _ _ | apply Split.cons | apply Split.assoc | refine Split.nilA rfl ?_ | exact Pick.head _ | apply Pick.tail | apply Pick.app | apply Split.consL | apply Split.lone | exact PickL.head _ | exact PickL.here | apply PickL.tail | apply PickL.app); done) | fail))
end Go.Proofs.Ytbchkofadjeblaa
