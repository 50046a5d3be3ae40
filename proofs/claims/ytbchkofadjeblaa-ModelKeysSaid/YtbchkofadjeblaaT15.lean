import Derived.Test.YtbchkofadjeblaaT7
import Derived.Test.YtbchkofadjeblaaT11
set_option linter.unusedVariables false
set_option linter.unusedSimpArgs false
namespace Go.Proofs.Ytbchkofadjeblaa
open Go Go.SL
attribute [local irreducible] AL AWp thenK blockK endK ACalls RVals AD effK PVs PU PV planOk noP
set_option maxRecDepth 100000
set_option maxHeartbeats 2000000
variable {w0 : World} {B : Nat} {hB : B ≤ w0.heap.size}

/-- what stays: the maps' decls, the keepers, the bases -/
structure Frz (C : Cx) (Z : Hp) (x : Nat) (m : Int) (d : DeclD) (cpus : Int) (kv : Value) (b : Nat) where
  (nm db dc ab ac bb bc : Nat)
  f0 : Rd C Z x (0 + 0) (.slice (some ⟨db, 0, none⟩) nm dc)
  f1 : Rd C Z x (0 + 1) (.int .i64 cpus)
  f2 : Rd C Z x (0 + 2) (.slice (some ⟨ab, 0, none⟩) nm ac)
  f3 : Rd C Z x (0 + 3) (.slice (some ⟨bb, 0, none⟩) nm bc)
  d0 : Rd C Z db (0 + (m - 1).toNat * 5) (.int .i64 d.kind)
  d1 : Rd C Z db (0 + (m - 1).toNat * 5 + 1) (.int .i64 d.entries)
  d2 : Rd C Z db (0 + (m - 1).toNat * 5 + 1 + 1) (.int .i64 d.words)
  d3 : Rd C Z db (0 + (m - 1).toNat * 5 + 1 + 1 + 1) (.int .i64 d.buckets)
  d4 : Rd C Z db (0 + (m - 1).toNat * 5 + 1 + 1 + 1 + 1) (.int .i64 d.inner)
  a0 : Rd C Z ab (0 + (m - 1).toNat * 1) kv
  b0 : Rd C Z bb (0 + (m - 1).toNat * 1) (.pointer (some ⟨b, 0, none⟩))
  lo : 1 ≤ m
  hi : m ≤ nm
  big : nm ≤ 1000
def rightF (cpus : Int) (d : DeclD) (o : OpD) (n : Nat) : Bool := rightA cpus d o && rightB d o n
theorem do_bad {Z : Hp} {x b : Nat} {m : Int} {d : DeclD} {cpus : Int} {kv : Value} {o : OpD} {a : Option Addr} {n cap : Nat} (F : Frz (cx w0 B hB) Z x m d cpus kv b) (hin : d.inner ≤ 0) (hv : o.val = .slice a n cap) (hr : rightF cpus d o n = false) :
    ACalls (cx w0 B hB) 14 [.pointer (some ⟨x, 0, none⟩), .int .i64 m, o.v] Z (fun v M' => v = resV 1 nilS 0 0 ∧ M' = Z) := by
  obtain ⟨nm, db, dc, ab, ac, bb, bc, f0, f1, f2, f3, d0, d1, d2, d3, d4, a0, b0, lo, hi, big⟩ := F
  have hrt := right_plain (w0 := w0) (B := B) (hB := hB) (d := d) (o := o) hv hin f1
  rw [show (rightA cpus d o && rightB d o n) = false from hr] at hrt
  obtain ⟨ok, oy, ov, ofl, oc⟩ := o
  dsimp only at hv
  subst hv
  refine ACalls.fn Try.func14 rfl rfl rfl rfl ?_
  (repeat (first | (refine AL.go ?_; first | refine AL.a1 ?_ | refine AL.a2 ?_ | refine AL.nil ?_ | refine AL.a3 ?_ | refine AL.a4 (fun _ => ?_) | refine AL.a5 (fun _ => ?_) | refine AL.a6 (fun _ => ?_) | refine AL.a7 (fun _ => ?_) | refine AL.a8 (fun _ _ _ _ => ?_) | refine AL.g1 ?_ | refine AL.g2 ?_ | refine AL.g3 ?_ | (refine AL.c2 (hx := rfl) (ha := rfl) (hc := hrt) (kk := ?_); refine AL.nm ?_)) | (refine AWp.go ?_; first | refine AWp.seq ?_ | refine AWp.region ?_ | refine AWp.block ?_ | refine AWp.skip ?_ | refine AWp.exit ?_ | refine AWp.ret ?_ | refine AWp.label ?_ | refine AWp.c1 ?_ | refine AWp.c2 ?_ | refine AWp.d1 (id := 1) (.take 0 (.take 1 (.take 2 (.take 3 (.take 4 (.take 5 (.take 6 (.take 7 (.take 8 (.take 9 (.take 10 (.take 11 (.take 12 (.take 13 (.take 14 (.take 15 (.take 16 (.take 17 (.take 18 (.take 19 (.take 20 (.take 21 (.take 22 (.take 23 (.take 24 (.done)))))))))))))))))))))))))) (by kernel_rfl) ?_ | refine AWp.d1 (id := 3) (.take 0 (.take 1 (.take 2 (.take 3 (.take 4 (.take 5 (.take 6 (.take 7 (.take 8 (.take 9 (.take 10 (.done)))))))))))) (by kernel_rfl) ?_) | (refine AD.go ?_; first | refine AD.d1 ?_ | refine AD.d2 ?_ | refine AD.d3 ?_ | refine AD.d0 ?_ | refine AD.d4 ?_ | refine AD.d5 ?_ | refine AD.d6 ?_ | refine AD.d7 ?_ | refine AD.d8 ?_ | refine AD.d9 ?_ | refine AD.e9 ?_ | refine AD.two rfl rfl rfl ?_ ?_) | refine thenK.nn ?_ | refine thenK.x ?_ | refine thenK.r ?_ | refine blockK.nn ?_ | refine blockK.hit ?_ | refine blockK.m1 ?_ | refine blockK.r ?_ | refine endK.nn ?_ | refine effK.n1 ?_))
  refine endK.go ?_; refine endK.r (RVals.one (RVal.cellN rfl rfl (by first | ((repeat (first | exact RdN.nil | exact (by first | exact Rd.own (by first | ((repeat (first | exact List.Mem.head _ | apply List.Mem.tail | apply List.mem_append_right)); done) | fail) rfl | assumption | exact Rd.mono (by assumption) (by first | (intro _ hh; (repeat (first | exact hh | apply List.mem_cons_of_mem | exact List.mem_append_left _ hh | apply List.mem_append_right)); done) | fail) | exact Rd.mono1 (by assumption) (by first | ((repeat (first | exact List.Mem.head _ | apply List.Mem.tail | apply List.mem_append_right)); done) | fail)) | apply RdN.cons)); done) | fail))) ⟨rfl, rfl⟩ (by (first | ((repeat' first | exact Split.refl _ | exact Split.nil _ | exact Split.left _ _ | apply Split.cons | apply Split.assoc | refine Split.nilA rfl ?_ | exact Pick.head _ | apply Pick.tail | apply Pick.app | apply Split.consL | apply Split.lone | exact PickL.head _ | exact PickL.here | apply PickL.tail | apply PickL.app); done) | fail))
theorem do_ok {Z MK : Hp} {x b k : Nat} {m : Int} {d : DeclD} {cpus : Int} {t : TypeId} {f : FuncId} [Meth Try.prog t "crossbar/model.do" f] [Bod Try.prog f] {Kf : Value → Hp → Prop} {o : OpD} {a : Option Addr} {n cap : Nat} (F : Frz (cx w0 B hB) Z x m d cpus (.iface t (.pointer (some ⟨k, 0, none⟩))) b) (hin : d.inner ≤ 0) (hv : o.val = .slice a n cap) (hr : rightF cpus d o n = true)
    (hK : ACalls (cx w0 B hB) f [.pointer (some ⟨k, 0, none⟩), o.v] MK Kf) (hres : ∀ v M', Kf v M' → ∃ no sa sn sc key elem, v = resV no (.slice sa sn sc) key elem) :
    ACalls (cx w0 B hB) 14 [.pointer (some ⟨x, 0, none⟩), .int .i64 m, o.v] (Z ++ MK) (fun v M' => ∃ M1, Kf v M1 ∧ M' = M1 ++ Z) := by
  obtain ⟨nm, db, dc, ab, ac, bb, bc, f0, f1, f2, f3, d0, d1, d2, d3, d4, a0, b0, lo, hi, big⟩ := F
  have hrt := right_plain (w0 := w0) (B := B) (hB := hB) (d := d) (o := o) hv hin f1
  rw [show (rightA cpus d o && rightB d o n) = true from hr] at hrt
  obtain ⟨ok, oy, ov, ofl, oc⟩ := o
  dsimp only at hv
  subst hv
  refine ACalls.fn Try.func14 rfl rfl rfl rfl ?_
  (repeat (first | (refine AL.go ?_; first | refine AL.a1 ?_ | refine AL.a2 ?_ | refine AL.nil ?_ | refine AL.a3 ?_ | refine AL.a4 (fun _ => ?_) | refine AL.a5 (fun _ => ?_) | refine AL.a6 (fun _ => ?_) | refine AL.a7 (fun _ => ?_) | refine AL.a8 (fun _ _ _ _ => ?_) | refine AL.g1 ?_ | refine AL.g2 ?_ | refine AL.g3 ?_ | (refine AL.c2 (hx := rfl) (ha := rfl) (hc := hrt) (kk := ?_); refine AL.nm ?_)) | (refine AWp.go ?_; first | refine AWp.seq ?_ | refine AWp.region ?_ | refine AWp.block ?_ | refine AWp.skip ?_ | refine AWp.exit ?_ | refine AWp.ret ?_ | refine AWp.label ?_ | refine AWp.c1 ?_ | refine AWp.c2 ?_ | refine AWp.d1 (id := 1) (.take 0 (.take 1 (.take 2 (.take 3 (.take 4 (.take 5 (.take 6 (.take 7 (.take 8 (.take 9 (.take 10 (.take 11 (.take 12 (.take 13 (.take 14 (.take 15 (.take 16 (.take 17 (.take 18 (.take 19 (.take 20 (.take 21 (.take 22 (.take 23 (.take 24 (.done)))))))))))))))))))))))))) (by kernel_rfl) ?_ | refine AWp.d1 (id := 3) (.take 0 (.take 1 (.take 2 (.take 3 (.take 4 (.take 5 (.take 6 (.take 7 (.take 8 (.take 9 (.take 10 (.done)))))))))))) (by kernel_rfl) ?_) | (refine AD.go ?_; first | refine AD.d1 ?_ | refine AD.d2 ?_ | refine AD.d3 ?_ | refine AD.d0 ?_ | refine AD.d4 ?_ | refine AD.d5 ?_ | refine AD.d6 ?_ | refine AD.d7 ?_ | refine AD.d8 ?_ | refine AD.d9 ?_ | refine AD.e9 ?_ | refine AD.two rfl rfl rfl ?_ ?_) | refine thenK.nn ?_ | refine thenK.x ?_ | refine thenK.r ?_ | refine blockK.nn ?_ | refine blockK.hit ?_ | refine blockK.m1 ?_ | refine blockK.r ?_ | refine endK.nn ?_ | refine effK.n1 ?_))
  refine AL.i1 (hx := rfl) (ha := rfl) (hc := hK) (kk := ?_)
  intro v M1 hv1
  obtain ⟨no, sa, sn, sc, key, elem, rfl⟩ := hres v M1 hv1
  refine AL.nm ?_
  (repeat (first | (refine AL.go ?_; first | refine AL.a1 ?_ | refine AL.a2 ?_ | refine AL.nil ?_ | refine AL.a3 ?_ | refine AL.a4 (fun _ => ?_) | refine AL.a5 (fun _ => ?_) | refine AL.a6 (fun _ => ?_) | refine AL.a7 (fun _ => ?_) | refine AL.a8 (fun _ _ _ _ => ?_) | refine AL.g1 ?_ | refine AL.g2 ?_ | refine AL.g3 ?_) | (refine AWp.go ?_; first | refine AWp.seq ?_ | refine AWp.region ?_ | refine AWp.block ?_ | refine AWp.skip ?_ | refine AWp.exit ?_ | refine AWp.ret ?_ | refine AWp.label ?_ | refine AWp.c1 ?_ | refine AWp.c2 ?_ | refine AWp.d1 (id := 1) (.take 0 (.take 1 (.take 2 (.take 3 (.take 4 (.take 5 (.take 6 (.take 7 (.take 8 (.take 9 (.take 10 (.take 11 (.take 12 (.take 13 (.take 14 (.take 15 (.take 16 (.take 17 (.take 18 (.take 19 (.take 20 (.take 21 (.take 22 (.take 23 (.take 24 (.done)))))))))))))))))))))))))) (by kernel_rfl) ?_ | refine AWp.d1 (id := 3) (.take 0 (.take 1 (.take 2 (.take 3 (.take 4 (.take 5 (.take 6 (.take 7 (.take 8 (.take 9 (.take 10 (.done)))))))))))) (by kernel_rfl) ?_) | (refine AD.go ?_; first | refine AD.d1 ?_ | refine AD.d2 ?_ | refine AD.d3 ?_ | refine AD.d0 ?_ | refine AD.d4 ?_ | refine AD.d5 ?_ | refine AD.d6 ?_ | refine AD.d7 ?_ | refine AD.d8 ?_ | refine AD.d9 ?_ | refine AD.e9 ?_ | refine AD.two rfl rfl rfl ?_ ?_) | refine thenK.nn ?_ | refine thenK.x ?_ | refine thenK.r ?_ | refine blockK.nn ?_ | refine blockK.hit ?_ | refine blockK.m1 ?_ | refine blockK.r ?_ | refine endK.nn ?_ | refine effK.n1 ?_))
  refine endK.go ?_; refine endK.r (RVals.one (RVal.cellN rfl rfl (by first | ((repeat (first | exact RdN.nil | exact (by first | exact Rd.own (by first | ((repeat (first | exact List.Mem.head _ | apply List.Mem.tail | apply List.mem_append_right)); done) | fail) rfl | assumption | exact Rd.mono (by assumption) (by first | (intro _ hh; (repeat (first | exact hh | apply List.mem_cons_of_mem | exact List.mem_append_left _ hh | apply List.mem_append_right)); done) | fail) | exact Rd.mono1 (by assumption) (by first | ((repeat (first | exact List.Mem.head _ | apply List.Mem.tail | apply List.mem_append_right)); done) | fail)) | apply RdN.cons)); done) | fail))) ⟨M1, hv1, rfl⟩ (by (first | ((repeat' first | exact Split.refl _ | exact Split.nil _ | exact Split.left _ _ | apply Split.cons | apply Split.assoc | refine Split.nilA rfl ?_ | exact Pick.head _ | apply Pick.tail | apply Pick.app | apply Split.consL | apply Split.lone | exact PickL.head _ | exact PickL.here | apply PickL.tail | apply PickL.app); done) | fail))
end Go.Proofs.Ytbchkofadjeblaa
