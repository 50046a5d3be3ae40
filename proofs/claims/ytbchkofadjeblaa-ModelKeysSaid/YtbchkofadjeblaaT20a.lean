import Derived.Test.YtbchkofadjeblaaT19a
import Derived.Test.YtbchkofadjeblaaH5
set_option linter.unusedVariables false
set_option linter.unusedSimpArgs false
namespace Go.Proofs.Ytbchkofadjeblaa
open Go Go.SL
attribute [local irreducible] AL AWp thenK blockK endK ACalls RVals AD effK PVs PU PV planOk noP
set_option maxRecDepth 100000
set_option maxHeartbeats 2000000
variable {w0 : World} {B : Nat} {hB : B ≤ w0.heap.size}

/-! a map with keys, alone -/
def keyD (which entries : Int) : DeclD := ⟨if which.tmod 2 = 0 then 4 else 5, 1 + pickF entries 64, 1, if which.tmod 2 = 0 then 4 else 0, 0⟩
theorem keyD_ok (which entries : Int) : okH (keyD which entries) := by
  have := pickF_bd (v := entries) (n := 64) (by omega)
  refine ⟨?_, ?_, ?_, rfl, rfl, ?_⟩ <;> simp only [keyD]
  · split <;> simp
  · omega
  · omega
  · split <;> omega
theorem right_h {d : DeclD} {o : OpD} {n : Nat} (hk : d.kind = 4 ∨ d.kind = 5) (hw : d.words = 1)
    (ho : (o.kind = 1 ∨ o.kind = 3 ∨ o.kind = 5) ∧ o.flag = 0 ∨ o.kind = 4 ∧ (o.flag = 0 ∨ o.flag = 1) ∨ o.kind = 2 ∧ n = 1 ∧ (o.flag = 0 ∨ o.flag = 1 ∨ o.flag = 2)) : rightF 1 d o n = true := by
  obtain ⟨ok, oy, ov, ofl, oc⟩ := o
  obtain ⟨dk, de, dw, db, di⟩ := d
  simp only at hk hw ho
  subst hw
  rcases ho with ⟨hkk, rfl⟩ | ⟨rfl, hf⟩ | ⟨rfl, rfl, hf⟩
  · rcases hkk with rfl | rfl | rfl <;> rcases hk with rfl | rfl <;> rfl
  · rcases hf with rfl | rfl <;> rcases hk with rfl | rfl <;> rfl
  · rcases hf with rfl | rfl | rfl <;> rcases hk with rfl | rfl <;> rfl
theorem key_check {kd e bk : Int} (hk : kd = 4 ∧ bk = 4 ∨ kd = 5 ∧ bk = 0) (h1 : 1 ≤ e) (h2 : e ≤ 64) : checkAll [⟨kd, e, 1, bk, 0⟩] = 0 := by
  have h5 : inF e 64 = true := decide_eq_true ⟨by omega, by omega⟩
  have h6 : inF 1 1 = true := rfl
  have h7 : inF 4 32 = true := rfl
  have hp : popF 4 = 1 := by decide +kernel
  rcases hk with ⟨rfl, rfl⟩ | ⟨rfl, rfl⟩
  · have a1 : isKind 4 = true := rfl
    have a2 : wordsOf 4 = 1 := rfl
    have a3 : bucketsOf 4 = true := rfl
    have a4 : nestedOf 4 = false := rfl
    simp [checkAll, firstBad, checkF, checkA, checkB, checkC, a1, a2, a3, a4, h5, h6, h7, hp]
  · have a1 : isKind 5 = true := rfl
    have a2 : wordsOf 5 = 1 := rfl
    have a3 : bucketsOf 5 = false := rfl
    have a4 : nestedOf 5 = false := rfl
    simp [checkAll, firstBad, checkF, checkA, checkB, checkC, a1, a2, a3, a4, h5, h6]
/-- a new map with keys -/
structure NewH (C : Cx) (d : DeclD) (v : Value) (M' : Hp) where
  (x b k m : Nat) (Z : Hp)
  hv : v = .pointer (some ⟨x, 0, none⟩)
  F : Frz C Z x 1 d 1 (.iface hashT (.pointer (some ⟨k, 0, none⟩))) b
  hM : M' = Z ++ [hashB k b m 0, baseB b d nilS, (m, mapO [] 0)]
theorem one_h {d : DeclD} (hc : checkAll [d] = 0) (hk : d.kind = 4 ∨ d.kind = 5) (h1 : 1 ≤ d.entries) (h2 : d.entries ≤ 64) :
    ACalls (cx w0 B hB) 20 [d.v] [] (fun v M' => Nonempty (NewH (cx w0 B hB) d v M')) := by
  refine ((one_s hc ⟨by omega, h1, h2⟩).mono (k' := fun v M' => ∃ M1, Has M' M1 ∧ Nonempty (NewH (cx w0 B hB) d v M1)) ?_).less
  rintro v M' ⟨x, b, kv, K, Z, rfl, ⟨F⟩, hK, rfl⟩
  cases hK with
  | arr h => omega
  | ring h => omega
  | @hash k m h =>
    refine ⟨Z ++ [hashB k b m 0, baseB b d nilS, (m, mapO [] 0)], ⟨[], ?_⟩, ⟨x, b, k, m, Z, rfl, F, rfl⟩⟩
    simp only [List.append_nil]
    refine List.Perm.append_left Z ?_
    exact (List.Perm.swap _ _ []).cons _
theorem keyed_s (which entries : Int) : ACalls (cx w0 B hB) 12 [.int .i64 which, .int .i64 entries] [] (fun v M' => Nonempty (NewH (cx w0 B hB) (keyD which entries) v M')) := by
  have hpk := pickF_bd (v := entries) (n := 64) (by omega)
  have hok := keyD_ok which entries
  refine ACalls.fn Try.func12 rfl rfl rfl rfl ?_
  by_cases h : which.tmod 2 = 0
  · have e : keyD which entries = ⟨4, 1 + pickF entries 64, 1, 4, 0⟩ := by simp only [keyD, h, if_true]
    rw [e]
    (repeat (first | (refine AL.go ?_; first | refine AL.a1 ?_ | refine AL.a2 ?_ | refine AL.nil ?_ | refine AL.a3 ?_ | refine AL.a4 (fun _ => ?_) | refine AL.a5 (fun _ => ?_) | refine AL.a6 (fun _ => ?_) | refine AL.a7 (fun _ => ?_) | refine AL.a8 (fun _ _ _ _ => ?_) | refine AL.g1 ?_ | refine AL.g2 ?_ | refine AL.g3 ?_ | (refine AL.c2 (hx := rfl) (ha := rfl) (hc := (pick_s entries 64 (by omega))) (kk := ?_); refine AL.nm ?_)) | (refine AWp.go ?_; first | refine AWp.seq ?_ | refine AWp.region ?_ | refine AWp.block ?_ | refine AWp.skip ?_ | refine AWp.exit ?_ | refine AWp.ret ?_ | refine AWp.label ?_ | refine AWp.c1 ?_ | refine AWp.c2 ?_) | refine thenK.nn ?_ | refine thenK.x ?_ | refine thenK.r ?_ | refine blockK.nn ?_ | refine blockK.hit ?_ | refine blockK.m1 ?_ | refine blockK.r ?_ | refine endK.nn ?_ | refine effK.n1 ?_))
    refine AL.c1 (hx := rfl) (ha := rfl) (hc := one_h (d := ⟨4, 1 + pickF entries 64, 1, 4, 0⟩) (key_check (.inl ⟨rfl, rfl⟩) (by omega) (by omega)) (.inl rfl) (by simp only; omega) (by simp only; omega)) (kk := ?_)
    intro v M' hN
    refine AL.nm ?_
    (repeat (first | (refine AL.go ?_; first | refine AL.a1 ?_ | refine AL.a2 ?_ | refine AL.nil ?_ | refine AL.a3 ?_ | refine AL.a4 (fun _ => ?_) | refine AL.a5 (fun _ => ?_) | refine AL.a6 (fun _ => ?_) | refine AL.a7 (fun _ => ?_) | refine AL.a8 (fun _ _ _ _ => ?_) | refine AL.g1 ?_ | refine AL.g2 ?_ | refine AL.g3 ?_) | (refine AWp.go ?_; first | refine AWp.seq ?_ | refine AWp.region ?_ | refine AWp.block ?_ | refine AWp.skip ?_ | refine AWp.exit ?_ | refine AWp.ret ?_ | refine AWp.label ?_ | refine AWp.c1 ?_ | refine AWp.c2 ?_) | refine thenK.nn ?_ | refine thenK.x ?_ | refine thenK.r ?_ | refine blockK.nn ?_ | refine blockK.hit ?_ | refine blockK.m1 ?_ | refine blockK.r ?_ | refine endK.nn ?_ | refine effK.n1 ?_))
    refine endK.go ?_; refine endK.r (RVals.one (RVal.tmp rfl)) hN (by (first | ((repeat' first | exact Split.refl _ | exact Split.nil _ | exact Split.left _ _ | apply Split.cons | apply Split.assoc | refine Split.nilA rfl ?_ | exact Pick.head _ | apply Pick.tail | apply Pick.app | apply Split.consL | apply Split.lone | exact PickL.head _ | exact PickL.here | apply PickL.tail | apply PickL.app); done) | fail))
  · have e : keyD which entries = ⟨5, 1 + pickF entries 64, 1, 0, 0⟩ := by simp only [keyD, h, if_false]
    rw [e]
    (repeat (first | (refine AL.go ?_; first | refine AL.a1 ?_ | refine AL.a2 ?_ | refine AL.nil ?_ | refine AL.a3 ?_ | refine AL.a4 (fun _ => ?_) | refine AL.a5 (fun _ => ?_) | refine AL.a6 (fun _ => ?_) | refine AL.a7 (fun _ => ?_) | refine AL.a8 (fun _ _ _ _ => ?_) | refine AL.g1 ?_ | refine AL.g2 ?_ | refine AL.g3 ?_ | (refine AL.c2 (hx := rfl) (ha := rfl) (hc := (pick_s entries 64 (by omega))) (kk := ?_); refine AL.nm ?_)) | (refine AWp.go ?_; first | refine AWp.seq ?_ | refine AWp.region ?_ | refine AWp.block ?_ | refine AWp.skip ?_ | refine AWp.exit ?_ | refine AWp.ret ?_ | refine AWp.label ?_ | refine AWp.c1 ?_ | refine AWp.c2 ?_) | refine thenK.nn ?_ | refine thenK.x ?_ | refine thenK.r ?_ | refine blockK.nn ?_ | refine blockK.hit ?_ | refine blockK.m1 ?_ | refine blockK.r ?_ | refine endK.nn ?_ | refine effK.n1 ?_))
    refine AL.c1 (hx := rfl) (ha := rfl) (hc := one_h (d := ⟨5, 1 + pickF entries 64, 1, 0, 0⟩) (key_check (.inr ⟨rfl, rfl⟩) (by omega) (by omega)) (.inr rfl) (by simp only; omega) (by simp only; omega)) (kk := ?_)
    intro v M' hN
    refine AL.nm ?_
    (repeat (first | (refine AL.go ?_; first | refine AL.a1 ?_ | refine AL.a2 ?_ | refine AL.nil ?_ | refine AL.a3 ?_ | refine AL.a4 (fun _ => ?_) | refine AL.a5 (fun _ => ?_) | refine AL.a6 (fun _ => ?_) | refine AL.a7 (fun _ => ?_) | refine AL.a8 (fun _ _ _ _ => ?_) | refine AL.g1 ?_ | refine AL.g2 ?_ | refine AL.g3 ?_) | (refine AWp.go ?_; first | refine AWp.seq ?_ | refine AWp.region ?_ | refine AWp.block ?_ | refine AWp.skip ?_ | refine AWp.exit ?_ | refine AWp.ret ?_ | refine AWp.label ?_ | refine AWp.c1 ?_ | refine AWp.c2 ?_) | refine thenK.nn ?_ | refine thenK.x ?_ | refine thenK.r ?_ | refine blockK.nn ?_ | refine blockK.hit ?_ | refine blockK.m1 ?_ | refine blockK.r ?_ | refine endK.nn ?_ | refine effK.n1 ?_))
    refine endK.go ?_; refine endK.r (RVals.one (RVal.tmp rfl)) hN (by (first | ((repeat' first | exact Split.refl _ | exact Split.nil _ | exact Split.left _ _ | apply Split.cons | apply Split.assoc | refine Split.nilA rfl ?_ | exact Pick.head _ | apply Pick.tail | apply Pick.app | apply Split.consL | apply Split.lone | exact PickL.head _ | exact PickL.here | apply PickL.tail | apply PickL.app); done) | fail))
end Go.Proofs.Ytbchkofadjeblaa
