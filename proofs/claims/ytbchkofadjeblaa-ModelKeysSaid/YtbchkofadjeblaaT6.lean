import Derived.Test.YtbchkofadjeblaaSlM
import Derived.Test.YtbchkofadjeblaaT5
set_option linter.unusedVariables false
set_option linter.unusedSimpArgs false
namespace Go.Proofs.Ytbchkofadjeblaa
open Go Go.SL
attribute [local irreducible] AL AWp thenK blockK endK ACalls RVals AD effK PVs PU PV planOk noP
set_option maxRecDepth 100000
set_option maxHeartbeats 2000000
variable {w0 : World} {B : Nat} {hB : B ≤ w0.heap.size}
def mayF (k op : Int) : Bool := isKind k && (doesL k).contains op
theorem may_s (k op : Int) : ACalls (cx w0 B hB) 61 [.int .i64 k, .int .i64 op] [] (fun v M' => v = .bool (mayF k op) ∧ M' = []) := by
  refine ACalls.fn Try.func61 rfl rfl rfl rfl ?_
  (repeat (first | (refine AL.go ?_; first | refine AL.a1 ?_ | refine AL.a2 ?_ | refine AL.nil ?_ | refine AL.a3 ?_ | refine AL.a4 (fun _ => ?_) | refine AL.a5 (fun _ => ?_) | refine AL.a6 (fun _ => ?_) | refine AL.a7 (fun _ => ?_) | refine AL.a8 (fun _ _ _ _ => ?_) | refine AL.g1 ?_ | refine AL.g2 ?_ | refine AL.g3 ?_) | (refine AWp.go ?_; first | refine AWp.seq ?_ | refine AWp.region ?_ | refine AWp.block ?_ | refine AWp.skip ?_ | refine AWp.exit ?_ | refine AWp.ret ?_ | refine AWp.label ?_ | refine AWp.c1 ?_ | refine AWp.c2 ?_) | refine thenK.nn ?_ | refine thenK.x ?_ | refine thenK.r ?_ | refine blockK.nn ?_ | refine blockK.hit ?_ | refine blockK.m1 ?_ | refine blockK.r ?_ | refine endK.nn ?_ | refine effK.n1 ?_))
  refine AL.call rfl rfl rfl (kinds_s k) (by (first | ((repeat' first | exact Split.refl _ | exact Split.nil _ | exact Split.left _ _ | apply Split.cons | apply Split.assoc | refine Split.nilA rfl ?_ | exact Pick.head _ | apply Pick.tail | apply Pick.app | apply Split.consL | apply Split.lone | exact PickL.head _ | exact PickL.here | apply PickL.tail | apply PickL.app); done) | fail)) ?_
  rintro _ _ ⟨s, R, rfl, hrow, rfl⟩
  refine ⟨trivial, ?_⟩
  obtain ⟨a, cap, rfl⟩ := hrow.asSlice
  have hn : (doesL k).length ≤ maxLen := by unfold doesL; repeat (first | split | decide)
  by_cases hk : isKind k = true
  · (repeat (first | (refine AL.go ?_; first | refine AL.a1 ?_ | refine AL.a2 ?_ | refine AL.nil ?_ | refine AL.a3 ?_ | refine AL.a4 (fun _ => ?_) | refine AL.a5 (fun _ => ?_) | refine AL.a6 (fun _ => ?_) | refine AL.a7 (fun _ => ?_) | refine AL.a8 (fun _ _ _ _ => ?_) | refine AL.g1 ?_ | refine AL.g2 ?_ | refine AL.g3 ?_ | (refine AL.c2 (hx := rfl) (ha := rfl) (hc := (contains_s (hrow.shows (fun _ h => h)) rfl hn op)) (kk := ?_); refine AL.nm ?_)) | (refine AWp.go ?_; first | refine AWp.seq ?_ | refine AWp.region ?_ | refine AWp.block ?_ | refine AWp.skip ?_ | refine AWp.exit ?_ | refine AWp.ret ?_ | refine AWp.label ?_ | refine AWp.c1 ?_ | refine AWp.c2 ?_) | refine thenK.nn ?_ | refine thenK.x ?_ | refine thenK.r ?_ | refine blockK.nn ?_ | refine blockK.hit ?_ | refine blockK.m1 ?_ | refine blockK.r ?_ | refine endK.nn ?_ | refine effK.n1 ?_))
    refine endK.go ?_; refine endK.r (RVals.one (RVal.tmp rfl)) ⟨?_, rfl⟩ (by (first | ((repeat' first | exact Split.refl _ | exact Split.nil _ | exact Split.left _ _ | apply Split.cons | apply Split.assoc | refine Split.nilA rfl ?_ | exact Pick.head _ | apply Pick.tail | apply Pick.app | apply Split.consL | apply Split.lone | exact PickL.head _ | exact PickL.here | apply PickL.tail | apply PickL.app); done) | fail))
    simp only [tup, mayF, hk, Bool.true_and]
  · have hk' : isKind k = false := by simpa using hk
    (repeat (first | (refine AL.go ?_; first | refine AL.a1 ?_ | refine AL.a2 ?_ | refine AL.nil ?_ | refine AL.a3 ?_ | refine AL.a4 (fun _ => ?_) | refine AL.a5 (fun _ => ?_) | refine AL.a6 (fun _ => ?_) | refine AL.a7 (fun _ => ?_) | refine AL.a8 (fun _ _ _ _ => ?_) | refine AL.g1 ?_ | refine AL.g2 ?_ | refine AL.g3 ?_) | (refine AWp.go ?_; first | refine AWp.seq ?_ | refine AWp.region ?_ | refine AWp.block ?_ | refine AWp.skip ?_ | refine AWp.exit ?_ | refine AWp.ret ?_ | refine AWp.label ?_ | refine AWp.c1 ?_ | refine AWp.c2 ?_) | refine thenK.nn ?_ | refine thenK.x ?_ | refine thenK.r ?_ | refine blockK.nn ?_ | refine blockK.hit ?_ | refine blockK.m1 ?_ | refine blockK.r ?_ | refine endK.nn ?_ | refine effK.n1 ?_))
    refine endK.go ?_; refine endK.r (RVals.one (RVal.tmp rfl)) ⟨?_, rfl⟩ (by (first | ((repeat' first | exact Split.refl _ | exact Split.nil _ | exact Split.left _ _ | apply Split.cons | apply Split.assoc | refine Split.nilA rfl ?_ | exact Pick.head _ | apply Pick.tail | apply Pick.app | apply Split.consL | apply Split.lone | exact PickL.head _ | exact PickL.here | apply PickL.tail | apply PickL.app); done) | fail))
    simp only [tup, mayF, hk', Bool.false_and]

def flagsL (k op : Int) : List Int := if op = 2 then [0, 1, 2] else if op = 6 ∧ k ≠ 8 then [0, 2] else if op = 4 then [0, 1] else [0]
theorem flagsL_row {k op : Int} {l : List Int} {b : Nat} (h : flagsL k op = l) (hl : l.length ≤ maxLen) : IsRow 1 3 (.slice (some ⟨b, 0, none⟩) l.length l.length) (flagsL k op).length ((flagsL k op).map (Value.int .i64)) [(b, .cells (l.map (Value.int .i64)) 3)] := by
  subst h; exact .lit (by simp) hl
theorem flags_s (k op : Int) : ACalls (cx w0 B hB) 62 [.int .i64 k, .int .i64 op] [] (fun v M' => ∃ R, IsRow 1 3 v (flagsL k op).length ((flagsL k op).map (Value.int .i64)) R ∧ M' = R) := by
  refine ACalls.fn Try.func62 rfl rfl rfl rfl ?_
  by_cases h1 : op = 2
  · (repeat (first | (refine AL.go ?_; first | refine AL.a1 ?_ | refine AL.a2 ?_ | refine AL.nil ?_ | refine AL.a3 ?_ | refine AL.a4 (fun _ => ?_) | refine AL.a5 (fun _ => ?_) | refine AL.a6 (fun _ => ?_) | refine AL.a7 (fun _ => ?_) | refine AL.a8 (fun _ _ _ _ => ?_) | refine AL.g1 ?_ | refine AL.g2 ?_ | refine AL.g3 ?_) | (refine AWp.go ?_; first | refine AWp.seq ?_ | refine AWp.region ?_ | refine AWp.block ?_ | refine AWp.skip ?_ | refine AWp.exit ?_ | refine AWp.ret ?_ | refine AWp.label ?_ | refine AWp.c1 ?_ | refine AWp.c2 ?_) | refine thenK.nn ?_ | refine thenK.x ?_ | refine thenK.r ?_ | refine blockK.nn ?_ | refine blockK.hit ?_ | refine blockK.m1 ?_ | refine blockK.r ?_ | refine endK.nn ?_ | refine effK.n1 ?_))
    refine endK.go ?_; refine endK.r (RVals.one (RVal.tmp rfl)) ⟨_, flagsL_row (l := [0, 1, 2]) (by rw [flagsL, if_pos h1]) (by decide), rfl⟩ (by (first | ((repeat' first | exact Split.refl _ | exact Split.nil _ | exact Split.left _ _ | apply Split.cons | apply Split.assoc | refine Split.nilA rfl ?_ | exact Pick.head _ | apply Pick.tail | apply Pick.app | apply Split.consL | apply Split.lone | exact PickL.head _ | exact PickL.here | apply PickL.tail | apply PickL.app); done) | fail))
  · by_cases h2 : op = 6
    · by_cases h3 : k ≠ 8
      · (repeat (first | (refine AL.go ?_; first | refine AL.a1 ?_ | refine AL.a2 ?_ | refine AL.nil ?_ | refine AL.a3 ?_ | refine AL.a4 (fun _ => ?_) | refine AL.a5 (fun _ => ?_) | refine AL.a6 (fun _ => ?_) | refine AL.a7 (fun _ => ?_) | refine AL.a8 (fun _ _ _ _ => ?_) | refine AL.g1 ?_ | refine AL.g2 ?_ | refine AL.g3 ?_) | (refine AWp.go ?_; first | refine AWp.seq ?_ | refine AWp.region ?_ | refine AWp.block ?_ | refine AWp.skip ?_ | refine AWp.exit ?_ | refine AWp.ret ?_ | refine AWp.label ?_ | refine AWp.c1 ?_ | refine AWp.c2 ?_) | refine thenK.nn ?_ | refine thenK.x ?_ | refine thenK.r ?_ | refine blockK.nn ?_ | refine blockK.hit ?_ | refine blockK.m1 ?_ | refine blockK.r ?_ | refine endK.nn ?_ | refine effK.n1 ?_))
        refine endK.go ?_; refine endK.r (RVals.one (RVal.tmp rfl)) ⟨_, flagsL_row (l := [0, 2]) (by rw [flagsL, if_neg h1, if_pos ⟨h2, h3⟩]) (by decide), rfl⟩ (by (first | ((repeat' first | exact Split.refl _ | exact Split.nil _ | exact Split.left _ _ | apply Split.cons | apply Split.assoc | refine Split.nilA rfl ?_ | exact Pick.head _ | apply Pick.tail | apply Pick.app | apply Split.consL | apply Split.lone | exact PickL.head _ | exact PickL.here | apply PickL.tail | apply PickL.app); done) | fail))
      · (repeat (first | (refine AL.go ?_; first | refine AL.a1 ?_ | refine AL.a2 ?_ | refine AL.nil ?_ | refine AL.a3 ?_ | refine AL.a4 (fun _ => ?_) | refine AL.a5 (fun _ => ?_) | refine AL.a6 (fun _ => ?_) | refine AL.a7 (fun _ => ?_) | refine AL.a8 (fun _ _ _ _ => ?_) | refine AL.g1 ?_ | refine AL.g2 ?_ | refine AL.g3 ?_) | (refine AWp.go ?_; first | refine AWp.seq ?_ | refine AWp.region ?_ | refine AWp.block ?_ | refine AWp.skip ?_ | refine AWp.exit ?_ | refine AWp.ret ?_ | refine AWp.label ?_ | refine AWp.c1 ?_ | refine AWp.c2 ?_) | refine thenK.nn ?_ | refine thenK.x ?_ | refine thenK.r ?_ | refine blockK.nn ?_ | refine blockK.hit ?_ | refine blockK.m1 ?_ | refine blockK.r ?_ | refine endK.nn ?_ | refine effK.n1 ?_))
        refine endK.go ?_; refine endK.r (RVals.one (RVal.tmp rfl)) ⟨_, flagsL_row (l := [0]) (by rw [flagsL, if_neg h1, if_neg (by simp [h3]), if_neg (by omega)]) (by decide), rfl⟩ (by (first | ((repeat' first | exact Split.refl _ | exact Split.nil _ | exact Split.left _ _ | apply Split.cons | apply Split.assoc | refine Split.nilA rfl ?_ | exact Pick.head _ | apply Pick.tail | apply Pick.app | apply Split.consL | apply Split.lone | exact PickL.head _ | exact PickL.here | apply PickL.tail | apply PickL.app); done) | fail))
    · by_cases h4 : op = 4
      · (repeat (first | (refine AL.go ?_; first | refine AL.a1 ?_ | refine AL.a2 ?_ | refine AL.nil ?_ | refine AL.a3 ?_ | refine AL.a4 (fun _ => ?_) | refine AL.a5 (fun _ => ?_) | refine AL.a6 (fun _ => ?_) | refine AL.a7 (fun _ => ?_) | refine AL.a8 (fun _ _ _ _ => ?_) | refine AL.g1 ?_ | refine AL.g2 ?_ | refine AL.g3 ?_) | (refine AWp.go ?_; first | refine AWp.seq ?_ | refine AWp.region ?_ | refine AWp.block ?_ | refine AWp.skip ?_ | refine AWp.exit ?_ | refine AWp.ret ?_ | refine AWp.label ?_ | refine AWp.c1 ?_ | refine AWp.c2 ?_) | refine thenK.nn ?_ | refine thenK.x ?_ | refine thenK.r ?_ | refine blockK.nn ?_ | refine blockK.hit ?_ | refine blockK.m1 ?_ | refine blockK.r ?_ | refine endK.nn ?_ | refine effK.n1 ?_))
        refine endK.go ?_; refine endK.r (RVals.one (RVal.tmp rfl)) ⟨_, flagsL_row (l := [0, 1]) (by rw [flagsL, if_neg h1, if_neg (by simp [h2]), if_pos h4]) (by decide), rfl⟩ (by (first | ((repeat' first | exact Split.refl _ | exact Split.nil _ | exact Split.left _ _ | apply Split.cons | apply Split.assoc | refine Split.nilA rfl ?_ | exact Pick.head _ | apply Pick.tail | apply Pick.app | apply Split.consL | apply Split.lone | exact PickL.head _ | exact PickL.here | apply PickL.tail | apply PickL.app); done) | fail))
      · (repeat (first | (refine AL.go ?_; first | refine AL.a1 ?_ | refine AL.a2 ?_ | refine AL.nil ?_ | refine AL.a3 ?_ | refine AL.a4 (fun _ => ?_) | refine AL.a5 (fun _ => ?_) | refine AL.a6 (fun _ => ?_) | refine AL.a7 (fun _ => ?_) | refine AL.a8 (fun _ _ _ _ => ?_) | refine AL.g1 ?_ | refine AL.g2 ?_ | refine AL.g3 ?_) | (refine AWp.go ?_; first | refine AWp.seq ?_ | refine AWp.region ?_ | refine AWp.block ?_ | refine AWp.skip ?_ | refine AWp.exit ?_ | refine AWp.ret ?_ | refine AWp.label ?_ | refine AWp.c1 ?_ | refine AWp.c2 ?_) | refine thenK.nn ?_ | refine thenK.x ?_ | refine thenK.r ?_ | refine blockK.nn ?_ | refine blockK.hit ?_ | refine blockK.m1 ?_ | refine blockK.r ?_ | refine endK.nn ?_ | refine effK.n1 ?_))
        refine endK.go ?_; refine endK.r (RVals.one (RVal.tmp rfl)) ⟨_, flagsL_row (l := [0]) (by rw [flagsL, if_neg h1, if_neg (by simp [h2]), if_neg h4]) (by decide), rfl⟩ (by (first | ((repeat' first | exact Split.refl _ | exact Split.nil _ | exact Split.left _ _ | apply Split.cons | apply Split.assoc | refine Split.nilA rfl ?_ | exact Pick.head _ | apply Pick.tail | apply Pick.app | apply Split.consL | apply Split.lone | exact PickL.head _ | exact PickL.here | apply PickL.tail | apply PickL.app); done) | fail))

def mulU (a b : Int) : Int := IntKind.u64.wrap (a * b)
def bucketF (key n : Int) : Int := if n < 1 then 0 else ((mulU key 11400714819323198485).fdiv 4294967296).tmod n
theorem bucketF_nonneg (key n : Int) : 0 ≤ bucketF key n := by
  unfold bucketF
  split
  · omega
  · have h : 0 ≤ mulU key 11400714819323198485 := by
      unfold mulU IntKind.wrap
      simp only [IntKind.bits, IntKind.signed, Bool.false_and, Bool.false_eq_true, if_false]
      exact Int.emod_nonneg _ (by decide)
    have h2 : 0 ≤ (mulU key 11400714819323198485).fdiv 4294967296 := Int.fdiv_nonneg h (by decide)
    exact Int.tmod_nonneg _ h2
theorem bucketF_lt (key n : Int) (h : 1 ≤ n) : bucketF key n < n := by
  unfold bucketF
  rw [if_neg (by omega)]
  exact Int.tmod_lt_of_pos _ (by omega)
theorem bucket_s (key n : Int) (h : n ≤ 1000000) : ACalls (cx w0 B hB) 43 [.int .u64 key, .int .i64 n] [] (fun v M' => v = .int .i64 (bucketF key n) ∧ M' = []) := by
  refine ACalls.fn Try.func43 rfl rfl rfl rfl ?_
  by_cases h1 : n < 1
  · (repeat (first | (refine AL.go ?_; first | refine AL.a1 ?_ | refine AL.a2 ?_ | refine AL.nil ?_ | refine AL.a3 ?_ | refine AL.a4 (fun _ => ?_) | refine AL.a5 (fun _ => ?_) | refine AL.a6 (fun _ => ?_) | refine AL.a7 (fun _ => ?_) | refine AL.a8 (fun _ _ _ _ => ?_) | refine AL.g1 ?_ | refine AL.g2 ?_ | refine AL.g3 ?_) | (refine AWp.go ?_; first | refine AWp.seq ?_ | refine AWp.region ?_ | refine AWp.block ?_ | refine AWp.skip ?_ | refine AWp.exit ?_ | refine AWp.ret ?_ | refine AWp.label ?_ | refine AWp.c1 ?_ | refine AWp.c2 ?_) | refine thenK.nn ?_ | refine thenK.x ?_ | refine thenK.r ?_ | refine blockK.nn ?_ | refine blockK.hit ?_ | refine blockK.m1 ?_ | refine blockK.r ?_ | refine endK.nn ?_ | refine effK.n1 ?_))
    refine endK.go ?_; refine endK.r (RVals.one (RVal.tmp rfl)) ⟨?_, rfl⟩ (by (first | ((repeat' first | exact Split.refl _ | exact Split.nil _ | exact Split.left _ _ | apply Split.cons | apply Split.assoc | refine Split.nilA rfl ?_ | exact Pick.head _ | apply Pick.tail | apply Pick.app | apply Split.consL | apply Split.lone | exact PickL.head _ | exact PickL.here | apply PickL.tail | apply PickL.app); done) | fail))
    rw [bucketF, if_pos h1]; rfl
  · (repeat (first | (refine AL.go ?_; first | refine AL.a1 ?_ | refine AL.a2 ?_ | refine AL.nil ?_ | refine AL.a3 ?_ | refine AL.a4 (fun _ => ?_) | refine AL.a5 (fun _ => ?_) | refine AL.a6 (fun _ => ?_) | refine AL.a7 (fun _ => ?_) | refine AL.a8 (fun _ _ _ _ => ?_) | refine AL.g1 ?_ | refine AL.g2 ?_ | refine AL.g3 ?_) | (refine AWp.go ?_; first | refine AWp.seq ?_ | refine AWp.region ?_ | refine AWp.block ?_ | refine AWp.skip ?_ | refine AWp.exit ?_ | refine AWp.ret ?_ | refine AWp.label ?_ | refine AWp.c1 ?_ | refine AWp.c2 ?_) | refine thenK.nn ?_ | refine thenK.x ?_ | refine thenK.r ?_ | refine blockK.nn ?_ | refine blockK.hit ?_ | refine blockK.m1 ?_ | refine blockK.r ?_ | refine endK.nn ?_ | refine effK.n1 ?_))
    refine endK.go ?_; refine endK.r (RVals.one (RVal.tmp rfl)) ⟨?_, rfl⟩ (by (first | ((repeat' first | exact Split.refl _ | exact Split.nil _ | exact Split.left _ _ | apply Split.cons | apply Split.assoc | refine Split.nilA rfl ?_ | exact Pick.head _ | apply Pick.tail | apply Pick.app | apply Split.consL | apply Split.lone | exact PickL.head _ | exact PickL.here | apply PickL.tail | apply PickL.app); done) | fail))
    have e : bucketF key n = (((mulU key 11400714819323198485).fdiv 4294967296).tmod n) := by rw [bucketF, if_neg h1]
    have h2 := bucketF_nonneg key n
    have h3 := bucketF_lt key n (by omega)
    have h4 := wrap_i64 (x := bucketF key n) (by omega) (by omega)
    rw [e] at h4
    rw [e]
    exact congrArg (Value.int .i64) h4
end Go.Proofs.Ytbchkofadjeblaa
