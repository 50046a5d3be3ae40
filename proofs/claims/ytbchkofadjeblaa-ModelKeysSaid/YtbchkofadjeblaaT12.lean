import Derived.Test.YtbchkofadjeblaaT11
import Derived.Test.YtbchkofadjeblaaH1
set_option linter.unusedVariables false
set_option linter.unusedSimpArgs false
namespace Go.Proofs.Ytbchkofadjeblaa
open Go Go.SL
attribute [local irreducible] AL AWp thenK blockK endK ACalls RVals AD effK PVs PU PV planOk noP
set_option maxRecDepth 100000
set_option maxHeartbeats 2000000
variable {w0 : World} {B : Nat} {hB : B ≤ w0.heap.size}

theorem bucketF_zero (k : Int) : bucketF k 0 = 0 := by unfold bucketF; rw [if_pos (by omega)]
theorem bucketF_bd (k n : Int) (h : n ≤ 1000000) : 0 ≤ bucketF k n ∧ bucketF k n ≤ 1000000 := by
  refine ⟨bucketF_nonneg k n, ?_⟩
  by_cases h1 : n < 1
  · unfold bucketF; rw [if_pos h1]; omega
  · have := bucketF_lt k n (by omega); omega
theorem ahead_s {d : DeclD} {a b : Int} (hd : d.buckets ≤ 1000000) (ha : isU a) (hb : isU b) : ACalls (cx w0 B hB) 19 [d.v, .int .u64 a, .int .u64 b] [] (fun v M' => v = .bool (aheadF d a b) ∧ M' = []) := by
  obtain ⟨n, hn, hn2⟩ : ∃ n : Int, n = (if bucketedOf d.kind then d.buckets else 0) ∧ n ≤ 1000000 := ⟨_, rfl, by split <;> omega⟩
  have e1 : aheadF d a b = if bucketF a n ≠ bucketF b n then decide (bucketF a n < bucketF b n) else decide (a < b) := by
    have h1 := bucketF_bd a n hn2
    have h2 := bucketF_bd b n hn2
    unfold aheadF rank
    rw [← hn]
    unfold isU at ha hb
    split <;> (apply decide_eq_decide.2; omega)
  refine ACalls.fn Try.func19 rfl rfl rfl rfl ?_
  (repeat (first | (refine AL.go ?_; first | refine AL.a1 ?_ | refine AL.a2 ?_ | refine AL.nil ?_ | refine AL.a3 ?_ | refine AL.a4 (fun _ => ?_) | refine AL.a5 (fun _ => ?_) | refine AL.a6 (fun _ => ?_) | refine AL.a7 (fun _ => ?_) | refine AL.a8 (fun _ _ _ _ => ?_) | refine AL.g1 ?_ | refine AL.g2 ?_ | refine AL.g3 ?_) | (refine AWp.go ?_; first | refine AWp.seq ?_ | refine AWp.region ?_ | refine AWp.block ?_ | refine AWp.skip ?_ | refine AWp.exit ?_ | refine AWp.ret ?_ | refine AWp.label ?_ | refine AWp.c1 ?_ | refine AWp.c2 ?_) | refine thenK.nn ?_ | refine thenK.x ?_ | refine thenK.r ?_ | refine blockK.nn ?_ | refine blockK.hit ?_ | refine blockK.m1 ?_ | refine blockK.r ?_ | refine endK.nn ?_ | refine effK.n1 ?_))
  refine AL.c1 (hx := rfl) (ha := rfl) (hc := kinds_s d.kind) (kk := ?_)
  rintro _ _ ⟨s, R, rfl, hrow, rfl⟩
  refine AL.nm ?_
  obtain ⟨a', cap', rfl⟩ := hrow.asSlice
  have hn' : (if bucketedOf d.kind = true then d.buckets else 0) = n := hn.symm
  cases hbk : bucketedOf d.kind with
  | true =>
    rw [hbk] at hn'
    simp only [if_true] at hn'
    subst hn'
    by_cases hne : bucketF a d.buckets = bucketF b d.buckets
    · (repeat (first | (refine AL.go ?_; first | refine AL.a1 ?_ | refine AL.a2 ?_ | refine AL.nil ?_ | refine AL.a3 ?_ | refine AL.a4 (fun _ => ?_) | refine AL.a5 (fun _ => ?_) | refine AL.a6 (fun _ => ?_) | refine AL.a7 (fun _ => ?_) | refine AL.a8 (fun _ _ _ _ => ?_) | refine AL.g1 ?_ | refine AL.g2 ?_ | refine AL.g3 ?_ | (refine AL.c2 (hx := rfl) (ha := rfl) (hc := (bucket_s _ _ hn2)) (kk := ?_); refine AL.nm ?_)) | (refine AWp.go ?_; first | refine AWp.seq ?_ | refine AWp.region ?_ | refine AWp.block ?_ | refine AWp.skip ?_ | refine AWp.exit ?_ | refine AWp.ret ?_ | refine AWp.label ?_ | refine AWp.c1 ?_ | refine AWp.c2 ?_) | refine thenK.nn ?_ | refine thenK.x ?_ | refine thenK.r ?_ | refine blockK.nn ?_ | refine blockK.hit ?_ | refine blockK.m1 ?_ | refine blockK.r ?_ | refine endK.nn ?_ | refine effK.n1 ?_))
      refine endK.go ?_; refine endK.r (RVals.one (RVal.tmp rfl)) ⟨by rw [e1, if_neg (by simp [hne])]; rfl, rfl⟩ (by (first | ((repeat' first | exact Split.refl _ | exact Split.nil _ | exact Split.left _ _ | apply Split.cons | apply Split.assoc | refine Split.nilA rfl ?_ | exact Pick.head _ | apply Pick.tail | apply Pick.app | apply Split.consL | apply Split.lone | exact PickL.head _ | exact PickL.here | apply PickL.tail | apply PickL.app); done) | fail))
    · (repeat (first | (refine AL.go ?_; first | refine AL.a1 ?_ | refine AL.a2 ?_ | refine AL.nil ?_ | refine AL.a3 ?_ | refine AL.a4 (fun _ => ?_) | refine AL.a5 (fun _ => ?_) | refine AL.a6 (fun _ => ?_) | refine AL.a7 (fun _ => ?_) | refine AL.a8 (fun _ _ _ _ => ?_) | refine AL.g1 ?_ | refine AL.g2 ?_ | refine AL.g3 ?_ | (refine AL.c2 (hx := rfl) (ha := rfl) (hc := (bucket_s _ _ hn2)) (kk := ?_); refine AL.nm ?_)) | (refine AWp.go ?_; first | refine AWp.seq ?_ | refine AWp.region ?_ | refine AWp.block ?_ | refine AWp.skip ?_ | refine AWp.exit ?_ | refine AWp.ret ?_ | refine AWp.label ?_ | refine AWp.c1 ?_ | refine AWp.c2 ?_) | refine thenK.nn ?_ | refine thenK.x ?_ | refine thenK.r ?_ | refine blockK.nn ?_ | refine blockK.hit ?_ | refine blockK.m1 ?_ | refine blockK.r ?_ | refine endK.nn ?_ | refine effK.n1 ?_))
      refine endK.go ?_; refine endK.r (RVals.one (RVal.tmp rfl)) ⟨by rw [e1, if_pos hne]; rfl, rfl⟩ (by (first | ((repeat' first | exact Split.refl _ | exact Split.nil _ | exact Split.left _ _ | apply Split.cons | apply Split.assoc | refine Split.nilA rfl ?_ | exact Pick.head _ | apply Pick.tail | apply Pick.app | apply Split.consL | apply Split.lone | exact PickL.head _ | exact PickL.here | apply PickL.tail | apply PickL.app); done) | fail))
  | false =>
    rw [hbk] at hn'
    simp only [Bool.false_eq_true, if_false] at hn'
    subst hn'
    have hz : ∀ k, bucketF k 0 = 0 := bucketF_zero
    rw [hz, hz] at e1
    have h0 := hz a
    have h0' := hz b
    (repeat (first | (refine AL.go ?_; first | refine AL.a1 ?_ | refine AL.a2 ?_ | refine AL.nil ?_ | refine AL.a3 ?_ | refine AL.a4 (fun _ => ?_) | refine AL.a5 (fun _ => ?_) | refine AL.a6 (fun _ => ?_) | refine AL.a7 (fun _ => ?_) | refine AL.a8 (fun _ _ _ _ => ?_) | refine AL.g1 ?_ | refine AL.g2 ?_ | refine AL.g3 ?_ | (refine AL.c2 (hx := rfl) (ha := rfl) (hc := (bucket_s _ 0 hn2)) (kk := ?_); refine AL.nm ?_)) | (refine AWp.go ?_; first | refine AWp.seq ?_ | refine AWp.region ?_ | refine AWp.block ?_ | refine AWp.skip ?_ | refine AWp.exit ?_ | refine AWp.ret ?_ | refine AWp.label ?_ | refine AWp.c1 ?_ | refine AWp.c2 ?_) | refine thenK.nn ?_ | refine thenK.x ?_ | refine thenK.r ?_ | refine blockK.nn ?_ | refine blockK.hit ?_ | refine blockK.m1 ?_ | refine blockK.r ?_ | refine endK.nn ?_ | refine effK.n1 ?_))
    refine endK.go ?_; refine endK.r (RVals.one (RVal.tmp rfl)) ⟨by rw [e1, if_neg (by simp)]; rfl, rfl⟩ (by (first | ((repeat' first | exact Split.refl _ | exact Split.nil _ | exact Split.left _ _ | apply Split.cons | apply Split.assoc | refine Split.nilA rfl ?_ | exact Pick.head _ | apply Pick.tail | apply Pick.app | apply Split.consL | apply Split.lone | exact PickL.head _ | exact PickL.here | apply PickL.tail | apply PickL.app); done) | fail))

/-! the eldest one -/
abbrev entsM (m : Nat) (clk : Nat) (hs : List HEnt) : Hp := (m, mapO (hs.map HEnt.m) clk) :: hs.map HEnt.b
structure EldSt where
  (seen : List Nat) (key least : Int)
def left (hs : List HEnt) (seen : List Nat) : Nat := (hs.filter fun h => decide (h.born ∉ seen)).length
theorem left_lt {hs : List HEnt} {seen : List Nat} {h : HEnt} (hh : h ∈ hs) (hn : h.born ∉ seen) : left hs (seen ++ [h.born]) < left hs seen := by
  unfold left
  have hsub : ((hs.filter fun x => decide (x.born ∉ seen ++ [h.born])) ).length < (hs.filter fun x => decide (x.born ∉ seen)).length := by
    induction hs with
    | nil => cases hh
    | cons y hs ih =>
      have hmono : ∀ (l : List HEnt), (l.filter fun x => decide (x.born ∉ seen ++ [h.born])).length ≤ (l.filter fun x => decide (x.born ∉ seen)).length := by
        intro l
        rw [← List.countP_eq_length_filter, ← List.countP_eq_length_filter]
        refine List.countP_mono_left (fun x _ hx => ?_)
        simp only [decide_eq_true_eq, List.mem_append, not_or] at hx ⊢
        exact hx.1
      cases hh with
      | head =>
        have h1 : decide (h.born ∉ seen ++ [h.born]) = false := by simp
        have h2 : decide (h.born ∉ seen) = true := by simp [hn]
        simp only [List.filter_cons, h1, h2, if_true, Bool.false_eq_true, if_false, List.length_cons]
        have := hmono hs
        omega
      | tail _ hh =>
        have := ih hh
        simp only [List.filter_cons]
        by_cases h1 : y.born ∈ seen
        · have e1 : decide (y.born ∉ seen ++ [h.born]) = false := by simp [h1]
          have e2 : decide (y.born ∉ seen) = false := by simp [h1]
          simp only [e1, e2, Bool.false_eq_true, if_false]
          exact this
        · by_cases h2 : y.born = h.born
          · have e1 : decide (y.born ∉ seen ++ [h.born]) = false := by simp [h2]
            have e2 : decide (y.born ∉ seen) = true := by simp [h1]
            simp only [e1, e2, Bool.false_eq_true, if_false, if_true, List.length_cons]
            omega
          · have e1 : decide (y.born ∉ seen ++ [h.born]) = true := by simp [h1, h2]
            have e2 : decide (y.born ∉ seen) = true := by simp [h1]
            simp only [e1, e2, if_true, List.length_cons]
            omega
  exact hsub
theorem nodup_born {hs : List HEnt} (h : (hs.map HEnt.born).Nodup) : ((hs.map HEnt.m).map MEnt.born).Nodup := by
  rw [List.map_map]; exact h
theorem born_inj {hs : List HEnt} (hnd : (hs.map HEnt.born).Nodup) : ∀ {h h' : HEnt}, h ∈ hs → h' ∈ hs → h.born = h'.born → h = h' := by
  induction hs with
  | nil => intro h h' hh; cases hh
  | cons x hs ih =>
    intro h h' hh hh' he
    rw [List.map_cons, List.nodup_cons] at hnd
    cases hh with
    | head =>
      cases hh' with
      | head => rfl
      | tail _ hh' => exact absurd (he ▸ List.mem_map_of_mem hh') hnd.1
    | tail _ hh =>
      cases hh' with
      | head => exact absurd (he ▸ List.mem_map_of_mem hh) hnd.1
      | tail _ hh' => exact ih hnd.2 hh hh' he
theorem eldF_eq {hs : List HEnt} {h : HEnt} (hh : h ∈ hs) (hmin : ∀ h' ∈ hs, h.used ≤ h'.used) (hinj : ∀ h ∈ hs, ∀ h' ∈ hs, h.used = h'.used → h.key = h'.key) : eldF (hs.map HEnt.e) = h.key := by
  unfold eldF
  cases hm : minBy Ent.used (hs.map HEnt.e) with
  | none => have := minBy_none hm; simp at this; subst this; cases hh
  | some m =>
    obtain ⟨h1, h2⟩ := minBy_some hm
    obtain ⟨h', hh', rfl⟩ := List.mem_map.1 h1
    have e1 := h2 _ (List.mem_map_of_mem hh)
    have e2 := hmin h' hh'
    have e3 : h'.used = h.used := by simp only at e1; omega
    simp only [Option.map_some, Option.getD_some]
    exact hinj h' hh' h hh e3
theorem eldest_s {k b m clk : Nat} {hs : List HEnt} {clock : Int} (hborn : ∀ h ∈ hs, h.born < clk) (hnd : (hs.map HEnt.born).Nodup) (hne : hs ≠ []) (hu : ∀ h ∈ hs, h.used ≤ clock) (hc : 0 ≤ clock ∧ clock ≤ 1000000)
    (hinj : ∀ h ∈ hs, ∀ h' ∈ hs, h.used = h'.used → h.key = h'.key) :
    ACalls (cx w0 B hB) 128 [.pointer (some ⟨k, 0, none⟩)] (hashB k b m clock :: entsM m clk hs) (fun v M' => v = .int .u64 (eldF (hs.map HEnt.e)) ∧ M' = hashB k b m clock :: entsM m clk hs) := by
  refine ACalls.fn Try.func128 rfl rfl rfl rfl ?_
  (repeat (first | (refine AL.go ?_; first | refine AL.a1 ?_ | refine AL.a2 ?_ | refine AL.nil ?_ | refine AL.a3 ?_ | refine AL.a4 (fun _ => ?_) | refine AL.a5 (fun _ => ?_) | refine AL.a6 (fun _ => ?_) | refine AL.a7 (fun _ => ?_) | refine AL.a8 (fun _ _ _ _ => ?_) | refine AL.g1 ?_ | refine AL.g2 ?_ | refine AL.g3 ?_) | (refine AWp.go ?_; first | refine AWp.seq ?_ | refine AWp.region ?_ | refine AWp.block ?_ | refine AWp.skip ?_ | refine AWp.exit ?_ | refine AWp.ret ?_ | refine AWp.label ?_ | refine AWp.c1 ?_ | refine AWp.c2 ?_ | refine AWp.d1 (id := 7) (.take 0 (.take 1 (.take 2 (.take 3 (.take 4 (.take 5 (.take 6 (.done)))))))) (by kernel_rfl) ?_) | (refine AD.go ?_; first | refine AD.d1 ?_ | refine AD.d2 ?_ | refine AD.d3 ?_ | refine AD.d0 ?_ | refine AD.d4 ?_ | refine AD.d5 ?_ | refine AD.d6 ?_ | refine AD.d7 ?_ | refine AD.d8 ?_ | refine AD.d9 ?_ | refine AD.e9 ?_ | refine AD.two rfl rfl rfl ?_ ?_) | refine thenK.nn ?_ | refine thenK.x ?_ | refine thenK.r ?_ | refine blockK.nn ?_ | refine blockK.hit ?_ | refine blockK.m1 ?_ | refine blockK.r ?_ | refine endK.nn ?_ | refine effK.n1 ?_))
  refine AL.range (k := 28) (e := 184) rfl rfl (by first | ((repeat (first | exact List.Mem.head _ | apply List.Mem.tail | apply List.mem_append_right)); done) | fail) (fun it => ?_)
  (repeat (first | (refine AL.go ?_; first | refine AL.a1 ?_ | refine AL.a2 ?_ | refine AL.nil ?_ | refine AL.a3 ?_ | refine AL.a4 (fun _ => ?_) | refine AL.a5 (fun _ => ?_) | refine AL.a6 (fun _ => ?_) | refine AL.a7 (fun _ => ?_) | refine AL.a8 (fun _ _ _ _ => ?_) | refine AL.g1 ?_ | refine AL.g2 ?_ | refine AL.g3 ?_) | (refine AWp.go ?_; first | refine AWp.seq ?_ | refine AWp.region ?_ | refine AWp.block ?_ | refine AWp.skip ?_ | refine AWp.exit ?_ | refine AWp.ret ?_ | refine AWp.label ?_ | refine AWp.c1 ?_ | refine AWp.c2 ?_ | refine AWp.d1 (id := 7) (.take 0 (.take 1 (.take 2 (.take 3 (.take 4 (.take 5 (.take 6 (.done)))))))) (by kernel_rfl) ?_) | (refine AD.go ?_; first | refine AD.d1 ?_ | refine AD.d2 ?_ | refine AD.d3 ?_ | refine AD.d0 ?_ | refine AD.d4 ?_ | refine AD.d5 ?_ | refine AD.d6 ?_ | refine AD.d7 ?_ | refine AD.d8 ?_ | refine AD.d9 ?_ | refine AD.e9 ?_ | refine AD.two rfl rfl rfl ?_ ?_) | refine thenK.nn ?_ | refine thenK.x ?_ | refine thenK.r ?_ | refine blockK.nn ?_ | refine blockK.hit ?_ | refine blockK.m1 ?_ | refine blockK.r ?_ | refine endK.nn ?_ | refine effK.n1 ?_))
  refine AWp.loop (σ := EldSt) (fun s => [(3, .int .u64 s.key), (4, .int .i64 s.least), (16, .pointer (some ⟨it, 0, none⟩))]) (fun s => (it, iterO m clk s.seen clk) :: hashB k b m clock :: entsM m clk hs)
    (fun s => (∀ h ∈ hs, h.born ∈ s.seen → s.least ≤ h.used) ∧ (((∀ h ∈ hs, h.born ∉ s.seen) ∧ s.least = clock + 1) ∨ ∃ h ∈ hs, h.key = s.key ∧ h.used = s.least)) (fun s => left hs s.seen) ⟨[], 0, clock + 1⟩ ⟨by simp, .inl ⟨by simp, rfl⟩⟩ (by first | ((repeat (first | exact True.intro | refine ⟨rfl, ?_⟩)); done) | fail) Has.of ?_
  rintro ⟨seen, key, least⟩ ⟨hmin, hwho⟩
  dsimp only at hmin hwho ⊢
  (repeat (first | (refine AL.go ?_; first | refine AL.a1 ?_ | refine AL.a2 ?_ | refine AL.nil ?_ | refine AL.a3 ?_ | refine AL.a4 (fun _ => ?_) | refine AL.a5 (fun _ => ?_) | refine AL.a6 (fun _ => ?_) | refine AL.a7 (fun _ => ?_) | refine AL.a8 (fun _ _ _ _ => ?_) | refine AL.g1 ?_ | refine AL.g2 ?_ | refine AL.g3 ?_) | (refine AWp.go ?_; first | refine AWp.seq ?_ | refine AWp.region ?_ | refine AWp.block ?_ | refine AWp.skip ?_ | refine AWp.exit ?_ | refine AWp.ret ?_ | refine AWp.label ?_ | refine AWp.c1 ?_ | refine AWp.c2 ?_ | refine AWp.d1 (id := 7) (.take 0 (.take 1 (.take 2 (.take 3 (.take 4 (.take 5 (.take 6 (.done)))))))) (by kernel_rfl) ?_) | (refine AD.go ?_; first | refine AD.d1 ?_ | refine AD.d2 ?_ | refine AD.d3 ?_ | refine AD.d0 ?_ | refine AD.d4 ?_ | refine AD.d5 ?_ | refine AD.d6 ?_ | refine AD.d7 ?_ | refine AD.d8 ?_ | refine AD.d9 ?_ | refine AD.e9 ?_ | refine AD.two rfl rfl rfl ?_ ?_) | refine thenK.nn ?_ | refine thenK.x ?_ | refine thenK.r ?_ | refine blockK.nn ?_ | refine blockK.hit ?_ | refine blockK.m1 ?_ | refine blockK.r ?_ | refine endK.nn ?_ | refine effK.n1 ?_))
  refine AL.next (l := hs.map HEnt.m) rfl rfl (by first | ((repeat (first | exact Pick.head _ | apply Pick.tail | apply Pick.app)); done) | fail) (by first | ((repeat (first | exact List.Mem.head _ | apply List.Mem.tail | apply List.mem_append_right)); done) | fail) (by intro x hx; obtain ⟨h, hh, rfl⟩ := List.mem_map.1 hx; exact hborn h hh) ?_ ?_
  · intro hall
    have hall' : ∀ h ∈ hs, h.born ∈ seen := fun h hh => hall _ (List.mem_map_of_mem hh)
    have hkey : key = eldF (hs.map HEnt.e) := by
      rcases hwho with ⟨h0, _⟩ | ⟨h, hh, hk, hu⟩
      · obtain ⟨h, hh⟩ := List.exists_mem_of_ne_nil _ hne
        exact absurd (hall' h hh) (h0 h hh)
      · rw [eldF_eq hh (fun h' hh' => by have := hmin h' hh' (hall' h' hh'); omega) hinj, hk]
    (repeat (first | (refine AL.go ?_; first | refine AL.a1 ?_ | refine AL.a2 ?_ | refine AL.nil ?_ | refine AL.a3 ?_ | refine AL.a4 (fun _ => ?_) | refine AL.a5 (fun _ => ?_) | refine AL.a6 (fun _ => ?_) | refine AL.a7 (fun _ => ?_) | refine AL.a8 (fun _ _ _ _ => ?_) | refine AL.g1 ?_ | refine AL.g2 ?_ | refine AL.g3 ?_) | (refine AWp.go ?_; first | refine AWp.seq ?_ | refine AWp.region ?_ | refine AWp.block ?_ | refine AWp.skip ?_ | refine AWp.exit ?_ | refine AWp.ret ?_ | refine AWp.label ?_ | refine AWp.c1 ?_ | refine AWp.c2 ?_ | refine AWp.d1 (id := 7) (.take 0 (.take 1 (.take 2 (.take 3 (.take 4 (.take 5 (.take 6 (.done)))))))) (by kernel_rfl) ?_) | (refine AD.go ?_; first | refine AD.d1 ?_ | refine AD.d2 ?_ | refine AD.d3 ?_ | refine AD.d0 ?_ | refine AD.d4 ?_ | refine AD.d5 ?_ | refine AD.d6 ?_ | refine AD.d7 ?_ | refine AD.d8 ?_ | refine AD.d9 ?_ | refine AD.e9 ?_ | refine AD.two rfl rfl rfl ?_ ?_) | refine thenK.nn ?_ | refine thenK.x ?_ | refine thenK.r ?_ | refine blockK.nn ?_ | refine blockK.hit ?_ | refine blockK.m1 ?_ | refine blockK.r ?_ | refine endK.nn ?_ | refine effK.n1 ?_))
    refine endK.go ?_; refine endK.r (RVals.one (RVal.tmp rfl)) ⟨by rw [hkey]; rfl, rfl⟩ (by (first | ((repeat' first | exact Split.refl _ | exact Split.nil _ | exact Split.left _ _ | apply Split.cons | apply Split.assoc | refine Split.nilA rfl ?_ | exact Pick.head _ | apply Pick.tail | apply Pick.app | apply Split.consL | apply Split.lone | exact PickL.head _ | exact PickL.here | apply PickL.tail | apply PickL.app); done) | fail))
  · intro y hy hns
    obtain ⟨h, hh, rfl⟩ := List.mem_map.1 hy
    have hrd : Rd (cx w0 B hB) (hs.map HEnt.b) h.blk (0 + 2) (.int .i64 h.used) := Rd.own (List.mem_map_of_mem hh) rfl
    have huh := hu h hh
    by_cases hlt : h.used < least
    · (repeat (first | (refine AL.go ?_; first | refine AL.a1 ?_ | refine AL.a2 ?_ | refine AL.nil ?_ | refine AL.a3 ?_ | refine AL.a4 (fun _ => ?_) | refine AL.a5 (fun _ => ?_) | refine AL.a6 (fun _ => ?_) | refine AL.a7 (fun _ => ?_) | refine AL.a8 (fun _ _ _ _ => ?_) | refine AL.g1 ?_ | refine AL.g2 ?_ | refine AL.g3 ?_ | refine AL.a2 ?_ (PV.entry (y := h.m) rfl (by first | ((repeat (first | exact List.Mem.head _ | apply List.Mem.tail | apply List.mem_append_right)); done) | fail) (by first | ((repeat (first | exact List.Mem.head _ | apply List.Mem.tail | apply List.mem_append_right)); done) | fail) hy (nodup_born hnd))) | (refine AWp.go ?_; first | refine AWp.seq ?_ | refine AWp.region ?_ | refine AWp.block ?_ | refine AWp.skip ?_ | refine AWp.exit ?_ | refine AWp.ret ?_ | refine AWp.label ?_ | refine AWp.c1 ?_ | refine AWp.c2 ?_ | refine AWp.d1 (id := 7) (.take 0 (.take 1 (.take 2 (.take 3 (.take 4 (.take 5 (.take 6 (.done)))))))) (by kernel_rfl) ?_) | (refine AD.go ?_; first | refine AD.d1 ?_ | refine AD.d2 ?_ | refine AD.d3 ?_ | refine AD.d0 ?_ | refine AD.d4 ?_ | refine AD.d5 ?_ | refine AD.d6 ?_ | refine AD.d7 ?_ | refine AD.d8 ?_ | refine AD.d9 ?_ | refine AD.e9 ?_ | refine AD.two rfl rfl rfl ?_ ?_) | refine thenK.nn ?_ | refine thenK.x ?_ | refine thenK.r ?_ | refine blockK.nn ?_ | refine blockK.hit ?_ | refine blockK.m1 ?_ | refine blockK.r ?_ | refine endK.nn ?_ | refine effK.n1 ?_))
      refine ⟨⟨seen ++ [h.born], h.key, h.used⟩, ⟨?_, .inr ⟨h, hh, rfl, rfl⟩⟩, left_lt hh hns, (by first | ((repeat (first | exact True.intro | refine ⟨rfl, ?_⟩)); done) | fail), Has.of⟩
      intro h' hh' hb
      simp only [List.mem_append, List.mem_singleton] at hb
      rcases hb with hb | hb
      · have := hmin h' hh' hb; simp only; omega
      · rw [born_inj hnd hh' hh hb]; exact Int.le_refl _
    · (repeat (first | (refine AL.go ?_; first | refine AL.a1 ?_ | refine AL.a2 ?_ | refine AL.nil ?_ | refine AL.a3 ?_ | refine AL.a4 (fun _ => ?_) | refine AL.a5 (fun _ => ?_) | refine AL.a6 (fun _ => ?_) | refine AL.a7 (fun _ => ?_) | refine AL.a8 (fun _ _ _ _ => ?_) | refine AL.g1 ?_ | refine AL.g2 ?_ | refine AL.g3 ?_ | refine AL.a2 ?_ (PV.entry (y := h.m) rfl (by first | ((repeat (first | exact List.Mem.head _ | apply List.Mem.tail | apply List.mem_append_right)); done) | fail) (by first | ((repeat (first | exact List.Mem.head _ | apply List.Mem.tail | apply List.mem_append_right)); done) | fail) hy (nodup_born hnd))) | (refine AWp.go ?_; first | refine AWp.seq ?_ | refine AWp.region ?_ | refine AWp.block ?_ | refine AWp.skip ?_ | refine AWp.exit ?_ | refine AWp.ret ?_ | refine AWp.label ?_ | refine AWp.c1 ?_ | refine AWp.c2 ?_ | refine AWp.d1 (id := 7) (.take 0 (.take 1 (.take 2 (.take 3 (.take 4 (.take 5 (.take 6 (.done)))))))) (by kernel_rfl) ?_) | (refine AD.go ?_; first | refine AD.d1 ?_ | refine AD.d2 ?_ | refine AD.d3 ?_ | refine AD.d0 ?_ | refine AD.d4 ?_ | refine AD.d5 ?_ | refine AD.d6 ?_ | refine AD.d7 ?_ | refine AD.d8 ?_ | refine AD.d9 ?_ | refine AD.e9 ?_ | refine AD.two rfl rfl rfl ?_ ?_) | refine thenK.nn ?_ | refine thenK.x ?_ | refine thenK.r ?_ | refine blockK.nn ?_ | refine blockK.hit ?_ | refine blockK.m1 ?_ | refine blockK.r ?_ | refine endK.nn ?_ | refine effK.n1 ?_))
      refine ⟨⟨seen ++ [h.born], key, least⟩, ⟨?_, ?_⟩, left_lt hh hns, (by first | ((repeat (first | exact True.intro | refine ⟨rfl, ?_⟩)); done) | fail), Has.of⟩
      · intro h' hh' hb
        simp only [List.mem_append, List.mem_singleton] at hb
        rcases hb with hb | hb
        · exact hmin h' hh' hb
        · rw [born_inj hnd hh' hh hb]; simp only; omega
      · rcases hwho with ⟨_, h1⟩ | h1
        · omega
        · exact .inr h1
structure NxtSt where
  (seen : List Nat) (out : Option Int)
def outC : Option Int → List Value
  | none => [.int .i64 2, nilS, .int .u64 0, .int .i64 0]
  | some k => [.int .i64 0, nilS, .int .u64 k, .int .i64 0]
def nextV : Option Int → Value
  | none => resV 2 nilS 0 0
  | some k => resV 0 nilS k 0
theorem next_s {k b m clk : Nat} {d : DeclD} {ev : Value} {hs : List HEnt} {clock : Int} {o : OpD} {a : Option Addr} {n cap : Nat} (hv : o.val = .slice a n cap) (hborn : ∀ h ∈ hs, h.born < clk) (hnd : (hs.map HEnt.born).Nodup) (hd : d.buckets ≤ 1000000) (hkU : isU o.key) (hU : ∀ h ∈ hs, isU h.key) :
    ACalls (cx w0 B hB) 130 [.pointer (some ⟨k, 0, none⟩), o.v] (hashB k b m clock :: baseB b d ev :: entsM m clk hs)
      (fun v M' => v = nextV (nextF d (hs.map HEnt.key) o.flag o.key) ∧ M' = hashB k b m clock :: baseB b d ev :: entsM m clk hs) := by
  obtain ⟨ok, oy, ov, ofl, oc⟩ := o
  dsimp only at hv hkU ⊢
  subst hv
  refine ACalls.fn Try.func130 rfl rfl rfl rfl ?_
  (repeat (first | (refine AL.go ?_; first | refine AL.a1 ?_ | refine AL.a2 ?_ | refine AL.nil ?_ | refine AL.a3 ?_ | refine AL.a4 (fun _ => ?_) | refine AL.a5 (fun _ => ?_) | refine AL.a6 (fun _ => ?_) | refine AL.a7 (fun _ => ?_) | refine AL.a8 (fun _ _ _ _ => ?_) | refine AL.g1 ?_ | refine AL.g2 ?_ | refine AL.g3 ?_ | (refine AL.c2 (hx := rfl) (ha := rfl) (hc := none_s) (kk := ?_); refine AL.nm ?_)) | (refine AWp.go ?_; first | refine AWp.seq ?_ | refine AWp.region ?_ | refine AWp.block ?_ | refine AWp.skip ?_ | refine AWp.exit ?_ | refine AWp.ret ?_ | refine AWp.label ?_ | refine AWp.c1 ?_ | refine AWp.c2 ?_ | refine AWp.d1 (id := 5) (.take 0 (.take 1 (.take 2 (.take 3 (.take 4 (.take 5 (.take 6 (.take 7 (.take 8 (.take 9 (.take 10 (.take 11 (.take 12 (.take 13 (.take 14 (.take 15 (.take 16 (.done)))))))))))))))))) (by kernel_rfl) ?_ | refine AWp.d1 (id := 6) (.take 0 (.take 1 (.take 2 (.take 3 (.take 4 (.take 5 (.take 6 (.take 7 (.take 8 (.take 9 (.take 10 (.take 11 (.take 12 (.take 13 (.take 14 (.take 15 (.take 16 (.take 17 (.take 18 (.done)))))))))))))))))))) (by kernel_rfl) ?_) | (refine AD.go ?_; first | refine AD.d1 ?_ | refine AD.d2 ?_ | refine AD.d3 ?_ | refine AD.d0 ?_ | refine AD.d4 ?_ | refine AD.d5 ?_ | refine AD.d6 ?_ | refine AD.d7 ?_ | refine AD.d8 ?_ | refine AD.d9 ?_ | refine AD.e9 ?_ | refine AD.two rfl rfl rfl ?_ ?_) | refine thenK.nn ?_ | refine thenK.x ?_ | refine thenK.r ?_ | refine blockK.nn ?_ | refine blockK.hit ?_ | refine blockK.m1 ?_ | refine blockK.r ?_ | refine endK.nn ?_ | refine effK.n1 ?_))
  refine AL.range (k := 28) (e := 184) rfl rfl (by first | ((repeat (first | exact List.Mem.head _ | apply List.Mem.tail | apply List.mem_append_right)); done) | fail) (fun it => ?_)
  (repeat (first | (refine AL.go ?_; first | refine AL.a1 ?_ | refine AL.a2 ?_ | refine AL.nil ?_ | refine AL.a3 ?_ | refine AL.a4 (fun _ => ?_) | refine AL.a5 (fun _ => ?_) | refine AL.a6 (fun _ => ?_) | refine AL.a7 (fun _ => ?_) | refine AL.a8 (fun _ _ _ _ => ?_) | refine AL.g1 ?_ | refine AL.g2 ?_ | refine AL.g3 ?_) | (refine AWp.go ?_; first | refine AWp.seq ?_ | refine AWp.region ?_ | refine AWp.block ?_ | refine AWp.skip ?_ | refine AWp.exit ?_ | refine AWp.ret ?_ | refine AWp.label ?_ | refine AWp.c1 ?_ | refine AWp.c2 ?_ | refine AWp.d1 (id := 5) (.take 0 (.take 1 (.take 2 (.take 3 (.take 4 (.take 5 (.take 6 (.take 7 (.take 8 (.take 9 (.take 10 (.take 11 (.take 12 (.take 13 (.take 14 (.take 15 (.take 16 (.done)))))))))))))))))) (by kernel_rfl) ?_ | refine AWp.d1 (id := 6) (.take 0 (.take 1 (.take 2 (.take 3 (.take 4 (.take 5 (.take 6 (.take 7 (.take 8 (.take 9 (.take 10 (.take 11 (.take 12 (.take 13 (.take 14 (.take 15 (.take 16 (.take 17 (.take 18 (.done)))))))))))))))))))) (by kernel_rfl) ?_) | (refine AD.go ?_; first | refine AD.d1 ?_ | refine AD.d2 ?_ | refine AD.d3 ?_ | refine AD.d0 ?_ | refine AD.d4 ?_ | refine AD.d5 ?_ | refine AD.d6 ?_ | refine AD.d7 ?_ | refine AD.d8 ?_ | refine AD.d9 ?_ | refine AD.e9 ?_ | refine AD.two rfl rfl rfl ?_ ?_) | refine thenK.nn ?_ | refine thenK.x ?_ | refine thenK.r ?_ | refine blockK.nn ?_ | refine blockK.hit ?_ | refine blockK.m1 ?_ | refine blockK.r ?_ | refine endK.nn ?_ | refine effK.n1 ?_))
  rename_i ob rb qb
  refine AWp.loop (σ := NxtSt) (fun s => [(13, .pointer (some ⟨it, 0, none⟩)), (5, .pointer (some ⟨qb, 0, none⟩)), (4, .pointer (some ⟨rb, 0, none⟩)), (3, .pointer (some ⟨ob, 0, none⟩)), (0, .pointer (some ⟨k, 0, none⟩))])
    (fun s => (it, iterO m clk s.seen clk) :: (qb, .cells (outC s.out) 31) :: resB0 rb :: opB ob ⟨ok, oy, .slice a n cap, ofl, oc⟩ :: hashB k b m clock :: baseB b d ev :: entsM m clk hs)
    (fun s => (∀ h ∈ hs, h.born ∈ s.seen → behindF d ofl oy h.key = true → ∃ k, s.out = some k ∧ rank d k ≤ rank d h.key) ∧ (∀ k, s.out = some k → k ∈ hs.map HEnt.key ∧ behindF d ofl oy k = true)) (fun s => left hs s.seen) ⟨[], none⟩ ⟨by simp, by simp⟩ (by first | ((repeat (first | exact True.intro | refine ⟨rfl, ?_⟩)); done) | fail) Has.of ?_
  rintro ⟨seen, out⟩ ⟨hmin, hout⟩
  dsimp only at hmin hout ⊢
  (repeat (first | (refine AL.go ?_; first | refine AL.a1 ?_ | refine AL.a2 ?_ | refine AL.nil ?_ | refine AL.a3 ?_ | refine AL.a4 (fun _ => ?_) | refine AL.a5 (fun _ => ?_) | refine AL.a6 (fun _ => ?_) | refine AL.a7 (fun _ => ?_) | refine AL.a8 (fun _ _ _ _ => ?_) | refine AL.g1 ?_ | refine AL.g2 ?_ | refine AL.g3 ?_) | (refine AWp.go ?_; first | refine AWp.seq ?_ | refine AWp.region ?_ | refine AWp.block ?_ | refine AWp.skip ?_ | refine AWp.exit ?_ | refine AWp.ret ?_ | refine AWp.label ?_ | refine AWp.c1 ?_ | refine AWp.c2 ?_ | refine AWp.d1 (id := 5) (.take 0 (.take 1 (.take 2 (.take 3 (.take 4 (.take 5 (.take 6 (.take 7 (.take 8 (.take 9 (.take 10 (.take 11 (.take 12 (.take 13 (.take 14 (.take 15 (.take 16 (.done)))))))))))))))))) (by kernel_rfl) ?_ | refine AWp.d1 (id := 6) (.take 0 (.take 1 (.take 2 (.take 3 (.take 4 (.take 5 (.take 6 (.take 7 (.take 8 (.take 9 (.take 10 (.take 11 (.take 12 (.take 13 (.take 14 (.take 15 (.take 16 (.take 17 (.take 18 (.done)))))))))))))))))))) (by kernel_rfl) ?_) | (refine AD.go ?_; first | refine AD.d1 ?_ | refine AD.d2 ?_ | refine AD.d3 ?_ | refine AD.d0 ?_ | refine AD.d4 ?_ | refine AD.d5 ?_ | refine AD.d6 ?_ | refine AD.d7 ?_ | refine AD.d8 ?_ | refine AD.d9 ?_ | refine AD.e9 ?_ | refine AD.two rfl rfl rfl ?_ ?_) | refine thenK.nn ?_ | refine thenK.x ?_ | refine thenK.r ?_ | refine blockK.nn ?_ | refine blockK.hit ?_ | refine blockK.m1 ?_ | refine blockK.r ?_ | refine endK.nn ?_ | refine effK.n1 ?_))
  refine AL.next (l := hs.map HEnt.m) rfl rfl (by first | ((repeat (first | exact Pick.head _ | apply Pick.tail | apply Pick.app)); done) | fail) (by first | ((repeat (first | exact List.Mem.head _ | apply List.Mem.tail | apply List.mem_append_right)); done) | fail) (by intro x hx; obtain ⟨h, hh, rfl⟩ := List.mem_map.1 hx; exact hborn h hh) ?_ ?_
  · intro hall
    have hall' : ∀ h ∈ hs, h.born ∈ seen := fun h hh => hall _ (List.mem_map_of_mem hh)
    have hU' : ∀ j ∈ hs.map HEnt.key, isU j := by intro j hj; obtain ⟨h, hh, rfl⟩ := List.mem_map.1 hj; exact hU h hh
    have hkey : nextF d (hs.map HEnt.key) ofl oy = out := by
      cases out with
      | none =>
        refine nextF_none (fun j hj => ?_)
        obtain ⟨h, hh, rfl⟩ := List.mem_map.1 hj
        cases hb : behindF d ofl oy h.key with
        | false => rfl
        | true => obtain ⟨k, hk, _⟩ := hmin h hh (hall' h hh) hb; cases hk
      | some k0 =>
        obtain ⟨h1, h2⟩ := hout k0 rfl
        refine nextF_some hU' h1 h2 (fun j hj hb => ?_)
        obtain ⟨h, hh, rfl⟩ := List.mem_map.1 hj
        obtain ⟨k1, hk1, hle⟩ := hmin h hh (hall' h hh) hb
        cases hk1
        exact hle
    rw [hkey]
    cases out with
    | none =>
      (repeat (first | (refine AL.go ?_; first | refine AL.a1 ?_ | refine AL.a2 ?_ | refine AL.nil ?_ | refine AL.a3 ?_ | refine AL.a4 (fun _ => ?_) | refine AL.a5 (fun _ => ?_) | refine AL.a6 (fun _ => ?_) | refine AL.a7 (fun _ => ?_) | refine AL.a8 (fun _ _ _ _ => ?_) | refine AL.g1 ?_ | refine AL.g2 ?_ | refine AL.g3 ?_) | (refine AWp.go ?_; first | refine AWp.seq ?_ | refine AWp.region ?_ | refine AWp.block ?_ | refine AWp.skip ?_ | refine AWp.exit ?_ | refine AWp.ret ?_ | refine AWp.label ?_ | refine AWp.c1 ?_ | refine AWp.c2 ?_ | refine AWp.d1 (id := 5) (.take 0 (.take 1 (.take 2 (.take 3 (.take 4 (.take 5 (.take 6 (.take 7 (.take 8 (.take 9 (.take 10 (.take 11 (.take 12 (.take 13 (.take 14 (.take 15 (.take 16 (.done)))))))))))))))))) (by kernel_rfl) ?_ | refine AWp.d1 (id := 6) (.take 0 (.take 1 (.take 2 (.take 3 (.take 4 (.take 5 (.take 6 (.take 7 (.take 8 (.take 9 (.take 10 (.take 11 (.take 12 (.take 13 (.take 14 (.take 15 (.take 16 (.take 17 (.take 18 (.done)))))))))))))))))))) (by kernel_rfl) ?_) | (refine AD.go ?_; first | refine AD.d1 ?_ | refine AD.d2 ?_ | refine AD.d3 ?_ | refine AD.d0 ?_ | refine AD.d4 ?_ | refine AD.d5 ?_ | refine AD.d6 ?_ | refine AD.d7 ?_ | refine AD.d8 ?_ | refine AD.d9 ?_ | refine AD.e9 ?_ | refine AD.two rfl rfl rfl ?_ ?_) | refine thenK.nn ?_ | refine thenK.x ?_ | refine thenK.r ?_ | refine blockK.nn ?_ | refine blockK.hit ?_ | refine blockK.m1 ?_ | refine blockK.r ?_ | refine endK.nn ?_ | refine effK.n1 ?_))
      refine endK.go ?_; refine endK.r (RVals.one (RVal.cellN rfl rfl (by first | ((repeat (first | exact RdN.nil | exact (by first | exact Rd.own (by first | ((repeat (first | exact List.Mem.head _ | apply List.Mem.tail | apply List.mem_append_right)); done) | fail) rfl | assumption | exact Rd.mono (by assumption) (by first | (intro _ hh; (repeat (first | exact hh | apply List.mem_cons_of_mem | exact List.mem_append_left _ hh | apply List.mem_append_right)); done) | fail) | exact Rd.mono1 (by assumption) (by first | ((repeat (first | exact List.Mem.head _ | apply List.Mem.tail | apply List.mem_append_right)); done) | fail)) | apply RdN.cons)); done) | fail))) ⟨rfl, rfl⟩ (by (first | ((repeat' first | exact Split.refl _ | exact Split.nil _ | exact Split.left _ _ | apply Split.cons | apply Split.assoc | refine Split.nilA rfl ?_ | exact Pick.head _ | apply Pick.tail | apply Pick.app | apply Split.consL | apply Split.lone | exact PickL.head _ | exact PickL.here | apply PickL.tail | apply PickL.app); done) | fail))
    | some k0 =>
      (repeat (first | (refine AL.go ?_; first | refine AL.a1 ?_ | refine AL.a2 ?_ | refine AL.nil ?_ | refine AL.a3 ?_ | refine AL.a4 (fun _ => ?_) | refine AL.a5 (fun _ => ?_) | refine AL.a6 (fun _ => ?_) | refine AL.a7 (fun _ => ?_) | refine AL.a8 (fun _ _ _ _ => ?_) | refine AL.g1 ?_ | refine AL.g2 ?_ | refine AL.g3 ?_) | (refine AWp.go ?_; first | refine AWp.seq ?_ | refine AWp.region ?_ | refine AWp.block ?_ | refine AWp.skip ?_ | refine AWp.exit ?_ | refine AWp.ret ?_ | refine AWp.label ?_ | refine AWp.c1 ?_ | refine AWp.c2 ?_ | refine AWp.d1 (id := 5) (.take 0 (.take 1 (.take 2 (.take 3 (.take 4 (.take 5 (.take 6 (.take 7 (.take 8 (.take 9 (.take 10 (.take 11 (.take 12 (.take 13 (.take 14 (.take 15 (.take 16 (.done)))))))))))))))))) (by kernel_rfl) ?_ | refine AWp.d1 (id := 6) (.take 0 (.take 1 (.take 2 (.take 3 (.take 4 (.take 5 (.take 6 (.take 7 (.take 8 (.take 9 (.take 10 (.take 11 (.take 12 (.take 13 (.take 14 (.take 15 (.take 16 (.take 17 (.take 18 (.done)))))))))))))))))))) (by kernel_rfl) ?_) | (refine AD.go ?_; first | refine AD.d1 ?_ | refine AD.d2 ?_ | refine AD.d3 ?_ | refine AD.d0 ?_ | refine AD.d4 ?_ | refine AD.d5 ?_ | refine AD.d6 ?_ | refine AD.d7 ?_ | refine AD.d8 ?_ | refine AD.d9 ?_ | refine AD.e9 ?_ | refine AD.two rfl rfl rfl ?_ ?_) | refine thenK.nn ?_ | refine thenK.x ?_ | refine thenK.r ?_ | refine blockK.nn ?_ | refine blockK.hit ?_ | refine blockK.m1 ?_ | refine blockK.r ?_ | refine endK.nn ?_ | refine effK.n1 ?_))
      refine endK.go ?_; refine endK.r (RVals.one (RVal.cellN rfl rfl (by first | ((repeat (first | exact RdN.nil | exact (by first | exact Rd.own (by first | ((repeat (first | exact List.Mem.head _ | apply List.Mem.tail | apply List.mem_append_right)); done) | fail) rfl | assumption | exact Rd.mono (by assumption) (by first | (intro _ hh; (repeat (first | exact hh | apply List.mem_cons_of_mem | exact List.mem_append_left _ hh | apply List.mem_append_right)); done) | fail) | exact Rd.mono1 (by assumption) (by first | ((repeat (first | exact List.Mem.head _ | apply List.Mem.tail | apply List.mem_append_right)); done) | fail)) | apply RdN.cons)); done) | fail))) ⟨rfl, rfl⟩ (by (first | ((repeat' first | exact Split.refl _ | exact Split.nil _ | exact Split.left _ _ | apply Split.cons | apply Split.assoc | refine Split.nilA rfl ?_ | exact Pick.head _ | apply Pick.tail | apply Pick.app | apply Split.consL | apply Split.lone | exact PickL.head _ | exact PickL.here | apply PickL.tail | apply PickL.app); done) | fail))
  · intro y hy hns
    obtain ⟨h, hh, rfl⟩ := List.mem_map.1 hy
    have hyU := hU h hh
    have hmemk : h.key ∈ hs.map HEnt.key := List.mem_map_of_mem hh
    have hset : behindF d ofl oy h.key = true → (∀ k0, out = some k0 → rank d h.key ≤ rank d k0) →
        (∀ x ∈ hs, x.born ∈ seen ++ [h.born] → behindF d ofl oy x.key = true → ∃ k, some h.key = some k ∧ rank d k ≤ rank d x.key) ∧ (∀ k, some h.key = some k → k ∈ hs.map HEnt.key ∧ behindF d ofl oy k = true) := by
      intro hb ho
      refine ⟨fun x hx hbx hbe => ⟨h.key, rfl, ?_⟩, fun k hk => by cases hk; exact ⟨hmemk, hb⟩⟩
      simp only [List.mem_append, List.mem_singleton] at hbx
      rcases hbx with hbx | hbx
      · obtain ⟨k1, hk1, hle⟩ := hmin x hx hbx hbe
        have := ho k1 hk1; omega
      · rw [born_inj hnd hx hh hbx]; exact Int.le_refl _
    have hkeep : (behindF d ofl oy h.key = true → ∃ k, out = some k ∧ rank d k ≤ rank d h.key) →
        (∀ x ∈ hs, x.born ∈ seen ++ [h.born] → behindF d ofl oy x.key = true → ∃ k, out = some k ∧ rank d k ≤ rank d x.key) ∧ (∀ k, out = some k → k ∈ hs.map HEnt.key ∧ behindF d ofl oy k = true) := by
      intro ho
      refine ⟨fun x hx hbx hbe => ?_, hout⟩
      simp only [List.mem_append, List.mem_singleton] at hbx
      rcases hbx with hbx | hbx
      · exact hmin x hx hbx hbe
      · rw [born_inj hnd hx hh hbx] at hbe ⊢; exact ho hbe
    by_cases hfl : ofl = 1
    · have hbe : behindF d ofl oy h.key = true := by simp [behindF, hfl]
      cases out with
      | none =>
        (repeat (first | (refine AL.go ?_; first | refine AL.a1 ?_ | refine AL.a2 ?_ | refine AL.nil ?_ | refine AL.a3 ?_ | refine AL.a4 (fun _ => ?_) | refine AL.a5 (fun _ => ?_) | refine AL.a6 (fun _ => ?_) | refine AL.a7 (fun _ => ?_) | refine AL.a8 (fun _ _ _ _ => ?_) | refine AL.g1 ?_ | refine AL.g2 ?_ | refine AL.g3 ?_ | refine AL.a2 ?_ (PV.entry (y := h.m) rfl (by first | ((repeat (first | exact List.Mem.head _ | apply List.Mem.tail | apply List.mem_append_right)); done) | fail) (by first | ((repeat (first | exact List.Mem.head _ | apply List.Mem.tail | apply List.mem_append_right)); done) | fail) hy (nodup_born hnd))) | (refine AWp.go ?_; first | refine AWp.seq ?_ | refine AWp.region ?_ | refine AWp.block ?_ | refine AWp.skip ?_ | refine AWp.exit ?_ | refine AWp.ret ?_ | refine AWp.label ?_ | refine AWp.c1 ?_ | refine AWp.c2 ?_ | refine AWp.d1 (id := 5) (.take 0 (.take 1 (.take 2 (.take 3 (.take 4 (.take 5 (.take 6 (.take 7 (.take 8 (.take 9 (.take 10 (.take 11 (.take 12 (.take 13 (.take 14 (.take 15 (.take 16 (.done)))))))))))))))))) (by kernel_rfl) ?_ | refine AWp.d1 (id := 6) (.take 0 (.take 1 (.take 2 (.take 3 (.take 4 (.take 5 (.take 6 (.take 7 (.take 8 (.take 9 (.take 10 (.take 11 (.take 12 (.take 13 (.take 14 (.take 15 (.take 16 (.take 17 (.take 18 (.done)))))))))))))))))))) (by kernel_rfl) ?_) | (refine AD.go ?_; first | refine AD.d1 ?_ | refine AD.d2 ?_ | refine AD.d3 ?_ | refine AD.d0 ?_ | refine AD.d4 ?_ | refine AD.d5 ?_ | refine AD.d6 ?_ | refine AD.d7 ?_ | refine AD.d8 ?_ | refine AD.d9 ?_ | refine AD.e9 ?_ | refine AD.two rfl rfl rfl ?_ ?_) | refine thenK.nn ?_ | refine thenK.x ?_ | refine thenK.r ?_ | refine blockK.nn ?_ | refine blockK.hit ?_ | refine blockK.m1 ?_ | refine blockK.r ?_ | refine endK.nn ?_ | refine effK.n1 ?_))
        exact ⟨⟨seen ++ [h.born], some h.key⟩, hset hbe (by simp), left_lt hh hns, (by first | ((repeat (first | exact True.intro | refine ⟨rfl, ?_⟩)); done) | fail), Has.of⟩
      | some k0 =>
        have hk0 := hout k0 rfl
        have hk0U : isU k0 := by obtain ⟨x, hx, rfl⟩ := List.mem_map.1 hk0.1; exact hU x hx
        cases hah : aheadF d h.key k0 with
        | true =>
          (repeat (first | (refine AL.go ?_; first | refine AL.a1 ?_ | refine AL.a2 ?_ | refine AL.nil ?_ | refine AL.a3 ?_ | refine AL.a4 (fun _ => ?_) | refine AL.a5 (fun _ => ?_) | refine AL.a6 (fun _ => ?_) | refine AL.a7 (fun _ => ?_) | refine AL.a8 (fun _ _ _ _ => ?_) | refine AL.g1 ?_ | refine AL.g2 ?_ | refine AL.g3 ?_ | refine AL.a2 ?_ (PV.entry (y := h.m) rfl (by first | ((repeat (first | exact List.Mem.head _ | apply List.Mem.tail | apply List.mem_append_right)); done) | fail) (by first | ((repeat (first | exact List.Mem.head _ | apply List.Mem.tail | apply List.mem_append_right)); done) | fail) hy (nodup_born hnd)) | (refine AL.c2 (hx := rfl) (ha := rfl) (hc := (ahead_s hd hyU hk0U)) (kk := ?_); refine AL.nm ?_)) | (refine AWp.go ?_; first | refine AWp.seq ?_ | refine AWp.region ?_ | refine AWp.block ?_ | refine AWp.skip ?_ | refine AWp.exit ?_ | refine AWp.ret ?_ | refine AWp.label ?_ | refine AWp.c1 ?_ | refine AWp.c2 ?_ | refine AWp.d1 (id := 5) (.take 0 (.take 1 (.take 2 (.take 3 (.take 4 (.take 5 (.take 6 (.take 7 (.take 8 (.take 9 (.take 10 (.take 11 (.take 12 (.take 13 (.take 14 (.take 15 (.take 16 (.done)))))))))))))))))) (by kernel_rfl) ?_ | refine AWp.d1 (id := 6) (.take 0 (.take 1 (.take 2 (.take 3 (.take 4 (.take 5 (.take 6 (.take 7 (.take 8 (.take 9 (.take 10 (.take 11 (.take 12 (.take 13 (.take 14 (.take 15 (.take 16 (.take 17 (.take 18 (.done)))))))))))))))))))) (by kernel_rfl) ?_) | (refine AD.go ?_; first | refine AD.d1 ?_ | refine AD.d2 ?_ | refine AD.d3 ?_ | refine AD.d0 ?_ | refine AD.d4 ?_ | refine AD.d5 ?_ | refine AD.d6 ?_ | refine AD.d7 ?_ | refine AD.d8 ?_ | refine AD.d9 ?_ | refine AD.e9 ?_ | refine AD.two rfl rfl rfl ?_ ?_) | refine thenK.nn ?_ | refine thenK.x ?_ | refine thenK.r ?_ | refine blockK.nn ?_ | refine blockK.hit ?_ | refine blockK.m1 ?_ | refine blockK.r ?_ | refine endK.nn ?_ | refine effK.n1 ?_))
          exact ⟨⟨seen ++ [h.born], some h.key⟩, hset hbe (by intro k1 hk1; cases hk1; have := of_decide_eq_true hah; omega), left_lt hh hns, (by first | ((repeat (first | exact True.intro | refine ⟨rfl, ?_⟩)); done) | fail), Has.of⟩
        | false =>
          (repeat (first | (refine AL.go ?_; first | refine AL.a1 ?_ | refine AL.a2 ?_ | refine AL.nil ?_ | refine AL.a3 ?_ | refine AL.a4 (fun _ => ?_) | refine AL.a5 (fun _ => ?_) | refine AL.a6 (fun _ => ?_) | refine AL.a7 (fun _ => ?_) | refine AL.a8 (fun _ _ _ _ => ?_) | refine AL.g1 ?_ | refine AL.g2 ?_ | refine AL.g3 ?_ | refine AL.a2 ?_ (PV.entry (y := h.m) rfl (by first | ((repeat (first | exact List.Mem.head _ | apply List.Mem.tail | apply List.mem_append_right)); done) | fail) (by first | ((repeat (first | exact List.Mem.head _ | apply List.Mem.tail | apply List.mem_append_right)); done) | fail) hy (nodup_born hnd)) | (refine AL.c2 (hx := rfl) (ha := rfl) (hc := (ahead_s hd hyU hk0U)) (kk := ?_); refine AL.nm ?_)) | (refine AWp.go ?_; first | refine AWp.seq ?_ | refine AWp.region ?_ | refine AWp.block ?_ | refine AWp.skip ?_ | refine AWp.exit ?_ | refine AWp.ret ?_ | refine AWp.label ?_ | refine AWp.c1 ?_ | refine AWp.c2 ?_ | refine AWp.d1 (id := 5) (.take 0 (.take 1 (.take 2 (.take 3 (.take 4 (.take 5 (.take 6 (.take 7 (.take 8 (.take 9 (.take 10 (.take 11 (.take 12 (.take 13 (.take 14 (.take 15 (.take 16 (.done)))))))))))))))))) (by kernel_rfl) ?_ | refine AWp.d1 (id := 6) (.take 0 (.take 1 (.take 2 (.take 3 (.take 4 (.take 5 (.take 6 (.take 7 (.take 8 (.take 9 (.take 10 (.take 11 (.take 12 (.take 13 (.take 14 (.take 15 (.take 16 (.take 17 (.take 18 (.done)))))))))))))))))))) (by kernel_rfl) ?_) | (refine AD.go ?_; first | refine AD.d1 ?_ | refine AD.d2 ?_ | refine AD.d3 ?_ | refine AD.d0 ?_ | refine AD.d4 ?_ | refine AD.d5 ?_ | refine AD.d6 ?_ | refine AD.d7 ?_ | refine AD.d8 ?_ | refine AD.d9 ?_ | refine AD.e9 ?_ | refine AD.two rfl rfl rfl ?_ ?_) | refine thenK.nn ?_ | refine thenK.x ?_ | refine thenK.r ?_ | refine blockK.nn ?_ | refine blockK.hit ?_ | refine blockK.m1 ?_ | refine blockK.r ?_ | refine endK.nn ?_ | refine effK.n1 ?_))
          exact ⟨⟨seen ++ [h.born], some k0⟩, hkeep (fun _ => ⟨k0, rfl, by have := of_decide_eq_false hah; omega⟩), left_lt hh hns, (by first | ((repeat (first | exact True.intro | refine ⟨rfl, ?_⟩)); done) | fail), Has.of⟩
    · cases hak : aheadF d oy h.key with
      | false =>
        have hbe : behindF d ofl oy h.key = false := by simp [behindF, hfl, hak]
        cases out with
        | none =>
          (repeat (first | (refine AL.go ?_; first | refine AL.a1 ?_ | refine AL.a2 ?_ | refine AL.nil ?_ | refine AL.a3 ?_ | refine AL.a4 (fun _ => ?_) | refine AL.a5 (fun _ => ?_) | refine AL.a6 (fun _ => ?_) | refine AL.a7 (fun _ => ?_) | refine AL.a8 (fun _ _ _ _ => ?_) | refine AL.g1 ?_ | refine AL.g2 ?_ | refine AL.g3 ?_ | refine AL.a2 ?_ (PV.entry (y := h.m) rfl (by first | ((repeat (first | exact List.Mem.head _ | apply List.Mem.tail | apply List.mem_append_right)); done) | fail) (by first | ((repeat (first | exact List.Mem.head _ | apply List.Mem.tail | apply List.mem_append_right)); done) | fail) hy (nodup_born hnd)) | (refine AL.c2 (hx := rfl) (ha := rfl) (hc := (ahead_s hd hkU hyU)) (kk := ?_); refine AL.nm ?_)) | (refine AWp.go ?_; first | refine AWp.seq ?_ | refine AWp.region ?_ | refine AWp.block ?_ | refine AWp.skip ?_ | refine AWp.exit ?_ | refine AWp.ret ?_ | refine AWp.label ?_ | refine AWp.c1 ?_ | refine AWp.c2 ?_ | refine AWp.d1 (id := 5) (.take 0 (.take 1 (.take 2 (.take 3 (.take 4 (.take 5 (.take 6 (.take 7 (.take 8 (.take 9 (.take 10 (.take 11 (.take 12 (.take 13 (.take 14 (.take 15 (.take 16 (.done)))))))))))))))))) (by kernel_rfl) ?_ | refine AWp.d1 (id := 6) (.take 0 (.take 1 (.take 2 (.take 3 (.take 4 (.take 5 (.take 6 (.take 7 (.take 8 (.take 9 (.take 10 (.take 11 (.take 12 (.take 13 (.take 14 (.take 15 (.take 16 (.take 17 (.take 18 (.done)))))))))))))))))))) (by kernel_rfl) ?_) | (refine AD.go ?_; first | refine AD.d1 ?_ | refine AD.d2 ?_ | refine AD.d3 ?_ | refine AD.d0 ?_ | refine AD.d4 ?_ | refine AD.d5 ?_ | refine AD.d6 ?_ | refine AD.d7 ?_ | refine AD.d8 ?_ | refine AD.d9 ?_ | refine AD.e9 ?_ | refine AD.two rfl rfl rfl ?_ ?_) | refine thenK.nn ?_ | refine thenK.x ?_ | refine thenK.r ?_ | refine blockK.nn ?_ | refine blockK.hit ?_ | refine blockK.m1 ?_ | refine blockK.r ?_ | refine endK.nn ?_ | refine effK.n1 ?_))
          exact ⟨⟨seen ++ [h.born], none⟩, hkeep (fun hc => by rw [hbe] at hc; cases hc), left_lt hh hns, (by first | ((repeat (first | exact True.intro | refine ⟨rfl, ?_⟩)); done) | fail), Has.of⟩
        | some k0 =>
          (repeat (first | (refine AL.go ?_; first | refine AL.a1 ?_ | refine AL.a2 ?_ | refine AL.nil ?_ | refine AL.a3 ?_ | refine AL.a4 (fun _ => ?_) | refine AL.a5 (fun _ => ?_) | refine AL.a6 (fun _ => ?_) | refine AL.a7 (fun _ => ?_) | refine AL.a8 (fun _ _ _ _ => ?_) | refine AL.g1 ?_ | refine AL.g2 ?_ | refine AL.g3 ?_ | refine AL.a2 ?_ (PV.entry (y := h.m) rfl (by first | ((repeat (first | exact List.Mem.head _ | apply List.Mem.tail | apply List.mem_append_right)); done) | fail) (by first | ((repeat (first | exact List.Mem.head _ | apply List.Mem.tail | apply List.mem_append_right)); done) | fail) hy (nodup_born hnd)) | (refine AL.c2 (hx := rfl) (ha := rfl) (hc := (ahead_s hd hkU hyU)) (kk := ?_); refine AL.nm ?_)) | (refine AWp.go ?_; first | refine AWp.seq ?_ | refine AWp.region ?_ | refine AWp.block ?_ | refine AWp.skip ?_ | refine AWp.exit ?_ | refine AWp.ret ?_ | refine AWp.label ?_ | refine AWp.c1 ?_ | refine AWp.c2 ?_ | refine AWp.d1 (id := 5) (.take 0 (.take 1 (.take 2 (.take 3 (.take 4 (.take 5 (.take 6 (.take 7 (.take 8 (.take 9 (.take 10 (.take 11 (.take 12 (.take 13 (.take 14 (.take 15 (.take 16 (.done)))))))))))))))))) (by kernel_rfl) ?_ | refine AWp.d1 (id := 6) (.take 0 (.take 1 (.take 2 (.take 3 (.take 4 (.take 5 (.take 6 (.take 7 (.take 8 (.take 9 (.take 10 (.take 11 (.take 12 (.take 13 (.take 14 (.take 15 (.take 16 (.take 17 (.take 18 (.done)))))))))))))))))))) (by kernel_rfl) ?_) | (refine AD.go ?_; first | refine AD.d1 ?_ | refine AD.d2 ?_ | refine AD.d3 ?_ | refine AD.d0 ?_ | refine AD.d4 ?_ | refine AD.d5 ?_ | refine AD.d6 ?_ | refine AD.d7 ?_ | refine AD.d8 ?_ | refine AD.d9 ?_ | refine AD.e9 ?_ | refine AD.two rfl rfl rfl ?_ ?_) | refine thenK.nn ?_ | refine thenK.x ?_ | refine thenK.r ?_ | refine blockK.nn ?_ | refine blockK.hit ?_ | refine blockK.m1 ?_ | refine blockK.r ?_ | refine endK.nn ?_ | refine effK.n1 ?_))
          exact ⟨⟨seen ++ [h.born], some k0⟩, hkeep (fun hc => by rw [hbe] at hc; cases hc), left_lt hh hns, (by first | ((repeat (first | exact True.intro | refine ⟨rfl, ?_⟩)); done) | fail), Has.of⟩
      | true =>
        have hbe : behindF d ofl oy h.key = true := by simp [behindF, hak]
        cases out with
        | none =>
          (repeat (first | (refine AL.go ?_; first | refine AL.a1 ?_ | refine AL.a2 ?_ | refine AL.nil ?_ | refine AL.a3 ?_ | refine AL.a4 (fun _ => ?_) | refine AL.a5 (fun _ => ?_) | refine AL.a6 (fun _ => ?_) | refine AL.a7 (fun _ => ?_) | refine AL.a8 (fun _ _ _ _ => ?_) | refine AL.g1 ?_ | refine AL.g2 ?_ | refine AL.g3 ?_ | refine AL.a2 ?_ (PV.entry (y := h.m) rfl (by first | ((repeat (first | exact List.Mem.head _ | apply List.Mem.tail | apply List.mem_append_right)); done) | fail) (by first | ((repeat (first | exact List.Mem.head _ | apply List.Mem.tail | apply List.mem_append_right)); done) | fail) hy (nodup_born hnd)) | (refine AL.c2 (hx := rfl) (ha := rfl) (hc := (ahead_s hd hkU hyU)) (kk := ?_); refine AL.nm ?_)) | (refine AWp.go ?_; first | refine AWp.seq ?_ | refine AWp.region ?_ | refine AWp.block ?_ | refine AWp.skip ?_ | refine AWp.exit ?_ | refine AWp.ret ?_ | refine AWp.label ?_ | refine AWp.c1 ?_ | refine AWp.c2 ?_ | refine AWp.d1 (id := 5) (.take 0 (.take 1 (.take 2 (.take 3 (.take 4 (.take 5 (.take 6 (.take 7 (.take 8 (.take 9 (.take 10 (.take 11 (.take 12 (.take 13 (.take 14 (.take 15 (.take 16 (.done)))))))))))))))))) (by kernel_rfl) ?_ | refine AWp.d1 (id := 6) (.take 0 (.take 1 (.take 2 (.take 3 (.take 4 (.take 5 (.take 6 (.take 7 (.take 8 (.take 9 (.take 10 (.take 11 (.take 12 (.take 13 (.take 14 (.take 15 (.take 16 (.take 17 (.take 18 (.done)))))))))))))))))))) (by kernel_rfl) ?_) | (refine AD.go ?_; first | refine AD.d1 ?_ | refine AD.d2 ?_ | refine AD.d3 ?_ | refine AD.d0 ?_ | refine AD.d4 ?_ | refine AD.d5 ?_ | refine AD.d6 ?_ | refine AD.d7 ?_ | refine AD.d8 ?_ | refine AD.d9 ?_ | refine AD.e9 ?_ | refine AD.two rfl rfl rfl ?_ ?_) | refine thenK.nn ?_ | refine thenK.x ?_ | refine thenK.r ?_ | refine blockK.nn ?_ | refine blockK.hit ?_ | refine blockK.m1 ?_ | refine blockK.r ?_ | refine endK.nn ?_ | refine effK.n1 ?_))
          exact ⟨⟨seen ++ [h.born], some h.key⟩, hset hbe (by simp), left_lt hh hns, (by first | ((repeat (first | exact True.intro | refine ⟨rfl, ?_⟩)); done) | fail), Has.of⟩
        | some k0 =>
          have hk0 := hout k0 rfl
          have hk0U : isU k0 := by obtain ⟨x, hx, rfl⟩ := List.mem_map.1 hk0.1; exact hU x hx
          cases hah : aheadF d h.key k0 with
          | true =>
            (repeat (first | (refine AL.go ?_; first | refine AL.a1 ?_ | refine AL.a2 ?_ | refine AL.nil ?_ | refine AL.a3 ?_ | refine AL.a4 (fun _ => ?_) | refine AL.a5 (fun _ => ?_) | refine AL.a6 (fun _ => ?_) | refine AL.a7 (fun _ => ?_) | refine AL.a8 (fun _ _ _ _ => ?_) | refine AL.g1 ?_ | refine AL.g2 ?_ | refine AL.g3 ?_ | refine AL.a2 ?_ (PV.entry (y := h.m) rfl (by first | ((repeat (first | exact List.Mem.head _ | apply List.Mem.tail | apply List.mem_append_right)); done) | fail) (by first | ((repeat (first | exact List.Mem.head _ | apply List.Mem.tail | apply List.mem_append_right)); done) | fail) hy (nodup_born hnd)) | (refine AL.c2 (hx := rfl) (ha := rfl) (hc := (ahead_s hd hkU hyU)) (kk := ?_); refine AL.nm ?_) | (refine AL.c2 (hx := rfl) (ha := rfl) (hc := (ahead_s hd hyU hk0U)) (kk := ?_); refine AL.nm ?_)) | (refine AWp.go ?_; first | refine AWp.seq ?_ | refine AWp.region ?_ | refine AWp.block ?_ | refine AWp.skip ?_ | refine AWp.exit ?_ | refine AWp.ret ?_ | refine AWp.label ?_ | refine AWp.c1 ?_ | refine AWp.c2 ?_ | refine AWp.d1 (id := 5) (.take 0 (.take 1 (.take 2 (.take 3 (.take 4 (.take 5 (.take 6 (.take 7 (.take 8 (.take 9 (.take 10 (.take 11 (.take 12 (.take 13 (.take 14 (.take 15 (.take 16 (.done)))))))))))))))))) (by kernel_rfl) ?_ | refine AWp.d1 (id := 6) (.take 0 (.take 1 (.take 2 (.take 3 (.take 4 (.take 5 (.take 6 (.take 7 (.take 8 (.take 9 (.take 10 (.take 11 (.take 12 (.take 13 (.take 14 (.take 15 (.take 16 (.take 17 (.take 18 (.done)))))))))))))))))))) (by kernel_rfl) ?_) | (refine AD.go ?_; first | refine AD.d1 ?_ | refine AD.d2 ?_ | refine AD.d3 ?_ | refine AD.d0 ?_ | refine AD.d4 ?_ | refine AD.d5 ?_ | refine AD.d6 ?_ | refine AD.d7 ?_ | refine AD.d8 ?_ | refine AD.d9 ?_ | refine AD.e9 ?_ | refine AD.two rfl rfl rfl ?_ ?_) | refine thenK.nn ?_ | refine thenK.x ?_ | refine thenK.r ?_ | refine blockK.nn ?_ | refine blockK.hit ?_ | refine blockK.m1 ?_ | refine blockK.r ?_ | refine endK.nn ?_ | refine effK.n1 ?_))
            exact ⟨⟨seen ++ [h.born], some h.key⟩, hset hbe (by intro k1 hk1; cases hk1; have := of_decide_eq_true hah; omega), left_lt hh hns, (by first | ((repeat (first | exact True.intro | refine ⟨rfl, ?_⟩)); done) | fail), Has.of⟩
          | false =>
            (repeat (first | (refine AL.go ?_; first | refine AL.a1 ?_ | refine AL.a2 ?_ | refine AL.nil ?_ | refine AL.a3 ?_ | refine AL.a4 (fun _ => ?_) | refine AL.a5 (fun _ => ?_) | refine AL.a6 (fun _ => ?_) | refine AL.a7 (fun _ => ?_) | refine AL.a8 (fun _ _ _ _ => ?_) | refine AL.g1 ?_ | refine AL.g2 ?_ | refine AL.g3 ?_ | refine AL.a2 ?_ (PV.entry (y := h.m) rfl (by first | ((repeat (first | exact List.Mem.head _ | apply List.Mem.tail | apply List.mem_append_right)); done) | fail) (by first | ((repeat (first | exact List.Mem.head _ | apply List.Mem.tail | apply List.mem_append_right)); done) | fail) hy (nodup_born hnd)) | (refine AL.c2 (hx := rfl) (ha := rfl) (hc := (ahead_s hd hkU hyU)) (kk := ?_); refine AL.nm ?_) | (refine AL.c2 (hx := rfl) (ha := rfl) (hc := (ahead_s hd hyU hk0U)) (kk := ?_); refine AL.nm ?_)) | (refine AWp.go ?_; first | refine AWp.seq ?_ | refine AWp.region ?_ | refine AWp.block ?_ | refine AWp.skip ?_ | refine AWp.exit ?_ | refine AWp.ret ?_ | refine AWp.label ?_ | refine AWp.c1 ?_ | refine AWp.c2 ?_ | refine AWp.d1 (id := 5) (.take 0 (.take 1 (.take 2 (.take 3 (.take 4 (.take 5 (.take 6 (.take 7 (.take 8 (.take 9 (.take 10 (.take 11 (.take 12 (.take 13 (.take 14 (.take 15 (.take 16 (.done)))))))))))))))))) (by kernel_rfl) ?_ | refine AWp.d1 (id := 6) (.take 0 (.take 1 (.take 2 (.take 3 (.take 4 (.take 5 (.take 6 (.take 7 (.take 8 (.take 9 (.take 10 (.take 11 (.take 12 (.take 13 (.take 14 (.take 15 (.take 16 (.take 17 (.take 18 (.done)))))))))))))))))))) (by kernel_rfl) ?_) | (refine AD.go ?_; first | refine AD.d1 ?_ | refine AD.d2 ?_ | refine AD.d3 ?_ | refine AD.d0 ?_ | refine AD.d4 ?_ | refine AD.d5 ?_ | refine AD.d6 ?_ | refine AD.d7 ?_ | refine AD.d8 ?_ | refine AD.d9 ?_ | refine AD.e9 ?_ | refine AD.two rfl rfl rfl ?_ ?_) | refine thenK.nn ?_ | refine thenK.x ?_ | refine thenK.r ?_ | refine blockK.nn ?_ | refine blockK.hit ?_ | refine blockK.m1 ?_ | refine blockK.r ?_ | refine endK.nn ?_ | refine effK.n1 ?_))
            exact ⟨⟨seen ++ [h.born], some k0⟩, hkeep (fun _ => ⟨k0, rfl, by have := of_decide_eq_false hah; omega⟩), left_lt hh hns, (by first | ((repeat (first | exact True.intro | refine ⟨rfl, ?_⟩)); done) | fail), Has.of⟩
end Go.Proofs.Ytbchkofadjeblaa
