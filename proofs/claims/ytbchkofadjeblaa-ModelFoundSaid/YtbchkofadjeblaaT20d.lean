import Derived.Test.YtbchkofadjeblaaT20b
set_option linter.unusedVariables false
set_option linter.unusedSimpArgs false
namespace Go.Proofs.Ytbchkofadjeblaa
open Go Go.SL
attribute [local irreducible] AL AWp thenK blockK endK ACalls RVals AD effK PVs PU PV planOk noP
set_option maxRecDepth 100000
set_option maxHeartbeats 4000000
variable {w0 : World} {B : Nat} {hB : B ≤ w0.heap.size}

theorem keysU {d : DeclD} {s : HS} (h : InvH d s) : ∀ j ∈ s.keys, isU j := fun j hj => by obtain ⟨e, he, rfl⟩ := mem_keys.1 hj; exact h.keyU e he
theorem found_p3 {Z M4 : Hp} {x b k m hq eq i n' cap b1 o1 tq nq : Nat} {which entries : Int} {s3 : HS} {has3 : List Int} {el3 : List Bool} {d : DeclD} (F : Frz (cx w0 B hB) Z x 1 d 1 (.iface hashT (.pointer (some ⟨k, 0, none⟩))) b) (hok : okH d)
    (hM4 : HashAt k b m d s3 M4) (hI3 : InvH d s3) (hclk3 : s3.clock < 900000) (hks3 : ∀ j ∈ s3.keys, j < 100) :
    AWp (cx w0 B hB) Try.f3.ntmps (fnP [.r, .r, .r, .r, .r, .r, .r, .r, .r, .l]) ((17, .pointer (some ⟨nq, 0, none⟩)) :: (16, .slice (some ⟨tq, 0, none⟩) 100 100) :: (15, .int .i64 0) :: fnT which entries i x hq eq b1 o1 n' cap)
      ((nq, .cells [.int .i64 (nextR (nextF d s3.keys 1 0)).no, nilS, .int .u64 (nextR (nextF d s3.keys 1 0)).key, .int .i64 (nextR (nextF d s3.keys 1 0)).elem] resT) :: (tq, .cells (bL (List.replicate 100 false)) boolT) :: fnM hq eq Z ⟨i, s3, has3, el3, M4⟩)
      (goesOn (σ := NxSt) (fun _ => (16, .slice (some ⟨tq, 0, none⟩) 100 100) :: (15, .int .i64 0) :: fnT which entries i x hq eq b1 o1 n' cap) (fun s => (tq, .cells (bL s.th) boolT) :: fnM hq eq Z ⟨i, s3, has3, el3, s.M⟩) (fun s => (∀ j : Nat, j < 100 → s.th[j]? = some (decide ((j : Int) ∈ s3.keys))) ∧ HashAt k b m d s3 s.M)) := by
  have hk45 := hok.kind
  have hde1 := hok.e1
  have hde2 := hok.e2
  have hkU3 := keysU hI3
  have hkl3 : s3.keys.length ≤ 64 := by have := hI3.cap; simp only [HS.keys, List.length_map]; omega
  (repeat (first | (refine AL.go ?_; first | refine AL.a1 ?_ | refine AL.a2 ?_ | refine AL.nil ?_ | refine AL.a3 ?_ | refine AL.a4 (fun _ => ?_) | refine AL.a5 (fun _ => ?_) | refine AL.a6 (fun _ => ?_) | refine AL.a7 (fun _ => ?_) | refine AL.a8 (fun _ _ _ _ => ?_) | refine AL.g1 ?_ | refine AL.g2 ?_ | refine AL.g3 ?_) | (refine AWp.go ?_; first | refine AWp.seq ?_ | refine AWp.region ?_ | refine AWp.block ?_ | refine AWp.skip ?_ | refine AWp.exit ?_ | refine AWp.ret ?_ | refine AWp.label ?_ | refine AWp.c1 ?_ | refine AWp.c2 ?_ | refine AWp.d1 (id := 25) (.take 0 (.take 1 (.take 2 (.take 6 (.take 7 (.take 8 (.take 3 (.take 4 (.take 5 (.take 9 (.take 10 (.take 11 (.take 12 (.take 13 (.take 14 (.take 15 (.take 16 (.take 17 (.done))))))))))))))))))) (by kernel_rfl) ?_ (by first | ((repeat (first | exact noP.endK | exact noP.goesOn | apply noP.thenK | apply noP.blockK)); done) | fail)) | (refine AD.go ?_; first | refine AD.d1 ?_ | refine AD.d2 ?_ | refine AD.d3 ?_ | refine AD.d0 ?_ | refine AD.d4 ?_ | refine AD.d5 ?_ | refine AD.d6 ?_ | refine AD.d7 ?_ | refine AD.d8 ?_ | refine AD.d9 ?_ | refine AD.e9 ?_ | refine AD.two rfl rfl rfl ?_ ?_) | refine thenK.nn ?_ | refine thenK.x ?_ | refine thenK.r ?_ | refine blockK.nn ?_ | refine blockK.hit ?_ | refine blockK.m1 ?_ | refine blockK.r ?_ | refine endK.nn ?_ | refine effK.n1 ?_))
  refine AWp.loop (σ := NxSt) (fun s => (18, .int .i64 s.c) :: (17, .pointer (some ⟨nq, 0, none⟩)) :: (16, .slice (some ⟨tq, 0, none⟩) 100 100) :: (15, .int .i64 0) :: fnT which entries i x hq eq b1 o1 n' cap)
    (fun s => (nq, .cells [.int .i64 (nextR s.o).no, nilS, .int .u64 (nextR s.o).key, .int .i64 (nextR s.o).elem] resT) :: (tq, .cells (bL s.th) boolT) :: fnM hq eq Z ⟨i, s3, has3, el3, s.M⟩)
    (fun s => s.c + remN d s3.keys s.o ≤ 64 ∧ (∀ y, s.o = some y → y ∈ s3.keys) ∧ (∀ j : Nat, j < 100 → s.th[j]? = some (decide ((j : Int) ∈ s3.keys) && bef d s.o j)) ∧ s.th.length = 100 ∧ HashAt k b m d s3 s.M) (fun s => 64 - s.c)
    ⟨0, nextF d s3.keys 1 0, List.replicate 100 false, M4⟩ ⟨?_, fun y hy => nextF_mem hy, ?_, List.length_replicate, hM4⟩ (by first | ((repeat (first | exact True.intro | refine ⟨rfl, ?_⟩)); done) | fail) Has.of ?_
  · have := remN_le d s3.keys (nextF d s3.keys 1 0)
    simp only; omega
  · intro j hj
    dsimp only
    rw [List.getElem?_replicate, if_pos hj]
    refine congrArg some ?_
    by_cases hm : (j : Int) ∈ s3.keys
    · rw [bef_first hm]; simp
    · simp [hm]
  rintro ⟨c, o, th, M5⟩ ⟨hc, hoi, hth, htl, hM5⟩
  dsimp only at hc hoi hth htl hM5 ⊢
  cases o with
  | some y =>
    have hyk := hoi y rfl
    have hyU := hkU3 y hyk
    have hy100 := hks3 y hyk
    obtain ⟨yj, rfl⟩ : ∃ yj : Nat, y = (yj : Int) := ⟨y.toNat, by have := hyU.1; omega⟩
    have hrem := remN_next (d := d) hyk
    dsimp only [nextR]
    (repeat (first | (refine AL.go ?_; first | refine AL.a1 ?_ | refine AL.a2 ?_ | refine AL.nil ?_ | refine AL.a3 ?_ | refine AL.a4 (fun _ => ?_) | refine AL.a5 (fun _ => ?_) | refine AL.a6 (fun _ => ?_) | refine AL.a7 (fun _ => ?_) | refine AL.a8 (fun _ _ _ _ => ?_) | refine AL.g1 ?_ | refine AL.g2 ?_ | refine AL.g3 ?_) | (refine AWp.go ?_; first | refine AWp.seq ?_ | refine AWp.region ?_ | refine AWp.block ?_ | refine AWp.skip ?_ | refine AWp.exit ?_ | refine AWp.ret ?_ | refine AWp.label ?_ | refine AWp.c1 ?_ | refine AWp.c2 ?_ | refine AWp.d1 (id := 25) (.take 0 (.take 1 (.take 2 (.take 6 (.take 7 (.take 8 (.take 3 (.take 4 (.take 5 (.take 9 (.take 10 (.take 11 (.take 12 (.take 13 (.take 14 (.take 15 (.take 16 (.take 17 (.done))))))))))))))))))) (by kernel_rfl) ?_ (by first | ((repeat (first | exact noP.endK | exact noP.goesOn | apply noP.thenK | apply noP.blockK)); done) | fail)) | (refine AD.go ?_; first | refine AD.d1 ?_ | refine AD.d2 ?_ | refine AD.d3 ?_ | refine AD.d0 ?_ | refine AD.d4 ?_ | refine AD.d5 ?_ | refine AD.d6 ?_ | refine AD.d7 ?_ | refine AD.d8 ?_ | refine AD.d9 ?_ | refine AD.e9 ?_ | refine AD.two rfl rfl rfl ?_ ?_) | refine thenK.nn ?_ | refine thenK.x ?_ | refine thenK.r ?_ | refine blockK.nn ?_ | refine blockK.hit ?_ | refine blockK.m1 ?_ | refine blockK.r ?_ | refine endK.nn ?_ | refine effK.n1 ?_))
    refine AL.a3 (hu := (by first | ((repeat (first | exact Upd.cellJ (by simp only [List.length_map, List.length_set, List.length_replicate]; omega) | apply Upd.tail | apply Upd.app)); done) | fail)) ?_
    rw [bL_set]
    (repeat (first | (refine AL.go ?_; first | refine AL.a1 ?_ | refine AL.a2 ?_ | refine AL.nil ?_ | refine AL.a3 ?_ | refine AL.a4 (fun _ => ?_) | refine AL.a5 (fun _ => ?_) | refine AL.a6 (fun _ => ?_) | refine AL.a7 (fun _ => ?_) | refine AL.a8 (fun _ _ _ _ => ?_) | refine AL.g1 ?_ | refine AL.g2 ?_ | refine AL.g3 ?_) | (refine AWp.go ?_; first | refine AWp.seq ?_ | refine AWp.region ?_ | refine AWp.block ?_ | refine AWp.skip ?_ | refine AWp.exit ?_ | refine AWp.ret ?_ | refine AWp.label ?_ | refine AWp.c1 ?_ | refine AWp.c2 ?_ | refine AWp.d1 (id := 25) (.take 0 (.take 1 (.take 2 (.take 6 (.take 7 (.take 8 (.take 3 (.take 4 (.take 5 (.take 9 (.take 10 (.take 11 (.take 12 (.take 13 (.take 14 (.take 15 (.take 16 (.take 17 (.done))))))))))))))))))) (by kernel_rfl) ?_ (by first | ((repeat (first | exact noP.endK | exact noP.goesOn | apply noP.thenK | apply noP.blockK)); done) | fail)) | (refine AD.go ?_; first | refine AD.d1 ?_ | refine AD.d2 ?_ | refine AD.d3 ?_ | refine AD.d0 ?_ | refine AD.d4 ?_ | refine AD.d5 ?_ | refine AD.d6 ?_ | refine AD.d7 ?_ | refine AD.d8 ?_ | refine AD.d9 ?_ | refine AD.e9 ?_ | refine AD.two rfl rfl rfl ?_ ?_) | refine thenK.nn ?_ | refine thenK.x ?_ | refine thenK.r ?_ | refine blockK.nn ?_ | refine blockK.hit ?_ | refine blockK.m1 ?_ | refine blockK.r ?_ | refine endK.nn ?_ | refine effK.n1 ?_))
    refine AL.c1 (hx := rfl) (ha := rfl) (hc := doh_get (o := ⟨4, yj, nilS, 0, 0⟩) F hM5 hI3 hok (by omega) rfl hyU (by simp) (right_h hk45 hok.w (by simp))) (kk := ?_)
    rintro _ _ ⟨R6, M6, hR6, hM6, rfl⟩
    rw [show hdoF d _ _ _ _ _ = _ from hdo_next d s3 yj 0 0] at hR6 hM6
    dsimp only at hR6 hM6
    obtain ⟨rfl, rfl⟩ := resAt_none hR6 (nextR_val _)
    refine AL.nm ?_
    (repeat (first | (refine AL.go ?_; first | refine AL.a1 ?_ | refine AL.a2 ?_ | refine AL.nil ?_ | refine AL.a3 ?_ | refine AL.a4 (fun _ => ?_) | refine AL.a5 (fun _ => ?_) | refine AL.a6 (fun _ => ?_) | refine AL.a7 (fun _ => ?_) | refine AL.a8 (fun _ _ _ _ => ?_) | refine AL.g1 ?_ | refine AL.g2 ?_ | refine AL.g3 ?_) | (refine AWp.go ?_; first | refine AWp.seq ?_ | refine AWp.region ?_ | refine AWp.block ?_ | refine AWp.skip ?_ | refine AWp.exit ?_ | refine AWp.ret ?_ | refine AWp.label ?_ | refine AWp.c1 ?_ | refine AWp.c2 ?_ | refine AWp.d1 (id := 25) (.take 0 (.take 1 (.take 2 (.take 6 (.take 7 (.take 8 (.take 3 (.take 4 (.take 5 (.take 9 (.take 10 (.take 11 (.take 12 (.take 13 (.take 14 (.take 15 (.take 16 (.take 17 (.done))))))))))))))))))) (by kernel_rfl) ?_ (by first | ((repeat (first | exact noP.endK | exact noP.goesOn | apply noP.thenK | apply noP.blockK)); done) | fail)) | (refine AD.go ?_; first | refine AD.d1 ?_ | refine AD.d2 ?_ | refine AD.d3 ?_ | refine AD.d0 ?_ | refine AD.d4 ?_ | refine AD.d5 ?_ | refine AD.d6 ?_ | refine AD.d7 ?_ | refine AD.d8 ?_ | refine AD.d9 ?_ | refine AD.e9 ?_ | refine AD.two rfl rfl rfl ?_ ?_) | refine thenK.nn ?_ | refine thenK.x ?_ | refine thenK.r ?_ | refine blockK.nn ?_ | refine blockK.hit ?_ | refine blockK.m1 ?_ | refine blockK.r ?_ | refine endK.nn ?_ | refine effK.n1 ?_))
    refine ⟨⟨c + 1, nextF d s3.keys 0 yj, th.set (yj : Int).toNat true, M6⟩, ⟨by dsimp only; omega, fun z hz => nextF_mem hz, ?_, by simp [htl], hM6⟩, by dsimp only; omega, (by first | ((repeat (first | exact True.intro | refine ⟨rfl, ?_⟩)); done) | fail), Has.of⟩
    intro j hj
    dsimp only
    by_cases hm : (j : Int) ∈ s3.keys
    · rw [bef_next hkU3 hyk hm]
      by_cases hjy : j = yj
      · subst hjy
        rw [Int.toNat_natCast, List.getElem?_set_self (by omega)]
        simp [hm]
      · rw [Int.toNat_natCast, List.getElem?_set_ne (by omega), hth j hj]
        have : ¬ ((j : Int) = yj) := by omega
        simp [this]
    · have hjy : j ≠ yj := fun h => hm (h ▸ hyk)
      rw [Int.toNat_natCast, List.getElem?_set_ne (by omega), hth j hj]
      simp [hm]
  | none =>
    have hth' : ∀ j : Nat, j < 100 → th[j]? = some (decide ((j : Int) ∈ s3.keys)) := fun j hj => by rw [hth j hj]; simp [bef]
    dsimp only [nextR]
    (repeat (first | (refine AL.go ?_; first | refine AL.a1 ?_ | refine AL.a2 ?_ | refine AL.nil ?_ | refine AL.a3 ?_ | refine AL.a4 (fun _ => ?_) | refine AL.a5 (fun _ => ?_) | refine AL.a6 (fun _ => ?_) | refine AL.a7 (fun _ => ?_) | refine AL.a8 (fun _ _ _ _ => ?_) | refine AL.g1 ?_ | refine AL.g2 ?_ | refine AL.g3 ?_) | (refine AWp.go ?_; first | refine AWp.seq ?_ | refine AWp.region ?_ | refine AWp.block ?_ | refine AWp.skip ?_ | refine AWp.exit ?_ | refine AWp.ret ?_ | refine AWp.label ?_ | refine AWp.c1 ?_ | refine AWp.c2 ?_ | refine AWp.d1 (id := 25) (.take 0 (.take 1 (.take 2 (.take 6 (.take 7 (.take 8 (.take 3 (.take 4 (.take 5 (.take 9 (.take 10 (.take 11 (.take 12 (.take 13 (.take 14 (.take 15 (.take 16 (.take 17 (.done))))))))))))))))))) (by kernel_rfl) ?_ (by first | ((repeat (first | exact noP.endK | exact noP.goesOn | apply noP.thenK | apply noP.blockK)); done) | fail)) | (refine AD.go ?_; first | refine AD.d1 ?_ | refine AD.d2 ?_ | refine AD.d3 ?_ | refine AD.d0 ?_ | refine AD.d4 ?_ | refine AD.d5 ?_ | refine AD.d6 ?_ | refine AD.d7 ?_ | refine AD.d8 ?_ | refine AD.d9 ?_ | refine AD.e9 ?_ | refine AD.two rfl rfl rfl ?_ ?_) | refine thenK.nn ?_ | refine thenK.x ?_ | refine thenK.r ?_ | refine blockK.nn ?_ | refine blockK.hit ?_ | refine blockK.m1 ?_ | refine blockK.r ?_ | refine endK.nn ?_ | refine effK.n1 ?_))
    exact Meet.of ⟨c, none, th, M5⟩ ⟨hth', hM5⟩ (by first | ((repeat (first | exact True.intro | refine ⟨rfl, ?_⟩)); done) | fail) Has.of
theorem found_p4 {Z M5 : Hp} {x hq eq i n' cap b1 o1 tq : Nat} {which entries : Int} {s3 : HS} {has3 : List Int} {th el3 : List Bool} {d : DeclD} (hok : okH d) (hwk : which.tmod 2 ≠ 0 ↔ d.kind = 5)
    (hA3 : Has100 (d.kind = 4) has3 s3) (hth' : ∀ j : Nat, j < 100 → th[j]? = some (decide ((j : Int) ∈ s3.keys))) :
    AWp (cx w0 B hB) Try.f3.ntmps (fnP [.r, .r, .r, .r, .r, .r, .r, .r, .r, .r, .l]) ((16, .slice (some ⟨tq, 0, none⟩) 100 100) :: (15, .int .i64 0) :: fnT which entries i x hq eq b1 o1 n' cap)
      ((tq, .cells (bL th) boolT) :: fnM hq eq Z ⟨i, s3, has3, el3, M5⟩)
      (goesOn (σ := CtSt) (fun s => (15, .int .i64 s.n) :: fnT which entries i x hq eq b1 o1 n' cap) (fun s => fnM hq eq Z ⟨i, s3, s.has, el3, M5⟩) (fun s => s.n ≤ s3.es.length ∧ Has100 True s.has s3)) := by
  have hk45 := hok.kind
  (repeat (first | (refine AL.go ?_; first | refine AL.a1 ?_ | refine AL.a2 ?_ | refine AL.nil ?_ | refine AL.a3 ?_ | refine AL.a4 (fun _ => ?_) | refine AL.a5 (fun _ => ?_) | refine AL.a6 (fun _ => ?_) | refine AL.a7 (fun _ => ?_) | refine AL.a8 (fun _ _ _ _ => ?_) | refine AL.g1 ?_ | refine AL.g2 ?_ | refine AL.g3 ?_) | (refine AWp.go ?_; first | refine AWp.seq ?_ | refine AWp.region ?_ | refine AWp.block ?_ | refine AWp.skip ?_ | refine AWp.exit ?_ | refine AWp.ret ?_ | refine AWp.label ?_ | refine AWp.c1 ?_ | refine AWp.c2 ?_ | refine AWp.d1 (id := 25) (.take 0 (.take 1 (.take 2 (.take 6 (.take 7 (.take 8 (.take 3 (.take 4 (.take 5 (.take 9 (.take 10 (.take 11 (.take 12 (.take 13 (.take 14 (.take 15 (.take 16 (.take 17 (.done))))))))))))))))))) (by kernel_rfl) ?_ (by first | ((repeat (first | exact noP.endK | exact noP.goesOn | apply noP.thenK | apply noP.blockK)); done) | fail)) | (refine AD.go ?_; first | refine AD.d1 ?_ | refine AD.d2 ?_ | refine AD.d3 ?_ | refine AD.d0 ?_ | refine AD.d4 ?_ | refine AD.d5 ?_ | refine AD.d6 ?_ | refine AD.d7 ?_ | refine AD.d8 ?_ | refine AD.d9 ?_ | refine AD.e9 ?_ | refine AD.two rfl rfl rfl ?_ ?_) | refine thenK.nn ?_ | refine thenK.x ?_ | refine thenK.r ?_ | refine blockK.nn ?_ | refine blockK.hit ?_ | refine blockK.m1 ?_ | refine blockK.r ?_ | refine endK.nn ?_ | refine effK.n1 ?_))
  refine AWp.loop (σ := CtSt) (fun s => (19, .int .i64 s.j) :: (16, .slice (some ⟨tq, 0, none⟩) 100 100) :: (15, .int .i64 s.n) :: fnT which entries i x hq eq b1 o1 n' cap)
    (fun s => (tq, .cells (bL th) boolT) :: fnM hq eq Z ⟨i, s3, s.has, el3, M5⟩)
    (fun s => s.j ≤ 100 ∧ s.n ≤ s.j ∧ s.n ≤ (s3.keys.filter (fun y => decide (y < (s.j : Int)))).length ∧ s.has.length = 100 ∧ ∀ y : Nat, y < 100 → ∃ h, s.has[y]? = some h ∧ 0 ≤ h ∧ ((y : Int) ∈ s3.keys → h ≠ 0) ∧ (d.kind = 4 ∨ y < s.j → h ≠ 0 → (y : Int) ∈ s3.keys)) (fun s => 100 - s.j)
    ⟨0, 0, has3⟩ ⟨by simp, by simp, by simp, hA3.1, fun y hy => by obtain ⟨h, a1, a2, a3, a4⟩ := hA3.2 y hy; exact ⟨h, a1, a2, a3, fun h4 => a4 (h4.resolve_right (by simp))⟩⟩ (by first | ((repeat (first | exact True.intro | refine ⟨rfl, ?_⟩)); done) | fail) Has.of ?_
  rintro ⟨j, ct, has4⟩ ⟨hj, hcj, hct, hl4, hA4⟩
  dsimp only at hj hcj hct hl4 hA4 ⊢
  by_cases hjl : j < 100
  · obtain ⟨h, g1, g2, g3, g4⟩ := hA4 j hjl
    have hrh : Rd (cx w0 B hB) [(hq, .cells (iL has4) intT)] hq (0 + (j : Int).toNat * 1) (.int .i64 h) := Rd.own (List.mem_cons_self ..) (by simp [HObj.list, g1])
    have hrt : Rd (cx w0 B hB) [(tq, .cells (bL th) boolT)] tq (0 + (j : Int).toNat * 1) (.bool (decide ((j : Int) ∈ s3.keys))) := Rd.own (List.mem_cons_self ..) (by simp [HObj.list, hth' j hjl])
    have hmono : (s3.keys.filter (fun y => decide (y < (j : Int)))).length ≤ (s3.keys.filter (fun y => decide (y < ((j + 1 : Nat) : Int)))).length := by
      rw [← List.countP_eq_length_filter, ← List.countP_eq_length_filter]
      exact List.countP_mono_left (fun y _ hy => by simp only [decide_eq_true_eq] at hy ⊢; omega)
    by_cases hz : h = 0
    · subst hz
      (repeat (first | (refine AL.go ?_; first | refine AL.a1 ?_ | refine AL.a2 ?_ | refine AL.nil ?_ | refine AL.a3 ?_ | refine AL.a4 (fun _ => ?_) | refine AL.a5 (fun _ => ?_) | refine AL.a6 (fun _ => ?_) | refine AL.a7 (fun _ => ?_) | refine AL.a8 (fun _ _ _ _ => ?_) | refine AL.g1 ?_ | refine AL.g2 ?_ | refine AL.g3 ?_) | (refine AWp.go ?_; first | refine AWp.seq ?_ | refine AWp.region ?_ | refine AWp.block ?_ | refine AWp.skip ?_ | refine AWp.exit ?_ | refine AWp.ret ?_ | refine AWp.label ?_ | refine AWp.c1 ?_ | refine AWp.c2 ?_ | refine AWp.d1 (id := 25) (.take 0 (.take 1 (.take 2 (.take 6 (.take 7 (.take 8 (.take 3 (.take 4 (.take 5 (.take 9 (.take 10 (.take 11 (.take 12 (.take 13 (.take 14 (.take 15 (.take 16 (.take 17 (.done))))))))))))))))))) (by kernel_rfl) ?_ (by first | ((repeat (first | exact noP.endK | exact noP.goesOn | apply noP.thenK | apply noP.blockK)); done) | fail)) | (refine AD.go ?_; first | refine AD.d1 ?_ | refine AD.d2 ?_ | refine AD.d3 ?_ | refine AD.d0 ?_ | refine AD.d4 ?_ | refine AD.d5 ?_ | refine AD.d6 ?_ | refine AD.d7 ?_ | refine AD.d8 ?_ | refine AD.d9 ?_ | refine AD.e9 ?_ | refine AD.two rfl rfl rfl ?_ ?_) | refine thenK.nn ?_ | refine thenK.x ?_ | refine thenK.r ?_ | refine blockK.nn ?_ | refine blockK.hit ?_ | refine blockK.m1 ?_ | refine blockK.r ?_ | refine endK.nn ?_ | refine effK.n1 ?_))
      exact ⟨⟨j + 1, ct, has4⟩, ⟨by dsimp only; omega, by dsimp only; omega, by dsimp only; omega, hl4, fun y hy => by
        obtain ⟨h', a1, a2, a3, a4⟩ := hA4 y hy
        refine ⟨h', a1, a2, a3, fun hor h0 => ?_⟩
        by_cases hyj : y = j
        · subst hyj; rw [g1] at a1; cases a1; exact absurd rfl h0
        · exact a4 (hor.imp id (fun h => by first | omega | (dsimp only at h; omega))) h0⟩, by dsimp only; omega, (by first | ((repeat (first | exact True.intro | refine ⟨rfl, ?_⟩)); done) | fail), Has.of⟩
    · by_cases hm : (j : Int) ∈ s3.keys
      · rw [decide_eq_true hm] at hrt
        (repeat (first | (refine AL.go ?_; first | refine AL.a1 ?_ | refine AL.a2 ?_ | refine AL.nil ?_ | refine AL.a3 ?_ | refine AL.a4 (fun _ => ?_) | refine AL.a5 (fun _ => ?_) | refine AL.a6 (fun _ => ?_) | refine AL.a7 (fun _ => ?_) | refine AL.a8 (fun _ _ _ _ => ?_) | refine AL.g1 ?_ | refine AL.g2 ?_ | refine AL.g3 ?_) | (refine AWp.go ?_; first | refine AWp.seq ?_ | refine AWp.region ?_ | refine AWp.block ?_ | refine AWp.skip ?_ | refine AWp.exit ?_ | refine AWp.ret ?_ | refine AWp.label ?_ | refine AWp.c1 ?_ | refine AWp.c2 ?_ | refine AWp.d1 (id := 25) (.take 0 (.take 1 (.take 2 (.take 6 (.take 7 (.take 8 (.take 3 (.take 4 (.take 5 (.take 9 (.take 10 (.take 11 (.take 12 (.take 13 (.take 14 (.take 15 (.take 16 (.take 17 (.done))))))))))))))))))) (by kernel_rfl) ?_ (by first | ((repeat (first | exact noP.endK | exact noP.goesOn | apply noP.thenK | apply noP.blockK)); done) | fail)) | (refine AD.go ?_; first | refine AD.d1 ?_ | refine AD.d2 ?_ | refine AD.d3 ?_ | refine AD.d0 ?_ | refine AD.d4 ?_ | refine AD.d5 ?_ | refine AD.d6 ?_ | refine AD.d7 ?_ | refine AD.d8 ?_ | refine AD.d9 ?_ | refine AD.e9 ?_ | refine AD.two rfl rfl rfl ?_ ?_) | refine thenK.nn ?_ | refine thenK.x ?_ | refine thenK.r ?_ | refine blockK.nn ?_ | refine blockK.hit ?_ | refine blockK.m1 ?_ | refine blockK.r ?_ | refine endK.nn ?_ | refine effK.n1 ?_))
        exact ⟨⟨j + 1, ct + 1, has4⟩, ⟨by dsimp only; omega, by dsimp only; omega, by
          dsimp only
          have := filter_lt (p := fun y => decide (y < (j : Int))) (q := fun y => decide (y < ((j + 1 : Nat) : Int))) hm (decide_eq_true (by omega)) (decide_eq_false (by omega)) (fun y _ hy => by simp only [decide_eq_true_eq] at hy ⊢; omega)
          omega, hl4, fun y hy => by
          obtain ⟨h', a1, a2, a3, a4⟩ := hA4 y hy
          refine ⟨h', a1, a2, a3, fun hor h0 => ?_⟩
          by_cases hyj : y = j
          · subst hyj; exact hm
          · exact a4 (hor.imp id (fun h => by first | omega | (dsimp only at h; omega))) h0⟩, by dsimp only; omega, (by first | ((repeat (first | exact True.intro | refine ⟨rfl, ?_⟩)); done) | fail), Has.of⟩
      · rw [decide_eq_false hm] at hrt
        have h5 : d.kind = 5 := by
          rcases hk45 with h | h
          · exact absurd (g4 (.inl h) hz) hm
          · exact h
        have hw5 := hwk.2 h5
        (repeat (first | (refine AL.go ?_; first | refine AL.a1 ?_ | refine AL.a2 ?_ | refine AL.nil ?_ | refine AL.a3 ?_ | refine AL.a4 (fun _ => ?_) | refine AL.a5 (fun _ => ?_) | refine AL.a6 (fun _ => ?_) | refine AL.a7 (fun _ => ?_) | refine AL.a8 (fun _ _ _ _ => ?_) | refine AL.g1 ?_ | refine AL.g2 ?_ | refine AL.g3 ?_) | (refine AWp.go ?_; first | refine AWp.seq ?_ | refine AWp.region ?_ | refine AWp.block ?_ | refine AWp.skip ?_ | refine AWp.exit ?_ | refine AWp.ret ?_ | refine AWp.label ?_ | refine AWp.c1 ?_ | refine AWp.c2 ?_ | refine AWp.d1 (id := 25) (.take 0 (.take 1 (.take 2 (.take 6 (.take 7 (.take 8 (.take 3 (.take 4 (.take 5 (.take 9 (.take 10 (.take 11 (.take 12 (.take 13 (.take 14 (.take 15 (.take 16 (.take 17 (.done))))))))))))))))))) (by kernel_rfl) ?_ (by first | ((repeat (first | exact noP.endK | exact noP.goesOn | apply noP.thenK | apply noP.blockK)); done) | fail)) | (refine AD.go ?_; first | refine AD.d1 ?_ | refine AD.d2 ?_ | refine AD.d3 ?_ | refine AD.d0 ?_ | refine AD.d4 ?_ | refine AD.d5 ?_ | refine AD.d6 ?_ | refine AD.d7 ?_ | refine AD.d8 ?_ | refine AD.d9 ?_ | refine AD.e9 ?_ | refine AD.two rfl rfl rfl ?_ ?_) | refine thenK.nn ?_ | refine thenK.x ?_ | refine thenK.r ?_ | refine blockK.nn ?_ | refine blockK.hit ?_ | refine blockK.m1 ?_ | refine blockK.r ?_ | refine endK.nn ?_ | refine effK.n1 ?_))
        refine AL.a3 (hu := (by first | ((repeat (first | exact Upd.cellJ (by simp only [List.length_map, List.length_set, List.length_replicate]; omega) | apply Upd.tail | apply Upd.app)); done) | fail)) ?_
        rw [iL_set]
        (repeat (first | (refine AL.go ?_; first | refine AL.a1 ?_ | refine AL.a2 ?_ | refine AL.nil ?_ | refine AL.a3 ?_ | refine AL.a4 (fun _ => ?_) | refine AL.a5 (fun _ => ?_) | refine AL.a6 (fun _ => ?_) | refine AL.a7 (fun _ => ?_) | refine AL.a8 (fun _ _ _ _ => ?_) | refine AL.g1 ?_ | refine AL.g2 ?_ | refine AL.g3 ?_) | (refine AWp.go ?_; first | refine AWp.seq ?_ | refine AWp.region ?_ | refine AWp.block ?_ | refine AWp.skip ?_ | refine AWp.exit ?_ | refine AWp.ret ?_ | refine AWp.label ?_ | refine AWp.c1 ?_ | refine AWp.c2 ?_ | refine AWp.d1 (id := 25) (.take 0 (.take 1 (.take 2 (.take 6 (.take 7 (.take 8 (.take 3 (.take 4 (.take 5 (.take 9 (.take 10 (.take 11 (.take 12 (.take 13 (.take 14 (.take 15 (.take 16 (.take 17 (.done))))))))))))))))))) (by kernel_rfl) ?_ (by first | ((repeat (first | exact noP.endK | exact noP.goesOn | apply noP.thenK | apply noP.blockK)); done) | fail)) | (refine AD.go ?_; first | refine AD.d1 ?_ | refine AD.d2 ?_ | refine AD.d3 ?_ | refine AD.d0 ?_ | refine AD.d4 ?_ | refine AD.d5 ?_ | refine AD.d6 ?_ | refine AD.d7 ?_ | refine AD.d8 ?_ | refine AD.d9 ?_ | refine AD.e9 ?_ | refine AD.two rfl rfl rfl ?_ ?_) | refine thenK.nn ?_ | refine thenK.x ?_ | refine thenK.r ?_ | refine blockK.nn ?_ | refine blockK.hit ?_ | refine blockK.m1 ?_ | refine blockK.r ?_ | refine endK.nn ?_ | refine effK.n1 ?_))
        exact ⟨⟨j + 1, ct, has4.set (j : Int).toNat 0⟩, ⟨by dsimp only; omega, by dsimp only; omega, by dsimp only; omega, by simp [hl4], fun y hy => by
          dsimp only
          by_cases hyj : y = j
          · subst hyj
            exact ⟨0, by rw [Int.toNat_natCast, List.getElem?_set_self (by omega)], by omega, fun h => absurd h hm, fun _ h => absurd rfl h⟩
          · obtain ⟨h', a1, a2, a3, a4⟩ := hA4 y hy
            exact ⟨h', by rw [Int.toNat_natCast, List.getElem?_set_ne (by omega)]; exact a1, a2, a3, fun hor h0 => a4 (hor.imp id (fun h => by first | omega | (dsimp only at h; omega))) h0⟩⟩, by dsimp only; omega, (by first | ((repeat (first | exact True.intro | refine ⟨rfl, ?_⟩)); done) | fail), Has.of⟩
  · have : j = 100 := by omega
    subst this
    have hctl : ct ≤ s3.es.length := by
      have := List.length_filter_le (fun y => decide (y < ((100 : Nat) : Int))) s3.keys
      simp only [HS.keys, List.length_map] at this hct
      omega
    (repeat (first | (refine AL.go ?_; first | refine AL.a1 ?_ | refine AL.a2 ?_ | refine AL.nil ?_ | refine AL.a3 ?_ | refine AL.a4 (fun _ => ?_) | refine AL.a5 (fun _ => ?_) | refine AL.a6 (fun _ => ?_) | refine AL.a7 (fun _ => ?_) | refine AL.a8 (fun _ _ _ _ => ?_) | refine AL.g1 ?_ | refine AL.g2 ?_ | refine AL.g3 ?_) | (refine AWp.go ?_; first | refine AWp.seq ?_ | refine AWp.region ?_ | refine AWp.block ?_ | refine AWp.skip ?_ | refine AWp.exit ?_ | refine AWp.ret ?_ | refine AWp.label ?_ | refine AWp.c1 ?_ | refine AWp.c2 ?_ | refine AWp.d1 (id := 25) (.take 0 (.take 1 (.take 2 (.take 6 (.take 7 (.take 8 (.take 3 (.take 4 (.take 5 (.take 9 (.take 10 (.take 11 (.take 12 (.take 13 (.take 14 (.take 15 (.take 16 (.take 17 (.done))))))))))))))))))) (by kernel_rfl) ?_ (by first | ((repeat (first | exact noP.endK | exact noP.goesOn | apply noP.thenK | apply noP.blockK)); done) | fail)) | (refine AD.go ?_; first | refine AD.d1 ?_ | refine AD.d2 ?_ | refine AD.d3 ?_ | refine AD.d0 ?_ | refine AD.d4 ?_ | refine AD.d5 ?_ | refine AD.d6 ?_ | refine AD.d7 ?_ | refine AD.d8 ?_ | refine AD.d9 ?_ | refine AD.e9 ?_ | refine AD.two rfl rfl rfl ?_ ?_) | refine thenK.nn ?_ | refine thenK.x ?_ | refine thenK.r ?_ | refine blockK.nn ?_ | refine blockK.hit ?_ | refine blockK.m1 ?_ | refine blockK.r ?_ | refine endK.nn ?_ | refine effK.n1 ?_))
    exact Meet.of ⟨100, ct, has4⟩ ⟨hctl, hl4, fun y hy => by obtain ⟨h, a1, a2, a3, a4⟩ := hA4 y hy; exact ⟨h, a1, a2, a3, fun _ => a4 (.inr hy)⟩⟩ (by first | ((repeat (first | exact True.intro | refine ⟨rfl, ?_⟩)); done) | fail) Has.of
end Go.Proofs.Ytbchkofadjeblaa
