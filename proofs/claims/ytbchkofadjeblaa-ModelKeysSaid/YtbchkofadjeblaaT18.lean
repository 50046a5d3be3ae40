import Derived.Test.YtbchkofadjeblaaT17
set_option linter.unusedVariables false
set_option linter.unusedSimpArgs false
namespace Go.Proofs.Ytbchkofadjeblaa
open Go Go.SL
attribute [local irreducible] AL AWp thenK blockK endK ACalls RVals AD effK PVs PU PV planOk noP
set_option maxRecDepth 100000
set_option maxHeartbeats 2000000
variable {w0 : World} {B : Nat} {hB : B ≤ w0.heap.size}

abbrev wD : DeclD := ⟨4, 2, 1, 4, 0⟩
theorem wD_check : checkAll [wD] = 0 := by decide +kernel
theorem wD_ok : okK wD := ⟨by decide, by decide, by decide⟩
theorem wD_h : okH wD := ⟨by decide, by decide, by decide, by decide, by decide, by decide⟩
theorem isU_lit {k : Int} (h : 0 ≤ k ∧ k < 18446744073709551616 := by decide) : isU k := h
theorem resAt_none {rv : RV} {v : Value} {R : Hp} (h : ResAt rv v R) (h0 : rv.val = none) : v = resV rv.no nilS rv.key rv.elem ∧ R = [] := by
  cases h with
  | none _ => exact ⟨rfl, rfl⟩
  | some h1 => rw [h0] at h1; cases h1
theorem resAt_some {rv : RV} {v : Value} {R : Hp} {w : Int} (h : ResAt rv v R) (h0 : rv.val = some w) : ∃ q, v = resV rv.no (.slice (some ⟨q, 0, none⟩) 1 1) rv.key rv.elem ∧ R = [(q, .cells [.int .u64 w] u64T)] := by
  cases h with
  | none h1 => rw [h0] at h1; cases h1
  | some h1 => rw [h0] at h1; cases h1; exact ⟨_, rfl, rfl⟩
theorem wS0 : hdoF wD ⟨[], 0, []⟩ 1 5 0 0 = (⟨[], 0, []⟩, ⟨2, none, 0, 0⟩) := by rfl
theorem wS1 : hdoF wD ⟨[], 0, []⟩ 2 5 7 0 = (⟨[⟨5, 1, 1⟩], 1, [7]⟩, ⟨0, none, 0, 0⟩) := by rfl
theorem wS2 : hdoF wD ⟨[⟨5, 1, 1⟩], 1, [7]⟩ 1 5 0 0 = (⟨[⟨5, 1, 2⟩], 2, [7]⟩, ⟨0, some 7, 0, 1⟩) := by rfl
theorem wS3 : hdoF wD ⟨[⟨5, 1, 2⟩], 2, [7]⟩ 2 6 8 0 = (⟨[⟨5, 1, 2⟩, ⟨6, 2, 3⟩], 3, [7, 8]⟩, ⟨0, none, 0, 0⟩) := by rfl
theorem wS4 : hdoF wD ⟨[⟨5, 1, 2⟩, ⟨6, 2, 3⟩], 3, [7, 8]⟩ 2 9 1 0 = (⟨[⟨5, 1, 2⟩, ⟨6, 2, 3⟩], 3, [7, 8]⟩, ⟨4, none, 0, 0⟩) := by rfl
theorem wS5 : hdoF wD ⟨[⟨5, 1, 2⟩, ⟨6, 2, 3⟩], 3, [7, 8]⟩ 5 5 0 0 = (⟨[⟨6, 2, 3⟩], 3, [7, 8]⟩, ⟨0, some 7, 0, 0⟩) := by rfl
theorem wS6 : hdoF wD ⟨[⟨6, 2, 3⟩], 3, [7, 8]⟩ 2 9 1 0 = (⟨[⟨6, 2, 3⟩, ⟨9, 3, 4⟩], 4, [7, 8, 1]⟩, ⟨0, none, 0, 0⟩) := by rfl
theorem wS7 : hdoF wD ⟨[⟨6, 2, 3⟩, ⟨9, 3, 4⟩], 4, [7, 8, 1]⟩ 1 9 0 0 = (⟨[⟨6, 2, 3⟩, ⟨9, 3, 5⟩], 5, [7, 8, 1]⟩, ⟨0, some 1, 0, 3⟩) := by rfl
theorem works_s : ACalls (cx w0 B hB) 18 [] [] (fun v M' => v = .bool true ∧ M' = []) := by
  have hI0 : InvH wD ⟨[], 0, []⟩ := InvH.init (by decide)
  have hI1 : InvH wD ⟨[⟨5, 1, 1⟩], 1, [7]⟩ := by have := (hI0.do (key := 5) 2 7 0 isU_lit (by decide)).1; rw [wS1] at this; exact this
  have hI2 : InvH wD ⟨[⟨5, 1, 2⟩], 2, [7]⟩ := by have := (hI1.do (key := 5) 1 0 0 isU_lit (by decide)).1; rw [wS2] at this; exact this
  have hI3 : InvH wD ⟨[⟨5, 1, 2⟩, ⟨6, 2, 3⟩], 3, [7, 8]⟩ := by have := (hI2.do (key := 6) 2 8 0 isU_lit (by decide)).1; rw [wS3] at this; exact this
  have hI4 : InvH wD ⟨[⟨6, 2, 3⟩], 3, [7, 8]⟩ := by have := (hI3.do (key := 5) 5 0 0 isU_lit (by decide)).1; rw [wS5] at this; exact this
  have hI5 : InvH wD ⟨[⟨6, 2, 3⟩, ⟨9, 3, 4⟩], 4, [7, 8, 1]⟩ := by have := (hI4.do (key := 9) 2 1 0 isU_lit (by decide)).1; rw [wS6] at this; exact this
  have hI6 : InvH wD ⟨[⟨6, 2, 3⟩, ⟨9, 3, 5⟩], 5, [7, 8, 1]⟩ := by have := (hI5.do (key := 9) 1 0 0 isU_lit (by decide)).1; rw [wS7] at this; exact this
  refine ACalls.fn Try.func18 rfl rfl rfl rfl ?_
  (repeat (first | (refine AL.go ?_; first | refine AL.a1 ?_ | refine AL.a2 ?_ | refine AL.nil ?_ | refine AL.a3 ?_ | refine AL.a4 (fun _ => ?_) | refine AL.a5 (fun _ => ?_) | refine AL.a6 (fun _ => ?_) | refine AL.a7 (fun _ => ?_) | refine AL.a8 (fun _ _ _ _ => ?_) | refine AL.g1 ?_ | refine AL.g2 ?_ | refine AL.g3 ?_) | (refine AWp.go ?_; first | refine AWp.seq ?_ | refine AWp.region ?_ | refine AWp.block ?_ | refine AWp.skip ?_ | refine AWp.exit ?_ | refine AWp.ret ?_ | refine AWp.label ?_ | refine AWp.c1 ?_ | refine AWp.c2 ?_) | refine thenK.nn ?_ | refine thenK.x ?_ | refine thenK.r ?_ | refine blockK.nn ?_ | refine blockK.hit ?_ | refine blockK.m1 ?_ | refine blockK.r ?_ | refine endK.nn ?_ | refine effK.n1 ?_))
  refine AL.c1 (hx := rfl) (ha := rfl) (hc := one_s (d := wD) wD_check wD_ok) (kk := ?_)
  rintro _ _ ⟨x, b, kv, K, Z, rfl, ⟨F⟩, hK, rfl⟩
  obtain ⟨k, m, rfl, rfl⟩ : ∃ k m, kv = .iface hashT (.pointer (some ⟨k, 0, none⟩)) ∧ K = [hashB k b m 0, (m, mapO [] 0), baseB b wD nilS] := by
    cases hK with
    | arr h => exact absurd h (by decide)
    | ring h => exact absurd h (by decide)
    | hash _ => exact ⟨_, _, rfl, rfl⟩
  have hM0 : HashAt k b m wD ⟨[], 0, []⟩ [hashB k b m 0, baseB b wD nilS, (m, mapO [] 0)] := ⟨[], 0, nilS, [], rfl, by simp, by simp, .nil, rfl⟩
  refine AL.nm ?_
  (repeat (first | (refine AL.go ?_; first | refine AL.a1 ?_ | refine AL.a2 ?_ | refine AL.nil ?_ | refine AL.a3 ?_ | refine AL.a4 (fun _ => ?_) | refine AL.a5 (fun _ => ?_) | refine AL.a6 (fun _ => ?_) | refine AL.a7 (fun _ => ?_) | refine AL.a8 (fun _ _ _ _ => ?_) | refine AL.g1 ?_ | refine AL.g2 ?_ | refine AL.g3 ?_) | (refine AWp.go ?_; first | refine AWp.seq ?_ | refine AWp.region ?_ | refine AWp.block ?_ | refine AWp.skip ?_ | refine AWp.exit ?_ | refine AWp.ret ?_ | refine AWp.label ?_ | refine AWp.c1 ?_ | refine AWp.c2 ?_) | refine thenK.nn ?_ | refine thenK.x ?_ | refine thenK.r ?_ | refine blockK.nn ?_ | refine blockK.hit ?_ | refine blockK.m1 ?_ | refine blockK.r ?_ | refine endK.nn ?_ | refine effK.n1 ?_))
  refine AL.c2 (hx := rfl) (ha := rfl) (hc := look_s 5) (kk := ?_)
  refine AL.nm ?_
  (repeat (first | (refine AL.go ?_; first | refine AL.a1 ?_ | refine AL.a2 ?_ | refine AL.nil ?_ | refine AL.a3 ?_ | refine AL.a4 (fun _ => ?_) | refine AL.a5 (fun _ => ?_) | refine AL.a6 (fun _ => ?_) | refine AL.a7 (fun _ => ?_) | refine AL.a8 (fun _ _ _ _ => ?_) | refine AL.g1 ?_ | refine AL.g2 ?_ | refine AL.g3 ?_) | (refine AWp.go ?_; first | refine AWp.seq ?_ | refine AWp.region ?_ | refine AWp.block ?_ | refine AWp.skip ?_ | refine AWp.exit ?_ | refine AWp.ret ?_ | refine AWp.label ?_ | refine AWp.c1 ?_ | refine AWp.c2 ?_) | refine thenK.nn ?_ | refine thenK.x ?_ | refine thenK.r ?_ | refine blockK.nn ?_ | refine blockK.hit ?_ | refine blockK.m1 ?_ | refine blockK.r ?_ | refine endK.nn ?_ | refine effK.n1 ?_))
  refine AL.c1 (hx := rfl) (ha := rfl) (hc := doh_get (o := ⟨1, 5, nilS, 0, 0⟩) F hM0 hI0 wD_h (by decide) rfl isU_lit (by decide) rfl) (kk := ?_)
  rintro _ _ ⟨R0, hN0m, hR0, hN0, rfl⟩
  rw [show hdoF wD _ _ _ _ _ = _ from wS0] at hR0 hN0
  obtain ⟨rfl, rfl⟩ := (resAt_none hR0 rfl)
  refine AL.nm ?_
  (repeat (first | (refine AL.go ?_; first | refine AL.a1 ?_ | refine AL.a2 ?_ | refine AL.nil ?_ | refine AL.a3 ?_ | refine AL.a4 (fun _ => ?_) | refine AL.a5 (fun _ => ?_) | refine AL.a6 (fun _ => ?_) | refine AL.a7 (fun _ => ?_) | refine AL.a8 (fun _ _ _ _ => ?_) | refine AL.g1 ?_ | refine AL.g2 ?_ | refine AL.g3 ?_) | (refine AWp.go ?_; first | refine AWp.seq ?_ | refine AWp.region ?_ | refine AWp.block ?_ | refine AWp.skip ?_ | refine AWp.exit ?_ | refine AWp.ret ?_ | refine AWp.label ?_ | refine AWp.c1 ?_ | refine AWp.c2 ?_) | refine thenK.nn ?_ | refine thenK.x ?_ | refine thenK.r ?_ | refine blockK.nn ?_ | refine blockK.hit ?_ | refine blockK.m1 ?_ | refine blockK.r ?_ | refine endK.nn ?_ | refine effK.n1 ?_))
  refine AL.c1 (hx := rfl) (ha := rfl) (hc := upd_s 5 7 0) (kk := ?_)
  rintro _ _ ⟨q1, rfl, rfl⟩
  refine AL.nm ?_
  (repeat (first | (refine AL.go ?_; first | refine AL.a1 ?_ | refine AL.a2 ?_ | refine AL.nil ?_ | refine AL.a3 ?_ | refine AL.a4 (fun _ => ?_) | refine AL.a5 (fun _ => ?_) | refine AL.a6 (fun _ => ?_) | refine AL.a7 (fun _ => ?_) | refine AL.a8 (fun _ _ _ _ => ?_) | refine AL.g1 ?_ | refine AL.g2 ?_ | refine AL.g3 ?_) | (refine AWp.go ?_; first | refine AWp.seq ?_ | refine AWp.region ?_ | refine AWp.block ?_ | refine AWp.skip ?_ | refine AWp.exit ?_ | refine AWp.ret ?_ | refine AWp.label ?_ | refine AWp.c1 ?_ | refine AWp.c2 ?_) | refine thenK.nn ?_ | refine thenK.x ?_ | refine thenK.r ?_ | refine blockK.nn ?_ | refine blockK.hit ?_ | refine blockK.m1 ?_ | refine blockK.r ?_ | refine endK.nn ?_ | refine effK.n1 ?_))
  refine AL.c1 (hx := rfl) (ha := rfl) (hc := doh_upd (o := ⟨2, 5, .slice (some ⟨q1, 0, none⟩) 1 1, 0, 0⟩) (M0 := [(q1, .cells [.int .u64 7] u64T)]) (v := 7) F hN0 hI0 wD_h (by decide) rfl (by decide) (Rd.own (List.mem_cons_self ..) rfl) rfl rfl) (kk := ?_)
  rintro _ _ ⟨R1, hN1m, hR1, hN1, rfl⟩
  rw [show hdoF wD _ _ _ _ _ = _ from wS1] at hR1 hN1
  obtain ⟨rfl, rfl⟩ := (resAt_none hR1 rfl)
  refine AL.nm ?_
  (repeat (first | (refine AL.go ?_; first | refine AL.a1 ?_ | refine AL.a2 ?_ | refine AL.nil ?_ | refine AL.a3 ?_ | refine AL.a4 (fun _ => ?_) | refine AL.a5 (fun _ => ?_) | refine AL.a6 (fun _ => ?_) | refine AL.a7 (fun _ => ?_) | refine AL.a8 (fun _ _ _ _ => ?_) | refine AL.g1 ?_ | refine AL.g2 ?_ | refine AL.g3 ?_) | (refine AWp.go ?_; first | refine AWp.seq ?_ | refine AWp.region ?_ | refine AWp.block ?_ | refine AWp.skip ?_ | refine AWp.exit ?_ | refine AWp.ret ?_ | refine AWp.label ?_ | refine AWp.c1 ?_ | refine AWp.c2 ?_) | refine thenK.nn ?_ | refine thenK.x ?_ | refine thenK.r ?_ | refine blockK.nn ?_ | refine blockK.hit ?_ | refine blockK.m1 ?_ | refine blockK.r ?_ | refine endK.nn ?_ | refine effK.n1 ?_))
  refine AL.c2 (hx := rfl) (ha := rfl) (hc := look_s 5) (kk := ?_)
  refine AL.nm ?_
  (repeat (first | (refine AL.go ?_; first | refine AL.a1 ?_ | refine AL.a2 ?_ | refine AL.nil ?_ | refine AL.a3 ?_ | refine AL.a4 (fun _ => ?_) | refine AL.a5 (fun _ => ?_) | refine AL.a6 (fun _ => ?_) | refine AL.a7 (fun _ => ?_) | refine AL.a8 (fun _ _ _ _ => ?_) | refine AL.g1 ?_ | refine AL.g2 ?_ | refine AL.g3 ?_) | (refine AWp.go ?_; first | refine AWp.seq ?_ | refine AWp.region ?_ | refine AWp.block ?_ | refine AWp.skip ?_ | refine AWp.exit ?_ | refine AWp.ret ?_ | refine AWp.label ?_ | refine AWp.c1 ?_ | refine AWp.c2 ?_) | refine thenK.nn ?_ | refine thenK.x ?_ | refine thenK.r ?_ | refine blockK.nn ?_ | refine blockK.hit ?_ | refine blockK.m1 ?_ | refine blockK.r ?_ | refine endK.nn ?_ | refine effK.n1 ?_))
  refine AL.c1 (hx := rfl) (ha := rfl) (hc := doh_get (o := ⟨1, 5, nilS, 0, 0⟩) F hN1 hI1 wD_h (by decide) rfl isU_lit (by decide) rfl) (kk := ?_)
  rintro _ _ ⟨R2, hN2m, hR2, hN2, rfl⟩
  rw [show hdoF wD _ _ _ _ _ = _ from wS2] at hR2 hN2
  obtain ⟨r2, rfl, rfl⟩ := (resAt_some hR2 rfl)
  refine AL.nm ?_
  (repeat (first | (refine AL.go ?_; first | refine AL.a1 ?_ | refine AL.a2 ?_ | refine AL.nil ?_ | refine AL.a3 ?_ | refine AL.a4 (fun _ => ?_) | refine AL.a5 (fun _ => ?_) | refine AL.a6 (fun _ => ?_) | refine AL.a7 (fun _ => ?_) | refine AL.a8 (fun _ _ _ _ => ?_) | refine AL.g1 ?_ | refine AL.g2 ?_ | refine AL.g3 ?_) | (refine AWp.go ?_; first | refine AWp.seq ?_ | refine AWp.region ?_ | refine AWp.block ?_ | refine AWp.skip ?_ | refine AWp.exit ?_ | refine AWp.ret ?_ | refine AWp.label ?_ | refine AWp.c1 ?_ | refine AWp.c2 ?_) | refine thenK.nn ?_ | refine thenK.x ?_ | refine thenK.r ?_ | refine blockK.nn ?_ | refine blockK.hit ?_ | refine blockK.m1 ?_ | refine blockK.r ?_ | refine endK.nn ?_ | refine effK.n1 ?_))
  refine AL.c2 (hx := rfl) (ha := rfl) (hc := is_yes (M0 := [(r2, .cells [.int .u64 7] u64T)]) (l := [7]) (v := 7) (e := 1) (.some rfl (RdL.whole (List.mem_cons_self ..))) rfl (by decide)) (kk := ?_)
  refine AL.nm ?_
  (repeat (first | (refine AL.go ?_; first | refine AL.a1 ?_ | refine AL.a2 ?_ | refine AL.nil ?_ | refine AL.a3 ?_ | refine AL.a4 (fun _ => ?_) | refine AL.a5 (fun _ => ?_) | refine AL.a6 (fun _ => ?_) | refine AL.a7 (fun _ => ?_) | refine AL.a8 (fun _ _ _ _ => ?_) | refine AL.g1 ?_ | refine AL.g2 ?_ | refine AL.g3 ?_) | (refine AWp.go ?_; first | refine AWp.seq ?_ | refine AWp.region ?_ | refine AWp.block ?_ | refine AWp.skip ?_ | refine AWp.exit ?_ | refine AWp.ret ?_ | refine AWp.label ?_ | refine AWp.c1 ?_ | refine AWp.c2 ?_) | refine thenK.nn ?_ | refine thenK.x ?_ | refine thenK.r ?_ | refine blockK.nn ?_ | refine blockK.hit ?_ | refine blockK.m1 ?_ | refine blockK.r ?_ | refine endK.nn ?_ | refine effK.n1 ?_))
  refine AL.c1 (hx := rfl) (ha := rfl) (hc := upd_s 6 8 0) (kk := ?_)
  rintro _ _ ⟨q3, rfl, rfl⟩
  refine AL.nm ?_
  (repeat (first | (refine AL.go ?_; first | refine AL.a1 ?_ | refine AL.a2 ?_ | refine AL.nil ?_ | refine AL.a3 ?_ | refine AL.a4 (fun _ => ?_) | refine AL.a5 (fun _ => ?_) | refine AL.a6 (fun _ => ?_) | refine AL.a7 (fun _ => ?_) | refine AL.a8 (fun _ _ _ _ => ?_) | refine AL.g1 ?_ | refine AL.g2 ?_ | refine AL.g3 ?_) | (refine AWp.go ?_; first | refine AWp.seq ?_ | refine AWp.region ?_ | refine AWp.block ?_ | refine AWp.skip ?_ | refine AWp.exit ?_ | refine AWp.ret ?_ | refine AWp.label ?_ | refine AWp.c1 ?_ | refine AWp.c2 ?_) | refine thenK.nn ?_ | refine thenK.x ?_ | refine thenK.r ?_ | refine blockK.nn ?_ | refine blockK.hit ?_ | refine blockK.m1 ?_ | refine blockK.r ?_ | refine endK.nn ?_ | refine effK.n1 ?_))
  refine AL.c1 (hx := rfl) (ha := rfl) (hc := doh_upd (o := ⟨2, 6, .slice (some ⟨q3, 0, none⟩) 1 1, 0, 0⟩) (M0 := [(q3, .cells [.int .u64 8] u64T)]) (v := 8) F hN2 hI2 wD_h (by decide) rfl (by decide) (Rd.own (List.mem_cons_self ..) rfl) rfl rfl) (kk := ?_)
  rintro _ _ ⟨R3, hN3m, hR3, hN3, rfl⟩
  rw [show hdoF wD _ _ _ _ _ = _ from wS3] at hR3 hN3
  obtain ⟨rfl, rfl⟩ := (resAt_none hR3 rfl)
  refine AL.nm ?_
  (repeat (first | (refine AL.go ?_; first | refine AL.a1 ?_ | refine AL.a2 ?_ | refine AL.nil ?_ | refine AL.a3 ?_ | refine AL.a4 (fun _ => ?_) | refine AL.a5 (fun _ => ?_) | refine AL.a6 (fun _ => ?_) | refine AL.a7 (fun _ => ?_) | refine AL.a8 (fun _ _ _ _ => ?_) | refine AL.g1 ?_ | refine AL.g2 ?_ | refine AL.g3 ?_) | (refine AWp.go ?_; first | refine AWp.seq ?_ | refine AWp.region ?_ | refine AWp.block ?_ | refine AWp.skip ?_ | refine AWp.exit ?_ | refine AWp.ret ?_ | refine AWp.label ?_ | refine AWp.c1 ?_ | refine AWp.c2 ?_) | refine thenK.nn ?_ | refine thenK.x ?_ | refine thenK.r ?_ | refine blockK.nn ?_ | refine blockK.hit ?_ | refine blockK.m1 ?_ | refine blockK.r ?_ | refine endK.nn ?_ | refine effK.n1 ?_))
  refine AL.c1 (hx := rfl) (ha := rfl) (hc := upd_s 9 1 0) (kk := ?_)
  rintro _ _ ⟨q4, rfl, rfl⟩
  refine AL.nm ?_
  (repeat (first | (refine AL.go ?_; first | refine AL.a1 ?_ | refine AL.a2 ?_ | refine AL.nil ?_ | refine AL.a3 ?_ | refine AL.a4 (fun _ => ?_) | refine AL.a5 (fun _ => ?_) | refine AL.a6 (fun _ => ?_) | refine AL.a7 (fun _ => ?_) | refine AL.a8 (fun _ _ _ _ => ?_) | refine AL.g1 ?_ | refine AL.g2 ?_ | refine AL.g3 ?_) | (refine AWp.go ?_; first | refine AWp.seq ?_ | refine AWp.region ?_ | refine AWp.block ?_ | refine AWp.skip ?_ | refine AWp.exit ?_ | refine AWp.ret ?_ | refine AWp.label ?_ | refine AWp.c1 ?_ | refine AWp.c2 ?_) | refine thenK.nn ?_ | refine thenK.x ?_ | refine thenK.r ?_ | refine blockK.nn ?_ | refine blockK.hit ?_ | refine blockK.m1 ?_ | refine blockK.r ?_ | refine endK.nn ?_ | refine effK.n1 ?_))
  refine AL.c1 (hx := rfl) (ha := rfl) (hc := doh_upd (o := ⟨2, 9, .slice (some ⟨q4, 0, none⟩) 1 1, 0, 0⟩) (M0 := [(q4, .cells [.int .u64 1] u64T)]) (v := 1) F hN3 hI3 wD_h (by decide) rfl (by decide) (Rd.own (List.mem_cons_self ..) rfl) rfl rfl) (kk := ?_)
  rintro _ _ ⟨R4, hN4m, hR4, hN4, rfl⟩
  rw [show hdoF wD _ _ _ _ _ = _ from wS4] at hR4 hN4
  obtain ⟨rfl, rfl⟩ := (resAt_none hR4 rfl)
  refine AL.nm ?_
  (repeat (first | (refine AL.go ?_; first | refine AL.a1 ?_ | refine AL.a2 ?_ | refine AL.nil ?_ | refine AL.a3 ?_ | refine AL.a4 (fun _ => ?_) | refine AL.a5 (fun _ => ?_) | refine AL.a6 (fun _ => ?_) | refine AL.a7 (fun _ => ?_) | refine AL.a8 (fun _ _ _ _ => ?_) | refine AL.g1 ?_ | refine AL.g2 ?_ | refine AL.g3 ?_) | (refine AWp.go ?_; first | refine AWp.seq ?_ | refine AWp.region ?_ | refine AWp.block ?_ | refine AWp.skip ?_ | refine AWp.exit ?_ | refine AWp.ret ?_ | refine AWp.label ?_ | refine AWp.c1 ?_ | refine AWp.c2 ?_) | refine thenK.nn ?_ | refine thenK.x ?_ | refine thenK.r ?_ | refine blockK.nn ?_ | refine blockK.hit ?_ | refine blockK.m1 ?_ | refine blockK.r ?_ | refine endK.nn ?_ | refine effK.n1 ?_))
  refine AL.c1 (hx := rfl) (ha := rfl) (hc := doh_get (o := ⟨5, 5, nilS, 0, 0⟩) F hN4 hI3 wD_h (by decide) rfl isU_lit (by decide) rfl) (kk := ?_)
  rintro _ _ ⟨R5, hN5m, hR5, hN5, rfl⟩
  rw [show hdoF wD _ _ _ _ _ = _ from wS5] at hR5 hN5
  obtain ⟨r5, rfl, rfl⟩ := (resAt_some hR5 rfl)
  refine AL.nm ?_
  (repeat (first | (refine AL.go ?_; first | refine AL.a1 ?_ | refine AL.a2 ?_ | refine AL.nil ?_ | refine AL.a3 ?_ | refine AL.a4 (fun _ => ?_) | refine AL.a5 (fun _ => ?_) | refine AL.a6 (fun _ => ?_) | refine AL.a7 (fun _ => ?_) | refine AL.a8 (fun _ _ _ _ => ?_) | refine AL.g1 ?_ | refine AL.g2 ?_ | refine AL.g3 ?_) | (refine AWp.go ?_; first | refine AWp.seq ?_ | refine AWp.region ?_ | refine AWp.block ?_ | refine AWp.skip ?_ | refine AWp.exit ?_ | refine AWp.ret ?_ | refine AWp.label ?_ | refine AWp.c1 ?_ | refine AWp.c2 ?_) | refine thenK.nn ?_ | refine thenK.x ?_ | refine thenK.r ?_ | refine blockK.nn ?_ | refine blockK.hit ?_ | refine blockK.m1 ?_ | refine blockK.r ?_ | refine endK.nn ?_ | refine effK.n1 ?_))
  refine AL.c2 (hx := rfl) (ha := rfl) (hc := is_yes (M0 := [(r5, .cells [.int .u64 7] u64T)]) (l := [7]) (v := 7) (e := 0) (.some rfl (RdL.whole (List.mem_cons_self ..))) rfl (by decide)) (kk := ?_)
  refine AL.nm ?_
  (repeat (first | (refine AL.go ?_; first | refine AL.a1 ?_ | refine AL.a2 ?_ | refine AL.nil ?_ | refine AL.a3 ?_ | refine AL.a4 (fun _ => ?_) | refine AL.a5 (fun _ => ?_) | refine AL.a6 (fun _ => ?_) | refine AL.a7 (fun _ => ?_) | refine AL.a8 (fun _ _ _ _ => ?_) | refine AL.g1 ?_ | refine AL.g2 ?_ | refine AL.g3 ?_) | (refine AWp.go ?_; first | refine AWp.seq ?_ | refine AWp.region ?_ | refine AWp.block ?_ | refine AWp.skip ?_ | refine AWp.exit ?_ | refine AWp.ret ?_ | refine AWp.label ?_ | refine AWp.c1 ?_ | refine AWp.c2 ?_) | refine thenK.nn ?_ | refine thenK.x ?_ | refine thenK.r ?_ | refine blockK.nn ?_ | refine blockK.hit ?_ | refine blockK.m1 ?_ | refine blockK.r ?_ | refine endK.nn ?_ | refine effK.n1 ?_))
  refine AL.c1 (hx := rfl) (ha := rfl) (hc := upd_s 9 1 0) (kk := ?_)
  rintro _ _ ⟨q6, rfl, rfl⟩
  refine AL.nm ?_
  (repeat (first | (refine AL.go ?_; first | refine AL.a1 ?_ | refine AL.a2 ?_ | refine AL.nil ?_ | refine AL.a3 ?_ | refine AL.a4 (fun _ => ?_) | refine AL.a5 (fun _ => ?_) | refine AL.a6 (fun _ => ?_) | refine AL.a7 (fun _ => ?_) | refine AL.a8 (fun _ _ _ _ => ?_) | refine AL.g1 ?_ | refine AL.g2 ?_ | refine AL.g3 ?_) | (refine AWp.go ?_; first | refine AWp.seq ?_ | refine AWp.region ?_ | refine AWp.block ?_ | refine AWp.skip ?_ | refine AWp.exit ?_ | refine AWp.ret ?_ | refine AWp.label ?_ | refine AWp.c1 ?_ | refine AWp.c2 ?_) | refine thenK.nn ?_ | refine thenK.x ?_ | refine thenK.r ?_ | refine blockK.nn ?_ | refine blockK.hit ?_ | refine blockK.m1 ?_ | refine blockK.r ?_ | refine endK.nn ?_ | refine effK.n1 ?_))
  refine AL.c1 (hx := rfl) (ha := rfl) (hc := doh_upd (o := ⟨2, 9, .slice (some ⟨q6, 0, none⟩) 1 1, 0, 0⟩) (M0 := [(q6, .cells [.int .u64 1] u64T)]) (v := 1) F hN5 hI4 wD_h (by decide) rfl (by decide) (Rd.own (List.mem_cons_self ..) rfl) rfl rfl) (kk := ?_)
  rintro _ _ ⟨R6, hN6m, hR6, hN6, rfl⟩
  rw [show hdoF wD _ _ _ _ _ = _ from wS6] at hR6 hN6
  obtain ⟨rfl, rfl⟩ := (resAt_none hR6 rfl)
  refine AL.nm ?_
  (repeat (first | (refine AL.go ?_; first | refine AL.a1 ?_ | refine AL.a2 ?_ | refine AL.nil ?_ | refine AL.a3 ?_ | refine AL.a4 (fun _ => ?_) | refine AL.a5 (fun _ => ?_) | refine AL.a6 (fun _ => ?_) | refine AL.a7 (fun _ => ?_) | refine AL.a8 (fun _ _ _ _ => ?_) | refine AL.g1 ?_ | refine AL.g2 ?_ | refine AL.g3 ?_) | (refine AWp.go ?_; first | refine AWp.seq ?_ | refine AWp.region ?_ | refine AWp.block ?_ | refine AWp.skip ?_ | refine AWp.exit ?_ | refine AWp.ret ?_ | refine AWp.label ?_ | refine AWp.c1 ?_ | refine AWp.c2 ?_) | refine thenK.nn ?_ | refine thenK.x ?_ | refine thenK.r ?_ | refine blockK.nn ?_ | refine blockK.hit ?_ | refine blockK.m1 ?_ | refine blockK.r ?_ | refine endK.nn ?_ | refine effK.n1 ?_))
  refine AL.c2 (hx := rfl) (ha := rfl) (hc := look_s 9) (kk := ?_)
  refine AL.nm ?_
  (repeat (first | (refine AL.go ?_; first | refine AL.a1 ?_ | refine AL.a2 ?_ | refine AL.nil ?_ | refine AL.a3 ?_ | refine AL.a4 (fun _ => ?_) | refine AL.a5 (fun _ => ?_) | refine AL.a6 (fun _ => ?_) | refine AL.a7 (fun _ => ?_) | refine AL.a8 (fun _ _ _ _ => ?_) | refine AL.g1 ?_ | refine AL.g2 ?_ | refine AL.g3 ?_) | (refine AWp.go ?_; first | refine AWp.seq ?_ | refine AWp.region ?_ | refine AWp.block ?_ | refine AWp.skip ?_ | refine AWp.exit ?_ | refine AWp.ret ?_ | refine AWp.label ?_ | refine AWp.c1 ?_ | refine AWp.c2 ?_) | refine thenK.nn ?_ | refine thenK.x ?_ | refine thenK.r ?_ | refine blockK.nn ?_ | refine blockK.hit ?_ | refine blockK.m1 ?_ | refine blockK.r ?_ | refine endK.nn ?_ | refine effK.n1 ?_))
  refine AL.c1 (hx := rfl) (ha := rfl) (hc := doh_get (o := ⟨1, 9, nilS, 0, 0⟩) F hN6 hI5 wD_h (by decide) rfl isU_lit (by decide) rfl) (kk := ?_)
  rintro _ _ ⟨R7, hN7m, hR7, hN7, rfl⟩
  rw [show hdoF wD _ _ _ _ _ = _ from wS7] at hR7 hN7
  obtain ⟨r7, rfl, rfl⟩ := (resAt_some hR7 rfl)
  refine AL.nm ?_
  (repeat (first | (refine AL.go ?_; first | refine AL.a1 ?_ | refine AL.a2 ?_ | refine AL.nil ?_ | refine AL.a3 ?_ | refine AL.a4 (fun _ => ?_) | refine AL.a5 (fun _ => ?_) | refine AL.a6 (fun _ => ?_) | refine AL.a7 (fun _ => ?_) | refine AL.a8 (fun _ _ _ _ => ?_) | refine AL.g1 ?_ | refine AL.g2 ?_ | refine AL.g3 ?_) | (refine AWp.go ?_; first | refine AWp.seq ?_ | refine AWp.region ?_ | refine AWp.block ?_ | refine AWp.skip ?_ | refine AWp.exit ?_ | refine AWp.ret ?_ | refine AWp.label ?_ | refine AWp.c1 ?_ | refine AWp.c2 ?_) | refine thenK.nn ?_ | refine thenK.x ?_ | refine thenK.r ?_ | refine blockK.nn ?_ | refine blockK.hit ?_ | refine blockK.m1 ?_ | refine blockK.r ?_ | refine endK.nn ?_ | refine effK.n1 ?_))
  refine AL.c2 (hx := rfl) (ha := rfl) (hc := is_yes (M0 := [(r7, .cells [.int .u64 1] u64T)]) (l := [1]) (v := 1) (e := 3) (.some rfl (RdL.whole (List.mem_cons_self ..))) rfl (by decide)) (kk := ?_)
  refine AL.nm ?_
  (repeat (first | (refine AL.go ?_; first | refine AL.a1 ?_ | refine AL.a2 ?_ | refine AL.nil ?_ | refine AL.a3 ?_ | refine AL.a4 (fun _ => ?_) | refine AL.a5 (fun _ => ?_) | refine AL.a6 (fun _ => ?_) | refine AL.a7 (fun _ => ?_) | refine AL.a8 (fun _ _ _ _ => ?_) | refine AL.g1 ?_ | refine AL.g2 ?_ | refine AL.g3 ?_) | (refine AWp.go ?_; first | refine AWp.seq ?_ | refine AWp.region ?_ | refine AWp.block ?_ | refine AWp.skip ?_ | refine AWp.exit ?_ | refine AWp.ret ?_ | refine AWp.label ?_ | refine AWp.c1 ?_ | refine AWp.c2 ?_) | refine thenK.nn ?_ | refine thenK.x ?_ | refine thenK.r ?_ | refine blockK.nn ?_ | refine blockK.hit ?_ | refine blockK.m1 ?_ | refine blockK.r ?_ | refine endK.nn ?_ | refine effK.n1 ?_))
  refine AL.c2 (hx := rfl) (ha := rfl) (hc := load_h (e := 1) (w := 7) F hN7 (by decide) rfl (by decide)) (kk := ?_)
  refine AL.nm ?_
  (repeat (first | (refine AL.go ?_; first | refine AL.a1 ?_ | refine AL.a2 ?_ | refine AL.nil ?_ | refine AL.a3 ?_ | refine AL.a4 (fun _ => ?_) | refine AL.a5 (fun _ => ?_) | refine AL.a6 (fun _ => ?_) | refine AL.a7 (fun _ => ?_) | refine AL.a8 (fun _ _ _ _ => ?_) | refine AL.g1 ?_ | refine AL.g2 ?_ | refine AL.g3 ?_) | (refine AWp.go ?_; first | refine AWp.seq ?_ | refine AWp.region ?_ | refine AWp.block ?_ | refine AWp.skip ?_ | refine AWp.exit ?_ | refine AWp.ret ?_ | refine AWp.label ?_ | refine AWp.c1 ?_ | refine AWp.c2 ?_) | refine thenK.nn ?_ | refine thenK.x ?_ | refine thenK.r ?_ | refine blockK.nn ?_ | refine blockK.hit ?_ | refine blockK.m1 ?_ | refine blockK.r ?_ | refine endK.nn ?_ | refine effK.n1 ?_))
  refine endK.go ?_; refine endK.r (RVals.one (RVal.tmp rfl)) ⟨rfl, rfl⟩ (by (first | ((repeat' first | exact Split.refl _ | exact Split.nil _ | exact Split.left _ _ | apply Split.cons | apply Split.assoc | refine Split.nilA rfl ?_ | exact Pick.head _ | apply Pick.tail | apply Pick.app | apply Split.consL | apply Split.lone | exact PickL.head _ | exact PickL.here | apply PickL.tail | apply PickL.app); done) | fail))
end Go.Proofs.Ytbchkofadjeblaa
