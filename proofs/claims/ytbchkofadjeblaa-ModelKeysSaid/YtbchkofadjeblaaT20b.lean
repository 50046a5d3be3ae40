import Derived.Test.YtbchkofadjeblaaT20a
import Derived.Test.YtbchkofadjeblaaSlO
set_option linter.unusedVariables false
set_option linter.unusedSimpArgs false
namespace Go.Proofs.Ytbchkofadjeblaa
open Go Go.SL
attribute [local irreducible] AL AWp thenK blockK endK ACalls RVals AD effK PVs PU PV planOk noP
set_option maxRecDepth 100000
set_option maxHeartbeats 4000000
variable {w0 : World} {B : Nat} {hB : B ≤ w0.heap.size}

abbrev iL (l : List Int) : List Value := l.map (Value.int .i64)
abbrev bL (l : List Bool) : List Value := l.map Value.bool
abbrev intT : TypeId := 3
abbrev boolT : TypeId := 4
abbrev resT : TypeId := 31
/-- which keys are known to be there; ex: also which are not -/
def Has100 (ex : Prop) (has : List Int) (s : HS) : Prop := has.length = 100 ∧ ∀ j : Nat, j < 100 → ∃ h, has[j]? = some h ∧ 0 ≤ h ∧ ((j : Int) ∈ s.keys → h ≠ 0) ∧ (ex → h ≠ 0 → (j : Int) ∈ s.keys)
structure MfSt where
  (i : Nat) (s : HS) (has : List Int) (el : List Bool) (M : Hp)
structure MfInv (k b m : Nat) (d : DeclD) (ex : Prop) (s : HS) (has : List Int) (el : List Bool) (M : Hp) (c n : Nat) : Prop where
  hM : HashAt k b m d s M
  hI : InvH d s
  clk : s.clock ≤ c
  len : s.elems.length ≤ n
  lt : ∀ j ∈ s.keys, j < 100
  has : Has100 ex has s
  ell : el.length = 300
  el : ∀ j : Nat, el[j]? = some true → j ≤ s.elems.length
theorem Has100.set {ex ex' : Prop} {has : List Int} {s s' : HS} {kj : Nat} {v : Int} (h : Has100 ex has s) (hk : kj < 100) (hv : 0 ≤ v) (h1 : ∀ j : Nat, j < 100 → j ≠ kj → (j : Int) ∈ s'.keys → (j : Int) ∈ s.keys)
    (h2 : ex' → ex ∧ ∀ j : Nat, j < 100 → j ≠ kj → (j : Int) ∈ s.keys → (j : Int) ∈ s'.keys) (h3 : ((kj : Int) ∈ s'.keys ↔ v ≠ 0)) : Has100 ex' (has.set kj v) s' := by
  refine ⟨by simp [h.1], fun j hj => ?_⟩
  by_cases e : j = kj
  · subst e
    have hlen := h.1
    exact ⟨v, by rw [List.getElem?_set_self (by omega)], hv, h3.1, fun _ => h3.2⟩
  · obtain ⟨x, a, b, c, d⟩ := h.2 j hj
    exact ⟨x, by rw [List.getElem?_set_ne (by omega)]; exact a, b, fun hm => c (h1 j hj e hm), fun hx h0 => (h2 hx).2 j hj e (d (h2 hx).1 h0)⟩
theorem iL_set (l : List Int) (j : Nat) (v : Int) : (iL l).set j (.int .i64 v) = iL (l.set j v) := by simp [iL, List.map_set]
theorem bL_set (l : List Bool) (j : Nat) (v : Bool) : (bL l).set j (.bool v) = bL (l.set j v) := by simp [bL, List.map_set]
theorem nextR_val (o : Option Int) : (nextR o).val = none := by cases o <;> rfl
structure NxSt where
  (c : Nat) (o : Option Int) (th : List Bool) (M : Hp)
structure CtSt where
  (j n : Nat) (has : List Int)

/-- the loop's body, each key -/
noncomputable abbrev fnP (p : List Dir) : Code := codeAt ([.r, .r, .r, .r, .r, .r, .r, .l, .r, .l, .l, .r, .l, .l] ++ p) (bodyOf Try.f3)
abbrev fnT (which entries : Int) (i x hq eq b1 o1 n' cap : Nat) : Tm := [(11, .int .i64 i), (10, .slice (some ⟨eq, 0, none⟩) 300 300), (9, .slice (some ⟨hq, 0, none⟩) 100 100), (8, .int .i64 (1 + pickF entries 64)), (7, .pointer (some ⟨x, 0, none⟩)), (0, .int .i64 which), (2, .slice (some ⟨b1, o1, none⟩) n' cap)]
abbrev fnM (hq eq : Nat) (Z : Hp) (s : MfSt) : Hp := (hq, .cells (iL s.has) intT) :: (eq, .cells (bL s.el) boolT) :: (s.M ++ Z)
theorem found_p1 {Z M : Hp} {x b k m hq eq i n' cap b1 o1 : Nat} {which entries v : Int} {s : HS} {has : List Int} {el : List Bool} {d : DeclD} (F : Frz (cx w0 B hB) Z x 1 d 1 (.iface hashT (.pointer (some ⟨k, 0, none⟩))) b) (hok : okH d) (hwk : which.tmod 2 ≠ 0 ↔ d.kind = 5)
    (hInv : MfInv k b m d True s has el M (3 * i) i) (hlt : i < n') (hn200 : n' ≤ 200) (hncap : n' ≤ cap) (rv : Rd (cx w0 B hB) [] b1 (o1 + (i : Int).toNat * 1) (.int .u64 v)) (hvU : isU v) {kj : Nat} (hkd : v.tmod 100 = kj) (hk1 : (kj : Int) < 100) {s1 : HS} {no : Int} (hu : updF d s kj i 0 = (s1, no)) (K : Exit → Tm → Hp → Prop) :
    upTo (cx w0 B hB) Try.f3.ntmps (Meet (σ := MfSt) (fun s => (13, .pointer (some ⟨s.i, 0, none⟩)) :: (12, .int .u64 kj) :: fnT which entries i x hq eq b1 o1 n' cap) (fun s => (s.i, .cells [.int .i64 no, nilS, .int .u64 0, .int .i64 0] resT) :: fnM hq eq Z s) (fun s => MfInv k b m d (d.kind = 4) s.s s.has s.el s.M (3 * i + 2) (i + 1) ∧ (no = 0 ↔ (kj : Int) ∈ s.s.keys))) K 5 (fnP [])
      (fnT which entries i x hq eq b1 o1 n' cap) (fnM hq eq Z ⟨i, s, has, el, M⟩) := by
  obtain ⟨hM, hI, hclk, hlen, hks, hA, hel, hE⟩ := hInv
  have hk45 := hok.kind
  have hde1 := hok.e1
  have hde2 := hok.e2
  have hhl := hA.1
  have hk0 : (0 : Int) ≤ kj := by omega
  have hkU : isU kj := ⟨hk0, by omega⟩
  have hupd := upd_any (key := kj) (v := i) hI hk45 hde1
  have hI1 := hI.upd (key := kj) i 0 hkU hde1
  rw [hu] at hupd hI1
  dsimp only at hupd hI1
  obtain ⟨hI1, hc1, hc1'⟩ := hI1
  refine upTo.s ?_
  (repeat (first | (refine AL.go ?_; first | refine AL.a1 ?_ | refine AL.a2 ?_ | refine AL.nil ?_ | refine AL.a3 ?_ | refine AL.a4 (fun _ => ?_) | refine AL.a5 (fun _ => ?_) | refine AL.a6 (fun _ => ?_) | refine AL.a7 (fun _ => ?_) | refine AL.a8 (fun _ _ _ _ => ?_) | refine AL.g1 ?_ | refine AL.g2 ?_ | refine AL.g3 ?_) | (refine AWp.go ?_; first | refine AWp.seq ?_ | refine AWp.region ?_ | refine AWp.block ?_ | refine AWp.skip ?_ | refine AWp.exit ?_ | refine AWp.ret ?_ | refine AWp.label ?_ | refine AWp.c1 ?_ | refine AWp.c2 ?_ | refine AWp.d1 (id := 25) (.take 0 (.take 1 (.take 2 (.take 6 (.take 7 (.take 8 (.take 3 (.take 4 (.take 5 (.take 9 (.take 10 (.take 11 (.take 12 (.take 13 (.take 14 (.take 15 (.take 16 (.take 17 (.done))))))))))))))))))) (by kernel_rfl) ?_) | (refine AD.go ?_; first | refine AD.d1 ?_ | refine AD.d2 ?_ | refine AD.d3 ?_ | refine AD.d0 ?_ | refine AD.d4 ?_ | refine AD.d5 ?_ | refine AD.d6 ?_ | refine AD.d7 ?_ | refine AD.d8 ?_ | refine AD.d9 ?_ | refine AD.e9 ?_ | refine AD.two rfl rfl rfl ?_ ?_) | refine thenK.nn ?_ | refine thenK.x ?_ | refine thenK.r ?_ | refine blockK.nn ?_ | refine blockK.hit ?_ | refine blockK.m1 ?_ | refine blockK.r ?_ | refine endK.nn ?_ | refine effK.n1 ?_))
  rw [hkd]
  refine AL.c1 (hx := rfl) (ha := rfl) (hc := upd_s kj i 0) (kk := ?_)
  rintro _ _ ⟨q1, rfl, rfl⟩
  refine AL.nm ?_
  (repeat (first | (refine AL.go ?_; first | refine AL.a1 ?_ | refine AL.a2 ?_ | refine AL.nil ?_ | refine AL.a3 ?_ | refine AL.a4 (fun _ => ?_) | refine AL.a5 (fun _ => ?_) | refine AL.a6 (fun _ => ?_) | refine AL.a7 (fun _ => ?_) | refine AL.a8 (fun _ _ _ _ => ?_) | refine AL.g1 ?_ | refine AL.g2 ?_ | refine AL.g3 ?_) | (refine AWp.go ?_; first | refine AWp.seq ?_ | refine AWp.region ?_ | refine AWp.block ?_ | refine AWp.skip ?_ | refine AWp.exit ?_ | refine AWp.ret ?_ | refine AWp.label ?_ | refine AWp.c1 ?_ | refine AWp.c2 ?_ | refine AWp.d1 (id := 25) (.take 0 (.take 1 (.take 2 (.take 6 (.take 7 (.take 8 (.take 3 (.take 4 (.take 5 (.take 9 (.take 10 (.take 11 (.take 12 (.take 13 (.take 14 (.take 15 (.take 16 (.take 17 (.done))))))))))))))))))) (by kernel_rfl) ?_) | (refine AD.go ?_; first | refine AD.d1 ?_ | refine AD.d2 ?_ | refine AD.d3 ?_ | refine AD.d0 ?_ | refine AD.d4 ?_ | refine AD.d5 ?_ | refine AD.d6 ?_ | refine AD.d7 ?_ | refine AD.d8 ?_ | refine AD.d9 ?_ | refine AD.e9 ?_ | refine AD.two rfl rfl rfl ?_ ?_) | refine thenK.nn ?_ | refine thenK.x ?_ | refine thenK.r ?_ | refine blockK.nn ?_ | refine blockK.hit ?_ | refine blockK.m1 ?_ | refine blockK.r ?_ | refine endK.nn ?_ | refine effK.n1 ?_))
  refine AL.c1 (hx := rfl) (ha := rfl) (hc := doh_upd (o := ⟨2, kj, .slice (some ⟨q1, 0, none⟩) 1 1, 0, 0⟩) (M0 := [(q1, .cells [.int .u64 i] u64T)]) (v := i) F hM hI hok (by omega) rfl (by omega) (Rd.own (List.mem_cons_self ..) rfl) rfl (right_h hk45 hok.w (by simp))) (kk := ?_)
  rintro _ _ ⟨R1, M1, hR1, hM1, rfl⟩
  rw [hdo_upd, hu] at hR1 hM1
  dsimp only at hR1 hM1
  obtain ⟨rfl, rfl⟩ := resAt_none hR1 rfl
  refine AL.nm ?_
  obtain ⟨h, hh, hh0, hh1, hh2⟩ := hA.2 kj (by omega)
  have hrd : Rd (cx w0 B hB) [(hq, .cells (iL has) intT)] hq (0 + (kj : Int).toNat * 1) (.int .i64 h) := Rd.own (List.mem_cons_self ..) (by simp [HObj.list, hh])
  · rcases hupd with ⟨rfl, hk4, hnk, rfl, _⟩ | ⟨rfl, e, hfe, hev, hnew, hl1, hl2, hin, hkeep⟩
    · have hz : h = 0 := Classical.byContradiction fun h0 => hnk (hh2 trivial h0)
      subst hz
      have hw0 : which.tmod 2 = 0 := Classical.byContradiction fun h0 => by have := hwk.1 h0; omega
      (repeat (first | (refine AL.go ?_; first | refine AL.a1 ?_ | refine AL.a2 ?_ | refine AL.nil ?_ | refine AL.a3 ?_ | refine AL.a4 (fun _ => ?_) | refine AL.a5 (fun _ => ?_) | refine AL.a6 (fun _ => ?_) | refine AL.a7 (fun _ => ?_) | refine AL.a8 (fun _ _ _ _ => ?_) | refine AL.g1 ?_ | refine AL.g2 ?_ | refine AL.g3 ?_ | (refine AL.c2 (hx := rfl) (ha := rfl) (hc := (look_s kj)) (kk := ?_); refine AL.nm ?_)) | (refine AWp.go ?_; first | refine AWp.seq ?_ | refine AWp.region ?_ | refine AWp.block ?_ | refine AWp.skip ?_ | refine AWp.exit ?_ | refine AWp.ret ?_ | refine AWp.label ?_ | refine AWp.c1 ?_ | refine AWp.c2 ?_ | refine AWp.d1 (id := 25) (.take 0 (.take 1 (.take 2 (.take 6 (.take 7 (.take 8 (.take 3 (.take 4 (.take 5 (.take 9 (.take 10 (.take 11 (.take 12 (.take 13 (.take 14 (.take 15 (.take 16 (.take 17 (.done))))))))))))))))))) (by kernel_rfl) ?_) | (refine AD.go ?_; first | refine AD.d1 ?_ | refine AD.d2 ?_ | refine AD.d3 ?_ | refine AD.d0 ?_ | refine AD.d4 ?_ | refine AD.d5 ?_ | refine AD.d6 ?_ | refine AD.d7 ?_ | refine AD.d8 ?_ | refine AD.d9 ?_ | refine AD.e9 ?_ | refine AD.two rfl rfl rfl ?_ ?_) | refine thenK.nn ?_ | refine thenK.x ?_ | refine thenK.r ?_ | refine blockK.nn ?_ | refine blockK.hit ?_ | refine blockK.m1 ?_ | refine blockK.r ?_ | refine endK.nn ?_ | refine effK.n1 ?_))
      rename_i rq
      refine AL.c1 (hx := rfl) (ha := rfl) (hc := doh_get (o := ⟨1, kj, nilS, 0, 0⟩) F hM1 hI1 hok (by omega) rfl hkU (by simp) (right_h hk45 hok.w (by simp))) (kk := ?_)
      rintro _ _ ⟨R2, M2, hR2, hM2, rfl⟩
      rw [show hdoF d _ _ _ _ _ = _ from hdo_miss (.inl rfl) (efind_not hnk)] at hR2 hM2
      obtain ⟨rfl, rfl⟩ := resAt_none hR2 rfl
      refine AL.nm ?_
      (repeat (first | (refine AL.go ?_; first | refine AL.a1 ?_ | refine AL.a2 ?_ | refine AL.nil ?_ | refine AL.a3 ?_ | refine AL.a4 (fun _ => ?_) | refine AL.a5 (fun _ => ?_) | refine AL.a6 (fun _ => ?_) | refine AL.a7 (fun _ => ?_) | refine AL.a8 (fun _ _ _ _ => ?_) | refine AL.g1 ?_ | refine AL.g2 ?_ | refine AL.g3 ?_) | (refine AWp.go ?_; first | refine AWp.seq ?_ | refine AWp.region ?_ | refine AWp.block ?_ | refine AWp.skip ?_ | refine AWp.exit ?_ | refine AWp.ret ?_ | refine AWp.label ?_ | refine AWp.c1 ?_ | refine AWp.c2 ?_ | refine AWp.d1 (id := 25) (.take 0 (.take 1 (.take 2 (.take 6 (.take 7 (.take 8 (.take 3 (.take 4 (.take 5 (.take 9 (.take 10 (.take 11 (.take 12 (.take 13 (.take 14 (.take 15 (.take 16 (.take 17 (.done))))))))))))))))))) (by kernel_rfl) ?_) | (refine AD.go ?_; first | refine AD.d1 ?_ | refine AD.d2 ?_ | refine AD.d3 ?_ | refine AD.d0 ?_ | refine AD.d4 ?_ | refine AD.d5 ?_ | refine AD.d6 ?_ | refine AD.d7 ?_ | refine AD.d8 ?_ | refine AD.d9 ?_ | refine AD.e9 ?_ | refine AD.two rfl rfl rfl ?_ ?_) | refine thenK.nn ?_ | refine thenK.x ?_ | refine thenK.r ?_ | refine blockK.nn ?_ | refine blockK.hit ?_ | refine blockK.m1 ?_ | refine blockK.r ?_ | refine endK.nn ?_ | refine effK.n1 ?_))
      exact Meet.at ⟨rq, s1, has, el, M2⟩ ⟨⟨hM2, hI1, by dsimp only; omega, by dsimp only; omega, hks, ⟨hhl, fun j hj => by obtain ⟨y, a1, a2, a3, a4⟩ := hA.2 j hj; exact ⟨y, a1, a2, a3, fun _ => a4 trivial⟩⟩, hel, hE⟩, by simp only [hnk, iff_false]; decide⟩ (by first | ((repeat (first | exact True.intro | refine ⟨rfl, ?_⟩)); done) | fail) Has.of
    · obtain ⟨he1, he2⟩ := efind_mem hfe
      obtain ⟨hel1, hel2⟩ := hI1.elem e he1
      have hdone : ∀ (M2 : Hp), HashAt k b m d ⟨euse s1.es kj (s1.clock + 1), s1.clock + 1, s1.elems⟩ M2 → MfInv k b m d (d.kind = 4) ⟨euse s1.es kj (s1.clock + 1), s1.clock + 1, s1.elems⟩ (has.set kj (i + 1)) (el.set e.elem.toNat true) M2 (3 * i + 2) (i + 1) ∧ ((0 : Int) = 0 ↔ (kj : Int) ∈ (euse s1.es kj (s1.clock + 1)).map Ent.key) := by
        intro M2 hM2
        have hkeys : (⟨euse s1.es kj (s1.clock + 1), s1.clock + 1, s1.elems⟩ : HS).keys = s1.keys := euse_keys' _ _ _
        have hkin : (kj : Int) ∈ s1.keys := efind_keys hfe
        refine ⟨⟨hM2, hI1.use rfl, by dsimp only; omega, by dsimp only; omega, ?_, ?_, by simp [hel], ?_⟩, by simp only [true_iff]; rw [euse_keys']; exact hkin⟩
        · intro j hj
          rw [hkeys] at hj
          rcases hin j hj with rfl | hj
          · omega
          · exact hks j hj
        · refine hA.set (by omega) (by omega) ?_ ?_ ?_
          · intro j _ hne hj
            rw [hkeys] at hj
            rcases hin j hj with h | h
            · omega
            · exact h
          · intro h4
            refine ⟨trivial, fun j _ hne hj => ?_⟩
            rw [hkeys]
            exact hkeep h4 j hj
          · rw [hkeys]
            exact ⟨fun _ => by omega, fun _ => hkin⟩
        · intro j hj
          dsimp only
          by_cases hje : j = e.elem.toNat
          · omega
          · rw [List.getElem?_set_ne (by omega)] at hj
            have := hE j hj
            omega
      have hr2 : Rd (cx w0 B hB) [(eq, .cells (bL el) boolT)] eq (0 + e.elem.toNat * 1) (.bool (el[e.elem.toNat]'(by omega))) := Rd.own (List.mem_cons_self ..) (by simp [HObj.list, List.getElem?_eq_getElem (show e.elem.toNat < el.length by omega)])
      have hfresh : h = 0 → el[e.elem.toNat]'(by omega) = false := by
        intro h0
        subst h0
        have := hnew (fun hm => hh1 hm rfl)
        cases hb : el[e.elem.toNat]'(by omega) with
        | false => rfl
        | true =>
          have := hE e.elem.toNat (by rw [List.getElem?_eq_getElem (by omega), hb])
          omega
      generalize el[e.elem.toNat]'(by omega) = bb at hr2 hfresh
      (repeat (first | (refine AL.go ?_; first | refine AL.a1 ?_ | refine AL.a2 ?_ | refine AL.nil ?_ | refine AL.a3 ?_ | refine AL.a4 (fun _ => ?_) | refine AL.a5 (fun _ => ?_) | refine AL.a6 (fun _ => ?_) | refine AL.a7 (fun _ => ?_) | refine AL.a8 (fun _ _ _ _ => ?_) | refine AL.g1 ?_ | refine AL.g2 ?_ | refine AL.g3 ?_ | (refine AL.c2 (hx := rfl) (ha := rfl) (hc := (look_s kj)) (kk := ?_); refine AL.nm ?_)) | (refine AWp.go ?_; first | refine AWp.seq ?_ | refine AWp.region ?_ | refine AWp.block ?_ | refine AWp.skip ?_ | refine AWp.exit ?_ | refine AWp.ret ?_ | refine AWp.label ?_ | refine AWp.c1 ?_ | refine AWp.c2 ?_ | refine AWp.d1 (id := 25) (.take 0 (.take 1 (.take 2 (.take 6 (.take 7 (.take 8 (.take 3 (.take 4 (.take 5 (.take 9 (.take 10 (.take 11 (.take 12 (.take 13 (.take 14 (.take 15 (.take 16 (.take 17 (.done))))))))))))))))))) (by kernel_rfl) ?_) | (refine AD.go ?_; first | refine AD.d1 ?_ | refine AD.d2 ?_ | refine AD.d3 ?_ | refine AD.d0 ?_ | refine AD.d4 ?_ | refine AD.d5 ?_ | refine AD.d6 ?_ | refine AD.d7 ?_ | refine AD.d8 ?_ | refine AD.d9 ?_ | refine AD.e9 ?_ | refine AD.two rfl rfl rfl ?_ ?_) | refine thenK.nn ?_ | refine thenK.x ?_ | refine thenK.r ?_ | refine blockK.nn ?_ | refine blockK.hit ?_ | refine blockK.m1 ?_ | refine blockK.r ?_ | refine endK.nn ?_ | refine effK.n1 ?_))
      rename_i rq
      refine AL.c1 (hx := rfl) (ha := rfl) (hc := doh_get (o := ⟨1, kj, nilS, 0, 0⟩) F hM1 hI1 hok (by omega) rfl hkU (by simp) (right_h hk45 hok.w (by simp))) (kk := ?_)
      rintro _ _ ⟨R2, M2, hR2, hM2, rfl⟩
      rw [show hdoF d _ _ _ _ _ = _ from hdo_look_hit hfe, hev] at hR2
      rw [show hdoF d _ _ _ _ _ = _ from hdo_look_hit hfe] at hM2
      obtain ⟨r2, rfl, rfl⟩ := resAt_some hR2 rfl
      refine AL.nm ?_
      dsimp only
      (repeat (first | (refine AL.go ?_; first | refine AL.a1 ?_ | refine AL.a2 ?_ | refine AL.nil ?_ | refine AL.a3 ?_ | refine AL.a4 (fun _ => ?_) | refine AL.a5 (fun _ => ?_) | refine AL.a6 (fun _ => ?_) | refine AL.a7 (fun _ => ?_) | refine AL.a8 (fun _ _ _ _ => ?_) | refine AL.g1 ?_ | refine AL.g2 ?_ | refine AL.g3 ?_) | (refine AWp.go ?_; first | refine AWp.seq ?_ | refine AWp.region ?_ | refine AWp.block ?_ | refine AWp.skip ?_ | refine AWp.exit ?_ | refine AWp.ret ?_ | refine AWp.label ?_ | refine AWp.c1 ?_ | refine AWp.c2 ?_ | refine AWp.d1 (id := 25) (.take 0 (.take 1 (.take 2 (.take 6 (.take 7 (.take 8 (.take 3 (.take 4 (.take 5 (.take 9 (.take 10 (.take 11 (.take 12 (.take 13 (.take 14 (.take 15 (.take 16 (.take 17 (.done))))))))))))))))))) (by kernel_rfl) ?_) | (refine AD.go ?_; first | refine AD.d1 ?_ | refine AD.d2 ?_ | refine AD.d3 ?_ | refine AD.d0 ?_ | refine AD.d4 ?_ | refine AD.d5 ?_ | refine AD.d6 ?_ | refine AD.d7 ?_ | refine AD.d8 ?_ | refine AD.d9 ?_ | refine AD.e9 ?_ | refine AD.two rfl rfl rfl ?_ ?_) | refine thenK.nn ?_ | refine thenK.x ?_ | refine thenK.r ?_ | refine blockK.nn ?_ | refine blockK.hit ?_ | refine blockK.m1 ?_ | refine blockK.r ?_ | refine endK.nn ?_ | refine effK.n1 ?_))
      refine AL.c2 (hx := rfl) (ha := rfl) (hc := is_yes (M0 := [(r2, .cells [.int .u64 i] u64T)]) (l := [(i : Int)]) (v := i) (e := e.elem) (.some rfl (RdL.whole (List.mem_cons_self ..))) rfl (by decide)) (kk := ?_)
      rw [show (decide (e.elem = e.elem) && decide ([(i : Int)] = [(i : Int)])) = true by simp]
      refine AL.nm ?_
      by_cases hz : h = 0
      · have hb0 := hfresh hz
        subst hz hb0
        (repeat (first | (refine AL.go ?_; first | refine AL.a1 ?_ | refine AL.a2 ?_ | refine AL.nil ?_ | refine AL.a3 ?_ | refine AL.a4 (fun _ => ?_) | refine AL.a5 (fun _ => ?_) | refine AL.a6 (fun _ => ?_) | refine AL.a7 (fun _ => ?_) | refine AL.a8 (fun _ _ _ _ => ?_) | refine AL.g1 ?_ | refine AL.g2 ?_ | refine AL.g3 ?_) | (refine AWp.go ?_; first | refine AWp.seq ?_ | refine AWp.region ?_ | refine AWp.block ?_ | refine AWp.skip ?_ | refine AWp.exit ?_ | refine AWp.ret ?_ | refine AWp.label ?_ | refine AWp.c1 ?_ | refine AWp.c2 ?_ | refine AWp.d1 (id := 25) (.take 0 (.take 1 (.take 2 (.take 6 (.take 7 (.take 8 (.take 3 (.take 4 (.take 5 (.take 9 (.take 10 (.take 11 (.take 12 (.take 13 (.take 14 (.take 15 (.take 16 (.take 17 (.done))))))))))))))))))) (by kernel_rfl) ?_) | (refine AD.go ?_; first | refine AD.d1 ?_ | refine AD.d2 ?_ | refine AD.d3 ?_ | refine AD.d0 ?_ | refine AD.d4 ?_ | refine AD.d5 ?_ | refine AD.d6 ?_ | refine AD.d7 ?_ | refine AD.d8 ?_ | refine AD.d9 ?_ | refine AD.e9 ?_ | refine AD.two rfl rfl rfl ?_ ?_) | refine thenK.nn ?_ | refine thenK.x ?_ | refine thenK.r ?_ | refine blockK.nn ?_ | refine blockK.hit ?_ | refine blockK.m1 ?_ | refine blockK.r ?_ | refine endK.nn ?_ | refine effK.n1 ?_))
        refine AL.a3 (hu := (by first | ((repeat (first | exact Upd.cellJ (by simp only [List.length_map, List.length_set, List.length_replicate]; omega) | apply Upd.tail | apply Upd.app)); done) | fail)) ?_
        rw [bL_set]
        (repeat (first | (refine AL.go ?_; first | refine AL.a1 ?_ | refine AL.a2 ?_ | refine AL.nil ?_ | refine AL.a3 ?_ | refine AL.a4 (fun _ => ?_) | refine AL.a5 (fun _ => ?_) | refine AL.a6 (fun _ => ?_) | refine AL.a7 (fun _ => ?_) | refine AL.a8 (fun _ _ _ _ => ?_) | refine AL.g1 ?_ | refine AL.g2 ?_ | refine AL.g3 ?_) | (refine AWp.go ?_; first | refine AWp.seq ?_ | refine AWp.region ?_ | refine AWp.block ?_ | refine AWp.skip ?_ | refine AWp.exit ?_ | refine AWp.ret ?_ | refine AWp.label ?_ | refine AWp.c1 ?_ | refine AWp.c2 ?_ | refine AWp.d1 (id := 25) (.take 0 (.take 1 (.take 2 (.take 6 (.take 7 (.take 8 (.take 3 (.take 4 (.take 5 (.take 9 (.take 10 (.take 11 (.take 12 (.take 13 (.take 14 (.take 15 (.take 16 (.take 17 (.done))))))))))))))))))) (by kernel_rfl) ?_) | (refine AD.go ?_; first | refine AD.d1 ?_ | refine AD.d2 ?_ | refine AD.d3 ?_ | refine AD.d0 ?_ | refine AD.d4 ?_ | refine AD.d5 ?_ | refine AD.d6 ?_ | refine AD.d7 ?_ | refine AD.d8 ?_ | refine AD.d9 ?_ | refine AD.e9 ?_ | refine AD.two rfl rfl rfl ?_ ?_) | refine thenK.nn ?_ | refine thenK.x ?_ | refine thenK.r ?_ | refine blockK.nn ?_ | refine blockK.hit ?_ | refine blockK.m1 ?_ | refine blockK.r ?_ | refine endK.nn ?_ | refine effK.n1 ?_))
        refine AL.a3 (hu := (by first | ((repeat (first | exact Upd.cellJ (by simp only [List.length_map, List.length_set, List.length_replicate]; omega) | apply Upd.tail | apply Upd.app)); done) | fail)) ?_
        rw [iL_set]
        (repeat (first | (refine AL.go ?_; first | refine AL.a1 ?_ | refine AL.a2 ?_ | refine AL.nil ?_ | refine AL.a3 ?_ | refine AL.a4 (fun _ => ?_) | refine AL.a5 (fun _ => ?_) | refine AL.a6 (fun _ => ?_) | refine AL.a7 (fun _ => ?_) | refine AL.a8 (fun _ _ _ _ => ?_) | refine AL.g1 ?_ | refine AL.g2 ?_ | refine AL.g3 ?_) | (refine AWp.go ?_; first | refine AWp.seq ?_ | refine AWp.region ?_ | refine AWp.block ?_ | refine AWp.skip ?_ | refine AWp.exit ?_ | refine AWp.ret ?_ | refine AWp.label ?_ | refine AWp.c1 ?_ | refine AWp.c2 ?_ | refine AWp.d1 (id := 25) (.take 0 (.take 1 (.take 2 (.take 6 (.take 7 (.take 8 (.take 3 (.take 4 (.take 5 (.take 9 (.take 10 (.take 11 (.take 12 (.take 13 (.take 14 (.take 15 (.take 16 (.take 17 (.done))))))))))))))))))) (by kernel_rfl) ?_) | (refine AD.go ?_; first | refine AD.d1 ?_ | refine AD.d2 ?_ | refine AD.d3 ?_ | refine AD.d0 ?_ | refine AD.d4 ?_ | refine AD.d5 ?_ | refine AD.d6 ?_ | refine AD.d7 ?_ | refine AD.d8 ?_ | refine AD.d9 ?_ | refine AD.e9 ?_ | refine AD.two rfl rfl rfl ?_ ?_) | refine thenK.nn ?_ | refine thenK.x ?_ | refine thenK.r ?_ | refine blockK.nn ?_ | refine blockK.hit ?_ | refine blockK.m1 ?_ | refine blockK.r ?_ | refine endK.nn ?_ | refine effK.n1 ?_))
        exact Meet.at ⟨rq, ⟨euse s1.es kj (s1.clock + 1), s1.clock + 1, s1.elems⟩, has.set kj (i + 1), el.set e.elem.toNat true, M2⟩ (hdone M2 hM2) (by first | ((repeat (first | exact True.intro | refine ⟨rfl, ?_⟩)); done) | fail) Has.of
      · (repeat (first | (refine AL.go ?_; first | refine AL.a1 ?_ | refine AL.a2 ?_ | refine AL.nil ?_ | refine AL.a3 ?_ | refine AL.a4 (fun _ => ?_) | refine AL.a5 (fun _ => ?_) | refine AL.a6 (fun _ => ?_) | refine AL.a7 (fun _ => ?_) | refine AL.a8 (fun _ _ _ _ => ?_) | refine AL.g1 ?_ | refine AL.g2 ?_ | refine AL.g3 ?_) | (refine AWp.go ?_; first | refine AWp.seq ?_ | refine AWp.region ?_ | refine AWp.block ?_ | refine AWp.skip ?_ | refine AWp.exit ?_ | refine AWp.ret ?_ | refine AWp.label ?_ | refine AWp.c1 ?_ | refine AWp.c2 ?_ | refine AWp.d1 (id := 25) (.take 0 (.take 1 (.take 2 (.take 6 (.take 7 (.take 8 (.take 3 (.take 4 (.take 5 (.take 9 (.take 10 (.take 11 (.take 12 (.take 13 (.take 14 (.take 15 (.take 16 (.take 17 (.done))))))))))))))))))) (by kernel_rfl) ?_) | (refine AD.go ?_; first | refine AD.d1 ?_ | refine AD.d2 ?_ | refine AD.d3 ?_ | refine AD.d0 ?_ | refine AD.d4 ?_ | refine AD.d5 ?_ | refine AD.d6 ?_ | refine AD.d7 ?_ | refine AD.d8 ?_ | refine AD.d9 ?_ | refine AD.e9 ?_ | refine AD.two rfl rfl rfl ?_ ?_) | refine thenK.nn ?_ | refine thenK.x ?_ | refine thenK.r ?_ | refine blockK.nn ?_ | refine blockK.hit ?_ | refine blockK.m1 ?_ | refine blockK.r ?_ | refine endK.nn ?_ | refine effK.n1 ?_))
        refine AL.a3 (hu := (by first | ((repeat (first | exact Upd.cellJ (by simp only [List.length_map, List.length_set, List.length_replicate]; omega) | apply Upd.tail | apply Upd.app)); done) | fail)) ?_
        rw [bL_set]
        (repeat (first | (refine AL.go ?_; first | refine AL.a1 ?_ | refine AL.a2 ?_ | refine AL.nil ?_ | refine AL.a3 ?_ | refine AL.a4 (fun _ => ?_) | refine AL.a5 (fun _ => ?_) | refine AL.a6 (fun _ => ?_) | refine AL.a7 (fun _ => ?_) | refine AL.a8 (fun _ _ _ _ => ?_) | refine AL.g1 ?_ | refine AL.g2 ?_ | refine AL.g3 ?_) | (refine AWp.go ?_; first | refine AWp.seq ?_ | refine AWp.region ?_ | refine AWp.block ?_ | refine AWp.skip ?_ | refine AWp.exit ?_ | refine AWp.ret ?_ | refine AWp.label ?_ | refine AWp.c1 ?_ | refine AWp.c2 ?_ | refine AWp.d1 (id := 25) (.take 0 (.take 1 (.take 2 (.take 6 (.take 7 (.take 8 (.take 3 (.take 4 (.take 5 (.take 9 (.take 10 (.take 11 (.take 12 (.take 13 (.take 14 (.take 15 (.take 16 (.take 17 (.done))))))))))))))))))) (by kernel_rfl) ?_) | (refine AD.go ?_; first | refine AD.d1 ?_ | refine AD.d2 ?_ | refine AD.d3 ?_ | refine AD.d0 ?_ | refine AD.d4 ?_ | refine AD.d5 ?_ | refine AD.d6 ?_ | refine AD.d7 ?_ | refine AD.d8 ?_ | refine AD.d9 ?_ | refine AD.e9 ?_ | refine AD.two rfl rfl rfl ?_ ?_) | refine thenK.nn ?_ | refine thenK.x ?_ | refine thenK.r ?_ | refine blockK.nn ?_ | refine blockK.hit ?_ | refine blockK.m1 ?_ | refine blockK.r ?_ | refine endK.nn ?_ | refine effK.n1 ?_))
        refine AL.a3 (hu := (by first | ((repeat (first | exact Upd.cellJ (by simp only [List.length_map, List.length_set, List.length_replicate]; omega) | apply Upd.tail | apply Upd.app)); done) | fail)) ?_
        rw [iL_set]
        (repeat (first | (refine AL.go ?_; first | refine AL.a1 ?_ | refine AL.a2 ?_ | refine AL.nil ?_ | refine AL.a3 ?_ | refine AL.a4 (fun _ => ?_) | refine AL.a5 (fun _ => ?_) | refine AL.a6 (fun _ => ?_) | refine AL.a7 (fun _ => ?_) | refine AL.a8 (fun _ _ _ _ => ?_) | refine AL.g1 ?_ | refine AL.g2 ?_ | refine AL.g3 ?_) | (refine AWp.go ?_; first | refine AWp.seq ?_ | refine AWp.region ?_ | refine AWp.block ?_ | refine AWp.skip ?_ | refine AWp.exit ?_ | refine AWp.ret ?_ | refine AWp.label ?_ | refine AWp.c1 ?_ | refine AWp.c2 ?_ | refine AWp.d1 (id := 25) (.take 0 (.take 1 (.take 2 (.take 6 (.take 7 (.take 8 (.take 3 (.take 4 (.take 5 (.take 9 (.take 10 (.take 11 (.take 12 (.take 13 (.take 14 (.take 15 (.take 16 (.take 17 (.done))))))))))))))))))) (by kernel_rfl) ?_) | (refine AD.go ?_; first | refine AD.d1 ?_ | refine AD.d2 ?_ | refine AD.d3 ?_ | refine AD.d0 ?_ | refine AD.d4 ?_ | refine AD.d5 ?_ | refine AD.d6 ?_ | refine AD.d7 ?_ | refine AD.d8 ?_ | refine AD.d9 ?_ | refine AD.e9 ?_ | refine AD.two rfl rfl rfl ?_ ?_) | refine thenK.nn ?_ | refine thenK.x ?_ | refine thenK.r ?_ | refine blockK.nn ?_ | refine blockK.hit ?_ | refine blockK.m1 ?_ | refine blockK.r ?_ | refine endK.nn ?_ | refine effK.n1 ?_))
        exact Meet.at ⟨rq, ⟨euse s1.es kj (s1.clock + 1), s1.clock + 1, s1.elems⟩, has.set kj (i + 1), el.set e.elem.toNat true, M2⟩ (hdone M2 hM2) (by first | ((repeat (first | exact True.intro | refine ⟨rfl, ?_⟩)); done) | fail) Has.of
end Go.Proofs.Ytbchkofadjeblaa
