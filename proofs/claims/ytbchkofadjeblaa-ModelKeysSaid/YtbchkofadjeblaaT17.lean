import Derived.Test.YtbchkofadjeblaaT14
import Derived.Test.YtbchkofadjeblaaT16
import Derived.Test.YtbchkofadjeblaaH3
import Derived.Test.YtbchkofadjeblaaTy2
set_option linter.unusedVariables false
set_option linter.unusedSimpArgs false
namespace Go.Proofs.Ytbchkofadjeblaa
open Go Go.SL
attribute [local irreducible] AL AWp thenK blockK endK ACalls RVals AD effK PVs PU PV planOk noP
set_option maxRecDepth 100000
set_option maxHeartbeats 2000000
variable {w0 : World} {B : Nat} {hB : B ≤ w0.heap.size}

theorem IsRow.one_inv {sz : Nat} {e : TypeId} {v : Value} {cs : List Value} {R : Hp} (h : IsRow sz e v 1 cs R) : ∃ b c hb, v = .slice (some ⟨b, 0, none⟩) 1 c ∧ R = [(b, hb)] ∧ HObj.list hb = cs := by
  generalize hn : 1 = n at h
  cases h with
  | nil => cases hn
  | lit h1 h2 => exact ⟨_, _, _, rfl, rfl, rfl⟩
  | row h1 h2 h3 => exact ⟨_, _, _, rfl, rfl, rfl⟩
theorem Keeps.one_inv {d : DeclD} {bs : List Nat} {ks : List Value} {V : Hp} (h : Keeps [d] bs ks V) : ∃ b kv, bs = [b] ∧ ks = [kv] ∧ Kept d b kv V := by
  generalize hd : [d] = ds at h
  cases h with
  | nil => cases hd
  | @snoc ds bs ks V K d' b kv h1 h2 =>
    cases ds with
    | nil =>
      simp only [List.nil_append, List.cons.injEq, and_true] at hd
      subst hd
      generalize hz : ([] : List DeclD) = zs at h1
      cases h1 with
      | nil => exact ⟨b, kv, rfl, rfl, by simpa using h2⟩
      | snoc => simp at hz
    | cons a l => simp at hd
theorem newOne {C : Cx} {d : DeclD} {cpus : Int} {x : Nat} {M : Hp} (h : NewAt [d] cpus x M) : ∃ b kv K Z, Nonempty (Frz C Z x 1 d cpus kv b) ∧ Kept d b kv K ∧ M = Z ++ K := by
  obtain ⟨dv, av, bv, R1, Ra, Rb, V, bs, ks, h1, h2, h3, hK, rfl⟩ := h
  obtain ⟨b, kv, rfl, rfl, hk⟩ := hK.one_inv
  obtain ⟨db, dc, hd, rfl, rfl, e1⟩ := IsRow.one_inv h1
  obtain ⟨bb, bc, hb, rfl, rfl, e2⟩ := IsRow.one_inv h2
  obtain ⟨ab, ac, ha, rfl, rfl, e3⟩ := IsRow.one_inv h3
  have g1 : ∀ (i : Nat) (v : Value), d.cells[i]? = some v → (HObj.list hd)[i]? = some v := fun i v h => by rw [e1]; simpa using h
  refine ⟨b, kv, V, mapsB x (.slice (some ⟨db, 0, none⟩) 1 dc) cpus (.slice (some ⟨ab, 0, none⟩) 1 ac) (.slice (some ⟨bb, 0, none⟩) 1 bc) :: ([(db, hd)] ++ ([(bb, hb)] ++ [(ab, ha)])), ⟨⟨1, db, dc, ab, ac, bb, bc, ?_, ?_, ?_, ?_, ?_, ?_, ?_, ?_, ?_, ?_, ?_, by omega, by simp, by omega⟩⟩, hk, by simp⟩
  · exact Rd.own (List.mem_cons_self ..) rfl
  · exact Rd.own (List.mem_cons_self ..) rfl
  · exact Rd.own (List.mem_cons_self ..) rfl
  · exact Rd.own (List.mem_cons_self ..) rfl
  · exact Rd.own (h := hd) (by simp) (g1 0 _ rfl)
  · exact Rd.own (h := hd) (by simp) (g1 1 _ rfl)
  · exact Rd.own (h := hd) (by simp) (g1 2 _ rfl)
  · exact Rd.own (h := hd) (by simp) (g1 3 _ rfl)
  · exact Rd.own (h := hd) (by simp) (g1 4 _ rfl)
  · exact Rd.own (h := ha) (by simp) (by rw [e3]; rfl)
  · exact Rd.own (h := hb) (by simp) (by rw [e2]; rfl)
theorem one_s {d : DeclD} (hc : checkAll [d] = 0) (hk : okK d) :
    ACalls (cx w0 B hB) 20 [d.v] [] (fun v M' => ∃ x b kv K Z, v = .pointer (some ⟨x, 0, none⟩) ∧ Nonempty (Frz (cx w0 B hB) Z x 1 d 1 kv b) ∧ Kept d b kv K ∧ M' = Z ++ K) := by
  refine ACalls.fn Try.func20 rfl rfl rfl rfl ?_
  (repeat (first | (refine AL.go ?_; first | refine AL.a1 ?_ | refine AL.a2 ?_ | refine AL.nil ?_ | refine AL.a3 ?_ | refine AL.a4 (fun _ => ?_) | refine AL.a5 (fun _ => ?_) | refine AL.a6 (fun _ => ?_) | refine AL.a7 (fun _ => ?_) | refine AL.a8 (fun _ _ _ _ => ?_) | refine AL.g1 ?_ | refine AL.g2 ?_ | refine AL.g3 ?_) | (refine AWp.go ?_; first | refine AWp.seq ?_ | refine AWp.region ?_ | refine AWp.block ?_ | refine AWp.skip ?_ | refine AWp.exit ?_ | refine AWp.ret ?_ | refine AWp.label ?_ | refine AWp.c1 ?_ | refine AWp.c2 ?_) | refine thenK.nn ?_ | refine thenK.x ?_ | refine thenK.r ?_ | refine blockK.nn ?_ | refine blockK.hit ?_ | refine blockK.m1 ?_ | refine blockK.r ?_ | refine endK.nn ?_ | refine effK.n1 ?_))
  rename_i db q
  refine AL.c1 (hx := rfl) (ha := rfl) (hc := new_s (M0 := [(q, .cells d.cells 41)]) (ds := [d]) (cpus := 1) (.some rfl (RdL.whole (List.mem_cons_self ..))) rfl (by omega) hc (by omega) (by omega) (by intro x hx; rw [List.mem_singleton.1 hx]; exact hk)) (kk := ?_)
  rintro _ _ ⟨x, M2, rfl, hN, rfl⟩
  obtain ⟨b, kv, K, Z, hF, hK, rfl⟩ := newOne (C := cx w0 B hB) hN
  refine AL.nm ?_
  (repeat (first | (refine AL.go ?_; first | refine AL.a1 ?_ | refine AL.a2 ?_ | refine AL.nil ?_ | refine AL.a3 ?_ | refine AL.a4 (fun _ => ?_) | refine AL.a5 (fun _ => ?_) | refine AL.a6 (fun _ => ?_) | refine AL.a7 (fun _ => ?_) | refine AL.a8 (fun _ _ _ _ => ?_) | refine AL.g1 ?_ | refine AL.g2 ?_ | refine AL.g3 ?_) | (refine AWp.go ?_; first | refine AWp.seq ?_ | refine AWp.region ?_ | refine AWp.block ?_ | refine AWp.skip ?_ | refine AWp.exit ?_ | refine AWp.ret ?_ | refine AWp.label ?_ | refine AWp.c1 ?_ | refine AWp.c2 ?_) | refine thenK.nn ?_ | refine thenK.x ?_ | refine thenK.r ?_ | refine blockK.nn ?_ | refine blockK.hit ?_ | refine blockK.m1 ?_ | refine blockK.r ?_ | refine endK.nn ?_ | refine effK.n1 ?_))
  refine endK.go ?_; refine endK.r (RVals.one (RVal.tmp rfl)) ⟨x, b, kv, K, Z, rfl, hF, hK, rfl⟩ (by (first | ((repeat' first | exact Split.refl _ | exact Split.nil _ | exact Split.left _ _ | apply Split.cons | apply Split.assoc | refine Split.nilA rfl ?_ | exact Pick.head _ | apply Pick.tail | apply Pick.app | apply Split.consL | apply Split.lone | exact PickL.head _ | exact PickL.here | apply PickL.tail | apply PickL.app); done) | fail))

/-! a hash, alone -/
structure okH (d : DeclD) : Prop where
  kind : d.kind = 4 ∨ d.kind = 5
  e1 : 1 ≤ d.entries
  e2 : d.entries ≤ 64
  w : d.words = 1
  i : d.inner = 0
  b : d.buckets ≤ 32
theorem resAt_form {rv : RV} {v : Value} {R : Hp} (h : ResAt rv v R) : ∃ no sa sn sc key elem, v = resV no (.slice sa sn sc) key elem := by
  cases h
  · exact ⟨_, _, _, _, _, _, rfl⟩
  · exact ⟨_, _, _, _, _, _, rfl⟩
abbrev hashT : TypeId := 140
theorem doh_get {Z M : Hp} {x b k m : Nat} {d : DeclD} {s : HS} {o : OpD} (F : Frz (cx w0 B hB) Z x 1 d 1 (.iface hashT (.pointer (some ⟨k, 0, none⟩))) b) (hM : HashAt k b m d s M) (hI : InvH d s) (hd : okH d) (hc : s.clock < 900000) {a : Option Addr} {n cap : Nat} (hv : o.val = .slice a n cap) (hkU : isU o.key)
    (ho : o.kind = 1 ∨ o.kind = 3 ∨ o.kind = 4 ∨ o.kind = 5) (hr : rightF 1 d o n = true) :
    ACalls (cx w0 B hB) 14 [.pointer (some ⟨x, 0, none⟩), .int .i64 1, o.v] (Z ++ M) (fun r M' => ∃ R M2, ResAt (hdoF d s o.kind o.key 0 o.flag).2 r R ∧ HashAt k b m d (hdoF d s o.kind o.key 0 o.flag).1 M2 ∧ M' = R ++ (M2 ++ Z)) := by
  have hK : ACalls (cx w0 B hB) 127 [.pointer (some ⟨k, 0, none⟩), o.v] M (fun r M' => ∃ R M2, ResAt (hdoF d s o.kind o.key 0 o.flag).2 r R ∧ HashAt k b m d (hdoF d s o.kind o.key 0 o.flag).1 M2 ∧ M' = R ++ M2) := by
    by_cases h4 : o.kind = 4
    · exact hnext_s 0 hM hI (by have := hd.b; omega) hv hkU h4
    · cases hf : efind s.es o.key with
      | none => exact hmiss_s 0 hM hv (by omega) hf
      | some e => exact hhit_s 0 hM hI hd.kind hc hv (by omega) hf
  refine (do_ok F (by have := hd.i; omega) hv hr hK ?_).mono ?_
  · rintro v M' ⟨R, M2, h1, _, _⟩
    exact resAt_form h1
  · rintro v M' ⟨M1, ⟨R, M2, h1, h2, rfl⟩, rfl⟩
    exact ⟨R, M2, h1, h2, by simp⟩
theorem doh_upd {Z M M0 : Hp} {x b k m : Nat} {d : DeclD} {s : HS} {o : OpD} (F : Frz (cx w0 B hB) Z x 1 d 1 (.iface hashT (.pointer (some ⟨k, 0, none⟩))) b) (hM : HashAt k b m d s M) (hI : InvH d s) (hd : okH d) (hc : s.clock < 900000) {vb vo n cap : Nat} {v : Int} (hv : o.val = .slice (some ⟨vb, vo, none⟩) n cap) (hn : 1 ≤ n)
    (hrv : Rd (cx w0 B hB) M0 vb (vo + (0 : Int).toNat * 1) (.int .u64 v)) (ho : o.kind = 2) (hr : rightF 1 d o n = true) :
    ACalls (cx w0 B hB) 14 [.pointer (some ⟨x, 0, none⟩), .int .i64 1, o.v] (Z ++ (M ++ M0)) (fun r M' => ∃ R M2, ResAt (hdoF d s o.kind o.key v o.flag).2 r R ∧ HashAt k b m d (hdoF d s o.kind o.key v o.flag).1 M2 ∧ M' = R ++ (M2 ++ (M0 ++ Z))) := by
  refine (do_ok F (by have := hd.i; omega) hv hr (hupd_s (M0 := M0) hM hI hd.kind hd.e1 hd.e2 hc hv hn hrv ho) ?_).mono ?_
  · rintro v M' ⟨R, M2, h1, _, _⟩
    exact resAt_form h1
  · rintro v M' ⟨M1, ⟨R, M2, h1, h2, rfl⟩, rfl⟩
    exact ⟨R, M2, h1, h2, by simp⟩
theorem elem_h {Z M : Hp} {x b k m : Nat} {d : DeclD} {s : HS} {kv : Value} {e w : Int} (F : Frz (cx w0 B hB) Z x 1 d 1 kv b) (hM : HashAt k b m d s M) (he : 1 ≤ e) (hw : s.elems[(e - 1).toNat]? = some w) (hlen : s.elems.length ≤ 1000000) :
    ACalls (cx w0 B hB) 54 [.pointer (some ⟨x, 0, none⟩), .int .i64 1, .int .i64 e] (Z ++ M) (fun r M' => ∃ q o, r = .pointer (some ⟨q, o, none⟩) ∧ Rd (cx w0 B hB) (Z ++ M) q o (.int .u64 w) ∧ M' = Z ++ M) := by
  obtain ⟨nm, db, dc, ab, ac, bb, bc, f0, f1, f2, f3, d0, d1, d2, d3, d4, a0, b0, lo, hi, big⟩ := F
  obtain ⟨hs, clk, ev, Re, hes, hborn, hnd, hrow, rfl⟩ := hM
  obtain ⟨es, clock, elems⟩ := s
  dsimp only at hes hrow hw hlen ⊢
  subst hes
  have hlt : (e - 1).toNat < elems.length := (List.getElem?_eq_some_iff.1 hw).1
  obtain ⟨ae, ce, rfl⟩ := hrow.asSlice
  obtain ⟨q, qo, rfl, hrd0⟩ := Shows.get (C := cx w0 B hB) (hrow.shows (fun _ h => h)) (i := (e - 1).toNat) (v := .int .u64 w) (by rw [uL, List.getElem?_map, hw]; rfl)
  refine ACalls.fn Try.func54 rfl rfl rfl rfl ?_
  (repeat (first | (refine AL.go ?_; first | refine AL.a1 ?_ | refine AL.a2 ?_ | refine AL.nil ?_ | refine AL.a3 ?_ | refine AL.a4 (fun _ => ?_) | refine AL.a5 (fun _ => ?_) | refine AL.a6 (fun _ => ?_) | refine AL.a7 (fun _ => ?_) | refine AL.a8 (fun _ _ _ _ => ?_) | refine AL.g1 ?_ | refine AL.g2 ?_ | refine AL.g3 ?_) | (refine AWp.go ?_; first | refine AWp.seq ?_ | refine AWp.region ?_ | refine AWp.block ?_ | refine AWp.skip ?_ | refine AWp.exit ?_ | refine AWp.ret ?_ | refine AWp.label ?_ | refine AWp.c1 ?_ | refine AWp.c2 ?_) | refine thenK.nn ?_ | refine thenK.x ?_ | refine thenK.r ?_ | refine blockK.nn ?_ | refine blockK.hit ?_ | refine blockK.m1 ?_ | refine blockK.r ?_ | refine endK.nn ?_ | refine effK.n1 ?_))
  have hrd : Rd (cx w0 B hB) (Z ++ (hashB k b m clock :: baseB b d (.slice (some ⟨q, qo, none⟩) elems.length ce) :: (m, mapO (hs.map HEnt.m) clk) :: (hs.map HEnt.b ++ Re))) q (qo + (e - 1).toNat * 1) (.int .u64 w) := by
    rw [Nat.mul_one]
    refine hrd0.mono (fun x hx => ?_)
    simp [hx]
  refine endK.go ?_; refine endK.r (RVals.one (RVal.tmp rfl)) ⟨q, _, rfl, hrd, rfl⟩ (by (first | ((repeat' first | exact Split.refl _ | exact Split.nil _ | exact Split.left _ _ | apply Split.cons | apply Split.assoc | refine Split.nilA rfl ?_ | exact Pick.head _ | apply Pick.tail | apply Pick.app | apply Split.consL | apply Split.lone | exact PickL.head _ | exact PickL.here | apply PickL.tail | apply PickL.app); done) | fail))
theorem load_h {Z M : Hp} {x b k m : Nat} {d : DeclD} {s : HS} {kv : Value} {e w : Int} (F : Frz (cx w0 B hB) Z x 1 d 1 kv b) (hM : HashAt k b m d s M) (he : 1 ≤ e) (hw : s.elems[(e - 1).toNat]? = some w) (hlen : s.elems.length ≤ 1000000) :
    ACalls (cx w0 B hB) 41 [.pointer (some ⟨x, 0, none⟩), .int .i64 1, .int .i64 e] (Z ++ M) (fun r M' => r = .tuple #[.int .u64 w, .bool true] ∧ M' = Z ++ M) := by
  refine ACalls.fn Try.func41 rfl rfl rfl rfl ?_
  (repeat (first | (refine AL.go ?_; first | refine AL.a1 ?_ | refine AL.a2 ?_ | refine AL.nil ?_ | refine AL.a3 ?_ | refine AL.a4 (fun _ => ?_) | refine AL.a5 (fun _ => ?_) | refine AL.a6 (fun _ => ?_) | refine AL.a7 (fun _ => ?_) | refine AL.a8 (fun _ _ _ _ => ?_) | refine AL.g1 ?_ | refine AL.g2 ?_ | refine AL.g3 ?_) | (refine AWp.go ?_; first | refine AWp.seq ?_ | refine AWp.region ?_ | refine AWp.block ?_ | refine AWp.skip ?_ | refine AWp.exit ?_ | refine AWp.ret ?_ | refine AWp.label ?_ | refine AWp.c1 ?_ | refine AWp.c2 ?_) | refine thenK.nn ?_ | refine thenK.x ?_ | refine thenK.r ?_ | refine blockK.nn ?_ | refine blockK.hit ?_ | refine blockK.m1 ?_ | refine blockK.r ?_ | refine endK.nn ?_ | refine effK.n1 ?_))
  refine AL.c1 (hx := rfl) (ha := rfl) (hc := elem_h F hM he hw hlen) (kk := ?_)
  rintro _ _ ⟨q, o, rfl, hrd, rfl⟩
  refine AL.nm ?_
  have hrd' : Rd (cx w0 B hB) (Z ++ M) q o (.int .u64 w) := hrd
  (repeat (first | (refine AL.go ?_; first | refine AL.a1 ?_ | refine AL.a2 ?_ | refine AL.nil ?_ | refine AL.a3 ?_ | refine AL.a4 (fun _ => ?_) | refine AL.a5 (fun _ => ?_) | refine AL.a6 (fun _ => ?_) | refine AL.a7 (fun _ => ?_) | refine AL.a8 (fun _ _ _ _ => ?_) | refine AL.g1 ?_ | refine AL.g2 ?_ | refine AL.g3 ?_) | (refine AWp.go ?_; first | refine AWp.seq ?_ | refine AWp.region ?_ | refine AWp.block ?_ | refine AWp.skip ?_ | refine AWp.exit ?_ | refine AWp.ret ?_ | refine AWp.label ?_ | refine AWp.c1 ?_ | refine AWp.c2 ?_) | refine thenK.nn ?_ | refine thenK.x ?_ | refine thenK.r ?_ | refine blockK.nn ?_ | refine blockK.hit ?_ | refine blockK.m1 ?_ | refine blockK.r ?_ | refine endK.nn ?_ | refine effK.n1 ?_))
  refine endK.go ?_; refine endK.r (RVals.two (RVal.tmp rfl) (RVal.tmp rfl)) ⟨rfl, rfl⟩ (by (first | ((repeat' first | exact Split.refl _ | exact Split.nil _ | exact Split.left _ _ | apply Split.cons | apply Split.assoc | refine Split.nilA rfl ?_ | exact Pick.head _ | apply Pick.tail | apply Pick.app | apply Split.consL | apply Split.lone | exact PickL.head _ | exact PickL.here | apply PickL.tail | apply PickL.app); done) | fail))
end Go.Proofs.Ytbchkofadjeblaa
