import Derived.Test.YtbchkofadjeblaaT9
import Derived.Test.YtbchkofadjeblaaT10
set_option linter.unusedVariables false
set_option linter.unusedSimpArgs false
namespace Go.Proofs.Ytbchkofadjeblaa
open Go Go.SL
attribute [local irreducible] AL AWp thenK blockK endK ACalls RVals AD effK PVs PU PV planOk noP
set_option maxRecDepth 100000
set_option maxHeartbeats 2000000
variable {w0 : World} {B : Nat} {hB : B ≤ w0.heap.size}

abbrev u64T : TypeId := 28
abbrev hashB (k b m : Nat) (clock : Int) : Nat × HObj := (k, .cells [.pointer (some ⟨b, 0, none⟩), .map (some m), .int .i64 clock] 143)
abbrev cellsB (k b : Nat) : Nat × HObj := (k, .cells [.pointer (some ⟨b, 0, none⟩)] 128)
/-- a map as it is made -/
inductive Kept (d : DeclD) (b : Nat) : Value → Hp → Prop
  | arr {k e : Nat} : d.kind = 1 → Kept d b (.iface 126 (.pointer (some ⟨k, 0, none⟩))) [cellsB k b, baseB b d (.slice (some ⟨e, 0, none⟩) d.entries.toNat d.entries.toNat), (e, .cells (List.replicate d.entries.toNat (.int .u64 0)) u64T)]
  | ring {k : Nat} : d.kind = 6 ∨ d.kind = 7 → Kept d b (.iface 136 (.pointer (some ⟨k, 0, none⟩))) [ringB k b nilS, baseB b d nilS]
  | hash {k m : Nat} : d.kind = 4 ∨ d.kind = 5 → Kept d b (.iface 140 (.pointer (some ⟨k, 0, none⟩))) [hashB k b m 0, (m, mapO [] 0), baseB b d nilS]
theorem kept_s {b : Nat} {d : DeclD} {cpus : Int} (hk : d.kind = 1 ∨ d.kind = 4 ∨ d.kind = 5 ∨ d.kind = 6 ∨ d.kind = 7) (h1 : 1 ≤ d.entries) (h2 : d.entries ≤ 64) :
    ACalls (cx w0 B hB) 45 [.pointer (some ⟨b, 0, none⟩), .int .i64 cpus] [baseB b d nilS] (fun v M' => Kept d b v M') := by
  refine ACalls.fn Try.func45 rfl rfl rfl rfl ?_
  by_cases e1 : d.kind = 1
  · (repeat (first | (refine AL.go ?_; first | refine AL.a1 ?_ | refine AL.a2 ?_ | refine AL.nil ?_ | refine AL.a3 ?_ | refine AL.a4 (fun _ => ?_) | refine AL.a5 (fun _ => ?_) | refine AL.a6 (fun _ => ?_) | refine AL.a7 (fun _ => ?_) | refine AL.a8 (fun _ _ _ _ => ?_) | refine AL.g1 ?_ | refine AL.g2 ?_ | refine AL.g3 ?_) | (refine AWp.go ?_; first | refine AWp.seq ?_ | refine AWp.region ?_ | refine AWp.block ?_ | refine AWp.skip ?_ | refine AWp.exit ?_ | refine AWp.ret ?_ | refine AWp.label ?_ | refine AWp.c1 ?_ | refine AWp.c2 ?_) | refine thenK.nn ?_ | refine thenK.x ?_ | refine thenK.r ?_ | refine blockK.nn ?_ | refine blockK.hit ?_ | refine blockK.m1 ?_ | refine blockK.r ?_ | refine endK.nn ?_ | refine effK.n1 ?_))
    refine AL.mk1 (zi := d.entries) (k := d.entries.toNat) (z := .int .u64 0) (by omega) (by simp only [Try.t28]; omega) (by simp only [maxLen]; omega) (fun eb => ?_)
    (repeat (first | (refine AL.go ?_; first | refine AL.a1 ?_ | refine AL.a2 ?_ | refine AL.nil ?_ | refine AL.a3 ?_ | refine AL.a4 (fun _ => ?_) | refine AL.a5 (fun _ => ?_) | refine AL.a6 (fun _ => ?_) | refine AL.a7 (fun _ => ?_) | refine AL.a8 (fun _ _ _ _ => ?_) | refine AL.g1 ?_ | refine AL.g2 ?_ | refine AL.g3 ?_) | (refine AWp.go ?_; first | refine AWp.seq ?_ | refine AWp.region ?_ | refine AWp.block ?_ | refine AWp.skip ?_ | refine AWp.exit ?_ | refine AWp.ret ?_ | refine AWp.label ?_ | refine AWp.c1 ?_ | refine AWp.c2 ?_) | refine thenK.nn ?_ | refine thenK.x ?_ | refine thenK.r ?_ | refine blockK.nn ?_ | refine blockK.hit ?_ | refine blockK.m1 ?_ | refine blockK.r ?_ | refine endK.nn ?_ | refine effK.n1 ?_))
    refine endK.go ?_; refine endK.r (RVals.one (RVal.tmp rfl)) (.arr e1) (by (first | ((repeat' first | exact Split.refl _ | exact Split.nil _ | exact Split.left _ _ | apply Split.cons | apply Split.assoc | refine Split.nilA rfl ?_ | exact Pick.head _ | apply Pick.tail | apply Pick.app | apply Split.consL | apply Split.lone | exact PickL.head _ | exact PickL.here | apply PickL.tail | apply PickL.app); done) | fail))
  · by_cases e2 : d.kind = 6 ∨ d.kind = 7
    · by_cases e3 : d.kind = 6
      · (repeat (first | (refine AL.go ?_; first | refine AL.a1 ?_ | refine AL.a2 ?_ | refine AL.nil ?_ | refine AL.a3 ?_ | refine AL.a4 (fun _ => ?_) | refine AL.a5 (fun _ => ?_) | refine AL.a6 (fun _ => ?_) | refine AL.a7 (fun _ => ?_) | refine AL.a8 (fun _ _ _ _ => ?_) | refine AL.g1 ?_ | refine AL.g2 ?_ | refine AL.g3 ?_) | (refine AWp.go ?_; first | refine AWp.seq ?_ | refine AWp.region ?_ | refine AWp.block ?_ | refine AWp.skip ?_ | refine AWp.exit ?_ | refine AWp.ret ?_ | refine AWp.label ?_ | refine AWp.c1 ?_ | refine AWp.c2 ?_) | refine thenK.nn ?_ | refine thenK.x ?_ | refine thenK.r ?_ | refine blockK.nn ?_ | refine blockK.hit ?_ | refine blockK.m1 ?_ | refine blockK.r ?_ | refine endK.nn ?_ | refine effK.n1 ?_))
        refine endK.go ?_; refine endK.r (RVals.one (RVal.tmp rfl)) (.ring e2) (by (first | ((repeat' first | exact Split.refl _ | exact Split.nil _ | exact Split.left _ _ | apply Split.cons | apply Split.assoc | refine Split.nilA rfl ?_ | exact Pick.head _ | apply Pick.tail | apply Pick.app | apply Split.consL | apply Split.lone | exact PickL.head _ | exact PickL.here | apply PickL.tail | apply PickL.app); done) | fail))
      · have e3' : d.kind = 7 := by omega
        (repeat (first | (refine AL.go ?_; first | refine AL.a1 ?_ | refine AL.a2 ?_ | refine AL.nil ?_ | refine AL.a3 ?_ | refine AL.a4 (fun _ => ?_) | refine AL.a5 (fun _ => ?_) | refine AL.a6 (fun _ => ?_) | refine AL.a7 (fun _ => ?_) | refine AL.a8 (fun _ _ _ _ => ?_) | refine AL.g1 ?_ | refine AL.g2 ?_ | refine AL.g3 ?_) | (refine AWp.go ?_; first | refine AWp.seq ?_ | refine AWp.region ?_ | refine AWp.block ?_ | refine AWp.skip ?_ | refine AWp.exit ?_ | refine AWp.ret ?_ | refine AWp.label ?_ | refine AWp.c1 ?_ | refine AWp.c2 ?_) | refine thenK.nn ?_ | refine thenK.x ?_ | refine thenK.r ?_ | refine blockK.nn ?_ | refine blockK.hit ?_ | refine blockK.m1 ?_ | refine blockK.r ?_ | refine endK.nn ?_ | refine effK.n1 ?_))
        refine endK.go ?_; refine endK.r (RVals.one (RVal.tmp rfl)) (.ring e2) (by (first | ((repeat' first | exact Split.refl _ | exact Split.nil _ | exact Split.left _ _ | apply Split.cons | apply Split.assoc | refine Split.nilA rfl ?_ | exact Pick.head _ | apply Pick.tail | apply Pick.app | apply Split.consL | apply Split.lone | exact PickL.head _ | exact PickL.here | apply PickL.tail | apply PickL.app); done) | fail))
    · have e4 : d.kind = 4 ∨ d.kind = 5 := by omega
      (repeat (first | (refine AL.go ?_; first | refine AL.a1 ?_ | refine AL.a2 ?_ | refine AL.nil ?_ | refine AL.a3 ?_ | refine AL.a4 (fun _ => ?_) | refine AL.a5 (fun _ => ?_) | refine AL.a6 (fun _ => ?_) | refine AL.a7 (fun _ => ?_) | refine AL.a8 (fun _ _ _ _ => ?_) | refine AL.g1 ?_ | refine AL.g2 ?_ | refine AL.g3 ?_) | (refine AWp.go ?_; first | refine AWp.seq ?_ | refine AWp.region ?_ | refine AWp.block ?_ | refine AWp.skip ?_ | refine AWp.exit ?_ | refine AWp.ret ?_ | refine AWp.label ?_ | refine AWp.c1 ?_ | refine AWp.c2 ?_) | refine thenK.nn ?_ | refine thenK.x ?_ | refine thenK.r ?_ | refine blockK.nn ?_ | refine blockK.hit ?_ | refine blockK.m1 ?_ | refine blockK.r ?_ | refine endK.nn ?_ | refine effK.n1 ?_))
      refine AL.makeMap (k := 28) (e := 184) rfl rfl (fun mb => ⟨trivial, ?_⟩)
      (repeat (first | (refine AL.go ?_; first | refine AL.a1 ?_ | refine AL.a2 ?_ | refine AL.nil ?_ | refine AL.a3 ?_ | refine AL.a4 (fun _ => ?_) | refine AL.a5 (fun _ => ?_) | refine AL.a6 (fun _ => ?_) | refine AL.a7 (fun _ => ?_) | refine AL.a8 (fun _ _ _ _ => ?_) | refine AL.g1 ?_ | refine AL.g2 ?_ | refine AL.g3 ?_) | (refine AWp.go ?_; first | refine AWp.seq ?_ | refine AWp.region ?_ | refine AWp.block ?_ | refine AWp.skip ?_ | refine AWp.exit ?_ | refine AWp.ret ?_ | refine AWp.label ?_ | refine AWp.c1 ?_ | refine AWp.c2 ?_) | refine thenK.nn ?_ | refine thenK.x ?_ | refine thenK.r ?_ | refine blockK.nn ?_ | refine blockK.hit ?_ | refine blockK.m1 ?_ | refine blockK.r ?_ | refine endK.nn ?_ | refine effK.n1 ?_))
      refine endK.go ?_; refine endK.r (RVals.one (RVal.tmp rfl)) (.hash e4) (by (first | ((repeat' first | exact Split.refl _ | exact Split.nil _ | exact Split.left _ _ | apply Split.cons | apply Split.assoc | refine Split.nilA rfl ?_ | exact Pick.head _ | apply Pick.tail | apply Pick.app | apply Split.consL | apply Split.lone | exact PickL.head _ | exact PickL.here | apply PickL.tail | apply PickL.app); done) | fail))
abbrev mapsB (x : Nat) (dv : Value) (cpus : Int) (av bv : Value) : Nat × HObj := (x, .cells [dv, .int .i64 cpus, av, bv] 89)
inductive Keeps : List DeclD → List Nat → List Value → Hp → Prop
  | nil : Keeps [] [] [] []
  | snoc {ds : List DeclD} {bs : List Nat} {ks : List Value} {V K : Hp} {d : DeclD} {b : Nat} {kv : Value} : Keeps ds bs ks V → Kept d b kv K → Keeps (ds ++ [d]) (bs ++ [b]) (ks ++ [kv]) (V ++ K)
abbrev ptrs (bs : List Nat) : List Value := bs.map fun b => .pointer (some ⟨b, 0, none⟩)
/-- what New lays -/
def NewAt (ds : List DeclD) (cpus : Int) (x : Nat) (M : Hp) : Prop :=
  ∃ dv av bv R1 Ra Rb V bs ks, IsRow 5 41 dv ds.length (ds.flatMap DeclD.cells) R1 ∧ IsRow 1 102 bv ds.length (ptrs bs) Rb ∧ IsRow 1 92 av ds.length ks Ra ∧ Keeps ds bs ks V ∧
    M = mapsB x dv cpus av bv :: (R1 ++ (Rb ++ (Ra ++ V)))
structure NewSt where
  (i : Nat) (bv av : Value) (Rb Ra V : Hp) (bs : List Nat) (ks : List Value)
def okK (d : DeclD) : Prop := (d.kind = 1 ∨ d.kind = 4 ∨ d.kind = 5 ∨ d.kind = 6 ∨ d.kind = 7) ∧ 1 ≤ d.entries ∧ d.entries ≤ 64
theorem Kept.iface {d : DeclD} {b : Nat} {v : Value} {K : Hp} (h : Kept d b v K) : ∃ t a, v = .iface t (.pointer (some a)) := by
  cases h <;> exact ⟨_, _, rfl⟩
theorem new_s {M0 : Hp} {a : Option Addr} {n cap : Nat} {ds : List DeclD} {cpus : Int} (h : Shows (cx w0 B hB) M0 5 (.slice a n cap) n (ds.flatMap DeclD.cells)) (hl : ds.length = n) (hn : n ≤ 10) (hc : checkAll ds = 0) (h1 : 1 ≤ cpus) (h2 : cpus ≤ 4)
    (hok : ∀ d ∈ ds, okK d) :
    ACalls (cx w0 B hB) 22 [.slice a n cap, .int .i64 cpus] M0 (fun v M' => ∃ x M2, v = .tuple #[.pointer (some ⟨x, 0, none⟩), .int .i64 0] ∧ NewAt ds cpus x M2 ∧ M' = M2 ++ M0) := by
  have hone : ∀ u ∈ ds.flatMap DeclD.cells, u.oneCell' = true := by
    intro u hu
    obtain ⟨d, _, hu⟩ := List.mem_flatMap.1 hu
    simp only [DeclD.cells, List.mem_cons, List.not_mem_nil, or_false] at hu
    rcases hu with rfl | rfl | rfl | rfl | rfl <;> rfl
  have hck := Check_s h hl (by omega)
  rw [hc] at hck
  refine ACalls.fn Try.func22 rfl rfl rfl rfl ?_
  (repeat (first | (refine AL.go ?_; first | refine AL.a1 ?_ | refine AL.a2 ?_ | refine AL.nil ?_ | refine AL.a3 ?_ | refine AL.a4 (fun _ => ?_) | refine AL.a5 (fun _ => ?_) | refine AL.a6 (fun _ => ?_) | refine AL.a7 (fun _ => ?_) | refine AL.a8 (fun _ _ _ _ => ?_) | refine AL.g1 ?_ | refine AL.g2 ?_ | refine AL.g3 ?_ | (refine AL.c2 (hx := rfl) (ha := rfl) (hc := hck) (kk := ?_); refine AL.nm ?_)) | (refine AWp.go ?_; first | refine AWp.seq ?_ | refine AWp.region ?_ | refine AWp.block ?_ | refine AWp.skip ?_ | refine AWp.exit ?_ | refine AWp.ret ?_ | refine AWp.label ?_ | refine AWp.c1 ?_ | refine AWp.c2 ?_ | refine AWp.d1 (id := 12) (.take 0 (.take 1 (.take 2 (.take 3 (.take 4 (.take 5 (.take 6 (.take 7 (.take 8 (.take 9 (.take 10 (.take 11 (.take 12 (.done)))))))))))))) (by kernel_rfl) ?_) | (refine AD.go ?_; first | refine AD.d1 ?_ | refine AD.d2 ?_ | refine AD.d3 ?_ | refine AD.d0 ?_ | refine AD.d4 ?_ | refine AD.d5 ?_ | refine AD.d6 ?_ | refine AD.d7 ?_ | refine AD.d8 ?_ | refine AD.d9 ?_ | refine AD.e9 ?_ | refine AD.two rfl rfl rfl ?_ ?_) | refine thenK.nn ?_ | refine thenK.x ?_ | refine thenK.r ?_ | refine blockK.nn ?_ | refine blockK.hit ?_ | refine blockK.m1 ?_ | refine blockK.r ?_ | refine endK.nn ?_ | refine effK.n1 ?_))
  refine AL.c1 (hx := rfl) (ha := rfl) (hc := cloneD_s h hone (by omega)) (kk := ?_)
  rintro dv _ ⟨R1, hR1, rfl⟩
  obtain ⟨a1, c1, rfl⟩ := hR1.asSlice
  refine AL.nm ?_
  (repeat (first | (refine AL.go ?_; first | refine AL.a1 ?_ | refine AL.a2 ?_ | refine AL.nil ?_ | refine AL.a3 ?_ | refine AL.a4 (fun _ => ?_) | refine AL.a5 (fun _ => ?_) | refine AL.a6 (fun _ => ?_) | refine AL.a7 (fun _ => ?_) | refine AL.a8 (fun _ _ _ _ => ?_) | refine AL.g1 ?_ | refine AL.g2 ?_ | refine AL.g3 ?_) | (refine AWp.go ?_; first | refine AWp.seq ?_ | refine AWp.region ?_ | refine AWp.block ?_ | refine AWp.skip ?_ | refine AWp.exit ?_ | refine AWp.ret ?_ | refine AWp.label ?_ | refine AWp.c1 ?_ | refine AWp.c2 ?_ | refine AWp.d1 (id := 12) (.take 0 (.take 1 (.take 2 (.take 3 (.take 4 (.take 5 (.take 6 (.take 7 (.take 8 (.take 9 (.take 10 (.take 11 (.take 12 (.done)))))))))))))) (by kernel_rfl) ?_) | (refine AD.go ?_; first | refine AD.d1 ?_ | refine AD.d2 ?_ | refine AD.d3 ?_ | refine AD.d0 ?_ | refine AD.d4 ?_ | refine AD.d5 ?_ | refine AD.d6 ?_ | refine AD.d7 ?_ | refine AD.d8 ?_ | refine AD.d9 ?_ | refine AD.e9 ?_ | refine AD.two rfl rfl rfl ?_ ?_) | refine thenK.nn ?_ | refine thenK.x ?_ | refine thenK.r ?_ | refine blockK.nn ?_ | refine blockK.hit ?_ | refine blockK.m1 ?_ | refine blockK.r ?_ | refine endK.nn ?_ | refine effK.n1 ?_))
  rename_i x
  refine AWp.loop (σ := NewSt) (fun s => [(29, .int .i64 s.i), (28, .int .i64 n), (27, .slice a n cap), (7, .pointer (some ⟨x, 0, none⟩)), (0, .slice a n cap), (1, .int .i64 cpus)])
    (fun s => mapsB x (.slice a1 n c1) cpus s.av s.bv :: (R1 ++ (s.Rb ++ (s.Ra ++ (s.V ++ M0)))))
    (fun s => s.i ≤ n ∧ IsRow 1 102 s.bv s.i (ptrs s.bs) s.Rb ∧ IsRow 1 92 s.av s.i s.ks s.Ra ∧ Keeps (ds.take s.i) s.bs s.ks s.V) (fun s => n - s.i)
    ⟨0, .slice none 0 0, .slice none 0 0, [], [], [], [], []⟩ ⟨by simp, .nil, .nil, .nil⟩ (by first | ((repeat (first | exact True.intro | refine ⟨rfl, ?_⟩)); done) | fail) Has.of ?_
  rintro ⟨i, bv, av, Rb, Ra, V, bs, ks⟩ ⟨hi, hb, ha, hK⟩
  dsimp only at hi hb ha hK ⊢
  obtain ⟨ab, cb, rfl⟩ := hb.asSlice
  obtain ⟨aa, ca, rfl⟩ := ha.asSlice
  by_cases hlt : i < n
  · have hli : i < ds.length := by omega
    obtain ⟨b, o, rfl, r0, r1, r2, r3, r4⟩ := Shows.dec h (i := (i : Int).toNat) (d := ds[i]) (by simp [hli])
    have hd : ds.take (i + 1) = ds.take i ++ [ds[i]] := List.take_succ_eq_append_getElem hli
    have hokd := hok _ (List.getElem_mem hli)
    generalize ds[i] = d at hd r0 r1 r2 r3 r4 hokd
    obtain ⟨hk, he1, he2⟩ := hokd
    (repeat (first | (refine AL.go ?_; first | refine AL.a1 ?_ | refine AL.a2 ?_ | refine AL.nil ?_ | refine AL.a3 ?_ | refine AL.a4 (fun _ => ?_) | refine AL.a5 (fun _ => ?_) | refine AL.a6 (fun _ => ?_) | refine AL.a7 (fun _ => ?_) | refine AL.a8 (fun _ _ _ _ => ?_) | refine AL.g1 ?_ | refine AL.g2 ?_ | refine AL.g3 ?_) | (refine AWp.go ?_; first | refine AWp.seq ?_ | refine AWp.region ?_ | refine AWp.block ?_ | refine AWp.skip ?_ | refine AWp.exit ?_ | refine AWp.ret ?_ | refine AWp.label ?_ | refine AWp.c1 ?_ | refine AWp.c2 ?_ | refine AWp.d1 (id := 12) (.take 0 (.take 1 (.take 2 (.take 3 (.take 4 (.take 5 (.take 6 (.take 7 (.take 8 (.take 9 (.take 10 (.take 11 (.take 12 (.done)))))))))))))) (by kernel_rfl) ?_) | (refine AD.go ?_; first | refine AD.d1 ?_ | refine AD.d2 ?_ | refine AD.d3 ?_ | refine AD.d0 ?_ | refine AD.d4 ?_ | refine AD.d5 ?_ | refine AD.d6 ?_ | refine AD.d7 ?_ | refine AD.d8 ?_ | refine AD.d9 ?_ | refine AD.e9 ?_ | refine AD.two rfl rfl rfl ?_ ?_) | refine thenK.nn ?_ | refine thenK.x ?_ | refine thenK.r ?_ | refine blockK.nn ?_ | refine blockK.hit ?_ | refine blockK.m1 ?_ | refine blockK.r ?_ | refine endK.nn ?_ | refine effK.n1 ?_))
    rename_i lb nb sb
    refine AL.append (by_ := 8) (sz := 1) (m := 1) (xs := [.pointer (some ⟨nb, 0, none⟩)]) rfl rfl rfl rfl rfl rfl rfl rfl hb (Split.perm (by (first | ((repeat' first | exact Split.refl _ | exact Split.nil _ | exact Split.left _ _ | apply Split.cons | apply Split.assoc | refine Split.nilA rfl ?_ | exact Pick.head _ | apply Pick.tail | apply Pick.app | apply Split.consL | apply Split.lone | exact PickL.head _ | exact PickL.here | apply PickL.tail | apply PickL.app); done) | fail))) (.some rfl (RdL.whole (by first | ((repeat (first | exact List.Mem.head _ | apply List.Mem.tail | apply List.mem_append_right)); done) | fail))) (fun u hu => by rw [List.mem_singleton.1 hu]; rfl) (by simp only [maxLen]; omega) (by omega) ?_
    intro vb' Rb' hb'
    refine ⟨trivial, ?_⟩
    obtain ⟨ab2, cb2, rfl⟩ := hb'.asSlice
    refine AL.nm ?_
    (repeat (first | (refine AL.go ?_; first | refine AL.a1 ?_ | refine AL.a2 ?_ | refine AL.nil ?_ | refine AL.a3 ?_ | refine AL.a4 (fun _ => ?_) | refine AL.a5 (fun _ => ?_) | refine AL.a6 (fun _ => ?_) | refine AL.a7 (fun _ => ?_) | refine AL.a8 (fun _ _ _ _ => ?_) | refine AL.g1 ?_ | refine AL.g2 ?_ | refine AL.g3 ?_) | (refine AWp.go ?_; first | refine AWp.seq ?_ | refine AWp.region ?_ | refine AWp.block ?_ | refine AWp.skip ?_ | refine AWp.exit ?_ | refine AWp.ret ?_ | refine AWp.label ?_ | refine AWp.c1 ?_ | refine AWp.c2 ?_ | refine AWp.d1 (id := 12) (.take 0 (.take 1 (.take 2 (.take 3 (.take 4 (.take 5 (.take 6 (.take 7 (.take 8 (.take 9 (.take 10 (.take 11 (.take 12 (.done)))))))))))))) (by kernel_rfl) ?_) | (refine AD.go ?_; first | refine AD.d1 ?_ | refine AD.d2 ?_ | refine AD.d3 ?_ | refine AD.d0 ?_ | refine AD.d4 ?_ | refine AD.d5 ?_ | refine AD.d6 ?_ | refine AD.d7 ?_ | refine AD.d8 ?_ | refine AD.d9 ?_ | refine AD.e9 ?_ | refine AD.two rfl rfl rfl ?_ ?_) | refine thenK.nn ?_ | refine thenK.x ?_ | refine thenK.r ?_ | refine blockK.nn ?_ | refine blockK.hit ?_ | refine blockK.m1 ?_ | refine blockK.r ?_ | refine endK.nn ?_ | refine effK.n1 ?_))
    refine AL.c1 (hx := rfl) (ha := rfl) (hc := kept_s (d := d) hk he1 he2) (kk := ?_)
    intro kv K hkv
    obtain ⟨kt, ka, rfl⟩ := hkv.iface
    refine AL.nm ?_
    (repeat (first | (refine AL.go ?_; first | refine AL.a1 ?_ | refine AL.a2 ?_ | refine AL.nil ?_ | refine AL.a3 ?_ | refine AL.a4 (fun _ => ?_) | refine AL.a5 (fun _ => ?_) | refine AL.a6 (fun _ => ?_) | refine AL.a7 (fun _ => ?_) | refine AL.a8 (fun _ _ _ _ => ?_) | refine AL.g1 ?_ | refine AL.g2 ?_ | refine AL.g3 ?_) | (refine AWp.go ?_; first | refine AWp.seq ?_ | refine AWp.region ?_ | refine AWp.block ?_ | refine AWp.skip ?_ | refine AWp.exit ?_ | refine AWp.ret ?_ | refine AWp.label ?_ | refine AWp.c1 ?_ | refine AWp.c2 ?_ | refine AWp.d1 (id := 12) (.take 0 (.take 1 (.take 2 (.take 3 (.take 4 (.take 5 (.take 6 (.take 7 (.take 8 (.take 9 (.take 10 (.take 11 (.take 12 (.done)))))))))))))) (by kernel_rfl) ?_) | (refine AD.go ?_; first | refine AD.d1 ?_ | refine AD.d2 ?_ | refine AD.d3 ?_ | refine AD.d0 ?_ | refine AD.d4 ?_ | refine AD.d5 ?_ | refine AD.d6 ?_ | refine AD.d7 ?_ | refine AD.d8 ?_ | refine AD.d9 ?_ | refine AD.e9 ?_ | refine AD.two rfl rfl rfl ?_ ?_) | refine thenK.nn ?_ | refine thenK.x ?_ | refine thenK.r ?_ | refine blockK.nn ?_ | refine blockK.hit ?_ | refine blockK.m1 ?_ | refine blockK.r ?_ | refine endK.nn ?_ | refine effK.n1 ?_))
    refine AL.append (by_ := 16) (sz := 1) (m := 1) (xs := [.iface kt (.pointer (some ka))]) rfl rfl rfl rfl rfl rfl rfl rfl ha (Split.perm (by (first | ((repeat' first | exact Split.refl _ | exact Split.nil _ | exact Split.left _ _ | apply Split.cons | apply Split.assoc | refine Split.nilA rfl ?_ | exact Pick.head _ | apply Pick.tail | apply Pick.app | apply Split.consL | apply Split.lone | exact PickL.head _ | exact PickL.here | apply PickL.tail | apply PickL.app); done) | fail))) (.some rfl (RdL.whole (by first | ((repeat (first | exact List.Mem.head _ | apply List.Mem.tail | apply List.mem_append_right)); done) | fail))) (fun u hu => by rw [List.mem_singleton.1 hu]; rfl) (by simp only [maxLen]; omega) (by omega) ?_
    intro va' Ra' ha'
    refine ⟨trivial, ?_⟩
    obtain ⟨aa2, ca2, rfl⟩ := ha'.asSlice
    refine AL.nm ?_
    (repeat (first | (refine AL.go ?_; first | refine AL.a1 ?_ | refine AL.a2 ?_ | refine AL.nil ?_ | refine AL.a3 ?_ | refine AL.a4 (fun _ => ?_) | refine AL.a5 (fun _ => ?_) | refine AL.a6 (fun _ => ?_) | refine AL.a7 (fun _ => ?_) | refine AL.a8 (fun _ _ _ _ => ?_) | refine AL.g1 ?_ | refine AL.g2 ?_ | refine AL.g3 ?_) | (refine AWp.go ?_; first | refine AWp.seq ?_ | refine AWp.region ?_ | refine AWp.block ?_ | refine AWp.skip ?_ | refine AWp.exit ?_ | refine AWp.ret ?_ | refine AWp.label ?_ | refine AWp.c1 ?_ | refine AWp.c2 ?_ | refine AWp.d1 (id := 12) (.take 0 (.take 1 (.take 2 (.take 3 (.take 4 (.take 5 (.take 6 (.take 7 (.take 8 (.take 9 (.take 10 (.take 11 (.take 12 (.done)))))))))))))) (by kernel_rfl) ?_) | (refine AD.go ?_; first | refine AD.d1 ?_ | refine AD.d2 ?_ | refine AD.d3 ?_ | refine AD.d0 ?_ | refine AD.d4 ?_ | refine AD.d5 ?_ | refine AD.d6 ?_ | refine AD.d7 ?_ | refine AD.d8 ?_ | refine AD.d9 ?_ | refine AD.e9 ?_ | refine AD.two rfl rfl rfl ?_ ?_) | refine thenK.nn ?_ | refine thenK.x ?_ | refine thenK.r ?_ | refine blockK.nn ?_ | refine blockK.hit ?_ | refine blockK.m1 ?_ | refine blockK.r ?_ | refine endK.nn ?_ | refine effK.n1 ?_))
    refine ⟨⟨i + 1, .slice ab2 (i + 1) cb2, .slice aa2 (i + 1) ca2, Rb', Ra', V ++ K, bs ++ [nb], ks ++ [.iface kt (.pointer (some ka))]⟩, ⟨by show i + 1 ≤ n; omega, by simpa [ptrs] using hb', ha', by show Keeps (ds.take (i + 1)) _ _ _; rw [hd]; exact .snoc hK hkv⟩, by show n - (i + 1) < n - i; omega, (by first | ((repeat (first | exact True.intro | refine ⟨rfl, ?_⟩)); done) | fail), ?_⟩
    dsimp only
    exact Has.of
  · have : i = n := by omega
    subst this
    subst hl
    rw [List.take_of_length_le (Nat.le_refl _)] at hK
    (repeat (first | (refine AL.go ?_; first | refine AL.a1 ?_ | refine AL.a2 ?_ | refine AL.nil ?_ | refine AL.a3 ?_ | refine AL.a4 (fun _ => ?_) | refine AL.a5 (fun _ => ?_) | refine AL.a6 (fun _ => ?_) | refine AL.a7 (fun _ => ?_) | refine AL.a8 (fun _ _ _ _ => ?_) | refine AL.g1 ?_ | refine AL.g2 ?_ | refine AL.g3 ?_) | (refine AWp.go ?_; first | refine AWp.seq ?_ | refine AWp.region ?_ | refine AWp.block ?_ | refine AWp.skip ?_ | refine AWp.exit ?_ | refine AWp.ret ?_ | refine AWp.label ?_ | refine AWp.c1 ?_ | refine AWp.c2 ?_ | refine AWp.d1 (id := 12) (.take 0 (.take 1 (.take 2 (.take 3 (.take 4 (.take 5 (.take 6 (.take 7 (.take 8 (.take 9 (.take 10 (.take 11 (.take 12 (.done)))))))))))))) (by kernel_rfl) ?_) | (refine AD.go ?_; first | refine AD.d1 ?_ | refine AD.d2 ?_ | refine AD.d3 ?_ | refine AD.d0 ?_ | refine AD.d4 ?_ | refine AD.d5 ?_ | refine AD.d6 ?_ | refine AD.d7 ?_ | refine AD.d8 ?_ | refine AD.d9 ?_ | refine AD.e9 ?_ | refine AD.two rfl rfl rfl ?_ ?_) | refine thenK.nn ?_ | refine thenK.x ?_ | refine thenK.r ?_ | refine blockK.nn ?_ | refine blockK.hit ?_ | refine blockK.m1 ?_ | refine blockK.r ?_ | refine endK.nn ?_ | refine effK.n1 ?_))
    have hN : NewAt ds cpus x (mapsB x (.slice a1 ds.length c1) cpus (.slice aa ds.length ca) (.slice ab ds.length cb) :: (R1 ++ (Rb ++ (Ra ++ V)))) :=
      ⟨_, _, _, _, _, _, _, _, _, hR1, hb, ha, hK, rfl⟩
    refine endK.go ?_; refine endK.r (RVals.two (RVal.tmp rfl) (RVal.tmp rfl)) ⟨x, _, rfl, hN, rfl⟩ (by (first | ((repeat' first | exact Split.refl _ | exact Split.nil _ | exact Split.left _ _ | apply Split.cons | apply Split.assoc | refine Split.nilA rfl ?_ | exact Pick.head _ | apply Pick.tail | apply Pick.app | apply Split.consL | apply Split.lone | exact PickL.head _ | exact PickL.here | apply PickL.tail | apply PickL.app); done) | fail))
end Go.Proofs.Ytbchkofadjeblaa
