/-
  The layer of triples, sixth part: how ends are told; entry with what may be forgotten.
-/
import Derived.Test.YtbchkofadjeblaaSlE
set_option linter.unusedVariables false
set_option linter.unusedSimpArgs false
namespace Go.SL
open Go Go.RowKit
section
variable {C : Cx} {n : Nat} {T : Tm} {M : Hp} {K : Exit → Tm → Hp → Prop} {k : Tm → Hp → Prop} {id id' : Nat}
theorem thenK.nn (h : k T M) : thenK k K .normal T M := h
theorem thenK.x (h : K (.exit id) T M) : thenK k K (.exit id) T M := h
theorem thenK.r (h : K .ret T M) : thenK k K .ret T M := h
theorem blockK.nn (h : K .normal T M) : blockK id K .normal T M := h
theorem blockK.hit (h : K .normal T M) : blockK id K (.exit id) T M := by simpa [blockK] using h
theorem blockK.miss (hne : Nat.beq id' id = false) (h : K (.exit id') T M) : blockK id K (.exit id') T M := by
  have : id' ≠ id := fun e => by subst e; simp at hne
  simpa [blockK, this] using h
theorem blockK.r (h : K .ret T M) : blockK id K .ret T M := h

/-- what the caller is told -/
def endK (C : Cx) (rs : List ResultVar) (k : Value → Hp → Prop) : Exit → Tm → Hp → Prop
  | .normal, T, M | .ret, T, M => ∃ vs, RVals C T M rs vs ∧ ∃ M1 F, k (tup vs) M1 ∧ Split M1 M F
  | _, _, _ => False
theorem endK.nn {rs : List ResultVar} {k : Value → Hp → Prop} (h : endK C rs k .ret T M) : endK C rs k .normal T M := h
theorem endK.r {rs : List ResultVar} {k : Value → Hp → Prop} {vs : List Value} {M1 F : Hp} (h : RVals C T M rs vs) (hk : k (tup vs) M1) (hs : Split M1 M F) : endK C rs k .ret T M := ⟨vs, h, M1, F, hk, hs⟩

theorem ACalls.fn {f : FuncId} {fn : Func} {c : Code} {args : List Value} {k : Value → Hp → Prop} {rs : List ResultVar} (hf : C.P.funcs[f]? = some fn) (hb : fn.body = some c) (hrs : fn.results = rs.toArray)
    (hn : fn.ntmps = n) (hl : Nat.ble args.length n = true) (h : AWp C n c (argT 0 args) M (endK C rs k)) : ACalls C f args M k := by
  refine ACalls.less (ACalls.enter hf hb hrs hn hl (h.mono ?_))
  intro e T' M' he
  cases e with
  | normal => obtain ⟨vs, h1, M1, F, h2, h3⟩ := he; exact ⟨trivial, vs, h1, M1, h3.has, h2⟩
  | ret => obtain ⟨vs, h1, M1, F, h2, h3⟩ := he; exact ⟨trivial, vs, h1, M1, h3.has, h2⟩
  | _ => exact he.elim
theorem RVals.none : RVals C T M [] [] := trivial
theorem RVals.one {r : ResultVar} {v : Value} (h : RVal C T M r v) : RVals C T M [r] [v] := ⟨h, trivial⟩
theorem RVals.two {r r' : ResultVar} {v v' : Value} (h : RVal C T M r v) (h' : RVal C T M r' v') : RVals C T M [r, r'] [v, v'] := ⟨h, h', trivial⟩
theorem RVal.tmp {t : Nat} {v : Value} (h : Tm.get T t = some v) : RVal C T M (.tmp t) v := h

theorem Sat.asPre {w : World} {b : Nat} {cs : List Value} {e : TypeId} {F : Hp} (h : Sat C ((b, .cells cs e) :: F) w) {m : Nat} (hm : cs.length = m) : Sat C ((b, .pre cs e m) :: F) w :=
  ⟨h.below, h.nodup, fun x hx => by
    cases hx with
    | head => exact h.ge (b, .cells cs e) (List.mem_cons_self ..)
    | tail _ hx => exact h.ge x (List.mem_cons_of_mem _ hx), fun x hx => by
    cases hx with
    | head =>
      obtain ⟨o, h1, h2⟩ := h.here (b, .cells cs e) (List.mem_cons_self ..)
      have : o = .cells cs.toArray e (0, 0) := h2
      exact ⟨o, h1, [], by simpa using this, by simpa using hm⟩
    | tail _ hx => exact h.here x (List.mem_cons_of_mem _ hx)⟩

section
variable {ops : Array Oper} {rest : List (Oper × List Oper)} {ps : List Oper} {d : Nat} {dst : Option Nat} {g : Option (Nat × Bool)} {ty : TypeId} {pos : String} {after : Array Edge}
theorem AL.asPre {b : Nat} {cs : List Value} {e : TypeId} {F : Hp} {l : List (Oper × List Oper)} {m : Nat} (hm : cs.length = m) (h : AL C n ops l T ((b, .pre cs e m) :: F) K) : AL C n ops l T ((b, .cells cs e) :: F) K := by
  intro a w ht hs
  refine wpLR_mono ?_ _ _ _ (h a w ht (hs.asPre hm))
  rintro e a' w' ⟨T', M', h1, h2, h3, h4⟩
  exact ⟨T', M', h1, h2, ⟨h3.size, fun k hk hn => h3.keep k hk (by simpa [ids] using hn), fun k hk => by simpa [ids] using h3.new k hk⟩, h4⟩
theorem StableAt.asPre {r : Oper} {b : Nat} {cs : List Value} {e : TypeId} {F : Hp} {m : Nat} (hm : cs.length = m) (h : StableAt C n r T ((b, .pre cs e m) :: F)) : StableAt C n r T ((b, .cells cs e) :: F) :=
  fun a w ht hs => h a w ht (hs.asPre hm)
theorem Stabs.asPre {b : Nat} {cs : List Value} {e : TypeId} {F : Hp} {m : Nat} (hm : cs.length = m) : ∀ {ps : List Oper}, Stabs C n ps T ((b, .pre cs e m) :: F) → Stabs C n ps T ((b, .cells cs e) :: F)
  | [], _ => trivial
  | _ :: _, ⟨h1, h2⟩ => ⟨h1.asPre hm, Stabs.asPre hm h2⟩

/-- append that leaves something: onto what is one's own -/
theorem AL.append_pos {s x : Operand} {t e : TypeId} {inf : TypeInfo} {z : Value} [Und C.P t (.slice e)] [Inf C.P e inf] {sz by_ : Nat} {v u : Value} {k m : Nat} {cs xs : List Value} {R F : Hp}
    (hd : okDst n (some d) = true) (hz : inf.zero = some z) (hsz : inf.size = sz) (hby : inf.bytes = by_) (hzs : (cellsL z).length = sz) (hpos : Nat.blt 0 sz = true)
    (hs : evO T s = some v) (hx : evO T x = some u) (hrow : IsRow sz e v k cs R) (hsp : M.Perm (R ++ F)) (hsh : Shows C M sz u m xs) (h1 : ∀ u ∈ xs, u.oneCell' = true)
    (hk : 0 < k + m) (h63 : k + m ≤ maxLen) (hbytes : (k + m) * by_ ≤ 140737488355328)
    (kk : ∀ b cap, k + m ≤ cap → cap ≤ maxLen → Stabs C n ps ((d, .slice (some ⟨b, 0, none⟩) (k + m) cap) :: T) ((b, .pre (cs ++ xs) e (cap * sz)) :: F) ∧
      AL C n ops rest ((d, .slice (some ⟨b, 0, none⟩) (k + m) cap) :: T) ((b, .pre (cs ++ xs) e (cap * sz)) :: F) K) :
    AL C n ops ((⟨some d, .call ⟨.builtin .append, #[s, x], #[t, t]⟩, ty, pos, after, none⟩, ps) :: rest) T M K := by
  refine AL.append hd hz hsz hby hzs hpos hs hx hrow hsp hsh h1 h63 hbytes ?_
  intro v' R' h
  generalize hc : cs ++ xs = cs' at h kk
  generalize hm : k + m = km at h kk hk
  cases h with
  | nil => omega
  | lit h1 h2 =>
    obtain ⟨q1, q2⟩ := kk _ _ (Nat.le_refl _) h2
    exact ⟨Stabs.asPre h1 q1, AL.asPre h1 q2⟩
  | row h1 h2 h3 => exact kk _ _ h2 h3

theorem AL.append_lit {s x : Operand} {t e : TypeId} {inf : TypeInfo} {z : Value} [Und C.P t (.slice e)] [Inf C.P e inf] {sz by_ : Nat} {u : Value} {b k m : Nat} {cs xs : List Value} {F : Hp}
    (hd : okDst n (some d) = true) (hz : inf.zero = some z) (hsz : inf.size = sz) (hby : inf.bytes = by_) (hzs : (cellsL z).length = sz) (hpos : Nat.blt 0 sz = true)
    (hs : evO T s = some (.slice (some ⟨b, 0, none⟩) k k)) (hx : evO T x = some u) (hp : Pick (b, .cells cs e) M F) (hl : cs.length = k * sz) (hsh : Shows C M sz u m xs) (h1 : ∀ u ∈ xs, u.oneCell' = true)
    (hk : 0 < k + m) (h63 : k + m ≤ maxLen) (hbytes : (k + m) * by_ ≤ 140737488355328)
    (kk : ∀ b cap, k + m ≤ cap → cap ≤ maxLen → Stabs C n ps ((d, .slice (some ⟨b, 0, none⟩) (k + m) cap) :: T) ((b, .pre (cs ++ xs) e (cap * sz)) :: F) ∧
      AL C n ops rest ((d, .slice (some ⟨b, 0, none⟩) (k + m) cap) :: T) ((b, .pre (cs ++ xs) e (cap * sz)) :: F) K) :
    AL C n ops ((⟨some d, .call ⟨.builtin .append, #[s, x], #[t, t]⟩, ty, pos, after, none⟩, ps) :: rest) T M K :=
  AL.append_pos (R := [(b, .cells cs e)]) hd hz hsz hby hzs hpos hs hx (.lit hl (by omega)) hp.perm hsh h1 hk h63 hbytes kk
theorem AL.append_row {s x : Operand} {t e : TypeId} {inf : TypeInfo} {z : Value} [Und C.P t (.slice e)] [Inf C.P e inf] {sz by_ : Nat} {u : Value} {b k m c q : Nat} {cs xs : List Value} {F : Hp}
    (hd : okDst n (some d) = true) (hz : inf.zero = some z) (hsz : inf.size = sz) (hby : inf.bytes = by_) (hzs : (cellsL z).length = sz) (hpos : Nat.blt 0 sz = true)
    (hs : evO T s = some (.slice (some ⟨b, 0, none⟩) k c)) (hx : evO T x = some u) (hp : Pick (b, .pre cs e q) M F) (hq : q = c * sz) (hl : cs.length = k * sz) (hc : k ≤ c) (hcm : c ≤ maxLen) (hsh : Shows C M sz u m xs) (h1 : ∀ u ∈ xs, u.oneCell' = true)
    (hk : 0 < k + m) (h63 : k + m ≤ maxLen) (hbytes : (k + m) * by_ ≤ 140737488355328)
    (kk : ∀ b cap, k + m ≤ cap → cap ≤ maxLen → Stabs C n ps ((d, .slice (some ⟨b, 0, none⟩) (k + m) cap) :: T) ((b, .pre (cs ++ xs) e (cap * sz)) :: F) ∧
      AL C n ops rest ((d, .slice (some ⟨b, 0, none⟩) (k + m) cap) :: T) ((b, .pre (cs ++ xs) e (cap * sz)) :: F) K) :
    AL C n ops ((⟨some d, .call ⟨.builtin .append, #[s, x], #[t, t]⟩, ty, pos, after, none⟩, ps) :: rest) T M K := by
  subst hq
  exact AL.append_pos (R := [(b, .pre cs e (c * sz))]) hd hz hsz hby hzs hpos hs hx (.row hl hc hcm) hp.perm hsh h1 hk h63 hbytes kk
end

section
variable {ops : Array Oper} {rest : List (Oper × List Oper)} {ps : List Oper} {d : Nat} {dst : Option Nat} {g : Option (Nat × Bool)} {ty : TypeId} {pos : String} {after : Array Edge}
theorem PU.buildArr {t e : TypeId} {len : Nat} {inf infT : TypeInfo} {z ze : Value} {segs' : List (List Value)} [Und C.P t (.array len e)] [Inf C.P e inf] [Inf C.P t infT] (hz : infT.zero = some z) (_ : inf.zero = some ze) (hzl : (cellsL ze).length = inf.size) (hzs : cellsL z = (List.replicate len (cellsL ze)).flatten) {parts : List (Nat × Operand)} {pv : List (Nat × Value)} {vs : List Value} (hp : parts? T parts = some pv) (hf : fillSeg (List.replicate len (cellsL ze)) pv = some segs') (hvs : segs'.flatten = vs) : PU C n T ⟨dst, .build t parts.toArray, ty, pos, after, g⟩ (.agg vs.toArray) :=
  fun act ht w => by
    have h1 : ∀ w, (underlying t).run C.P w = .ok (.array len e) w := fun w => run_und
    have h2 : ∀ w, (sizeOf e).run C.P w = .ok inf.size w := fun w => run_sizeOf
    have h3 : ∀ w, (zeroValue t).run C.P w = .ok z w := fun w => run_zero hz
    have hpe := parts_eval ht hp
    have hfill := fill_fillL _ (fun i => some (i * inf.size, inf.size)) (fun i q h => by have := offs_replicate (k := 0) hzl (by simpa using h); simpa using this) pv _ _ (fillL_fillSeg pv _ segs' hf)
    rw [hvs] at hfill
    simp only [execOp, Instr.build, List.map_toArray, hpe, Sem.run_bind, h3, h1, h2, Result.andThen_ok, cells_cellsL, hzs, hfill, Sem.run_pure]
theorem PV.loadP {x : Operand} {t : TypeId} {D : TypeDesc} {inf : TypeInfo} [Und C.P t D] [Inf C.P t inf] (hag : aggD D = true) {b o : Nat} {vs : List Value} {h : HObj} (hx : evO T x = some (.pointer (some ⟨b, o, none⟩))) (hm : (b, h) ∈ M) (hv : (h.list.drop o).take inf.size = vs) (hl : vs.length = inf.size) : PV C n T M ⟨dst, .load t x, ty, pos, after, g⟩ (.agg vs.toArray) :=
  PV.loadA hag hl.symm hx (RdL.own hm (by rw [hl]; exact hv))
end

/-- cell by cell -/
inductive RdN (C : Cx) (M : Hp) (b : Nat) : Nat → Nat → List Value → Prop
  | nil {o : Nat} : RdN C M b o 0 []
  | cons {o k : Nat} {v : Value} {vs : List Value} : Rd C M b o v → RdN C M b (o + 1) k vs → RdN C M b o (k + 1) (v :: vs)
theorem RdN.rdl {b o k : Nat} {vs : List Value} (h : RdN C M b o k vs) : RdL C M b o vs ∧ vs.length = k := by
  induction h with
  | nil => exact ⟨RdL.nil _ _, rfl⟩
  | @cons o k v vs h _ ih =>
    refine ⟨fun i u hi => ?_, by simp [ih.2]⟩
    cases i with
    | zero => simp at hi; subst hi; exact h
    | succ i =>
      have := ih.1 i u (by simpa using hi)
      rwa [Nat.add_assoc, Nat.add_comm 1 i] at this
section
variable {ops : Array Oper} {rest : List (Oper × List Oper)} {ps : List Oper} {d : Nat} {dst : Option Nat} {g : Option (Nat × Bool)} {ty : TypeId} {pos : String} {after : Array Edge}
theorem PV.loadN {x : Operand} {t : TypeId} {D : TypeDesc} {inf : TypeInfo} [Und C.P t D] [Inf C.P t inf] (hag : aggD D = true) {b o : Nat} {vs : List Value} (hx : evO T x = some (.pointer (some ⟨b, o, none⟩))) (hr : RdN C M b o inf.size vs) : PV C n T M ⟨dst, .load t x, ty, pos, after, g⟩ (.agg vs.toArray) :=
  PV.loadA hag hr.rdl.2.symm hx hr.rdl.1
end
theorem RVal.cellN {p : Nat} {t : TypeId} {D : TypeDesc} {inf : TypeInfo} [Und C.P t D] [Inf C.P t inf] (hag : aggD D = true) {b o : Nat} {vs : List Value}
    (hp : Tm.get T p = some (.pointer (some ⟨b, o, none⟩))) (hr : RdN C M b o inf.size vs) : RVal C T M (.cell p t) (.agg vs.toArray) :=
  RVal.cellA hag hr.rdl.2.symm hp hr.rdl.1
end
end Go.SL
