/-
  The layer of triples, fifth part: rows that grow, cuts, calls, functions.
-/
import Derived.Test.YtbchkofadjeblaaSlD
set_option linter.unusedVariables false
set_option linter.unusedSimpArgs false
namespace Go.SL
open Go Go.RowKit

/-- A slice that owns its cells: nil; a whole literal; a row with room behind it. 'sz' cells an element. -/
inductive IsRow (sz : Nat) (e : TypeId) : Value → Nat → List Value → Hp → Prop
  | nil : IsRow sz e (.slice none 0 0) 0 [] []
  | lit {b n : Nat} {cs : List Value} : cs.length = n * sz → n ≤ maxLen → IsRow sz e (.slice (some ⟨b, 0, none⟩) n n) n cs [(b, .cells cs e)]
  | row {b n cap : Nat} {cs : List Value} : cs.length = n * sz → n ≤ cap → cap ≤ maxLen → IsRow sz e (.slice (some ⟨b, 0, none⟩) n cap) n cs [(b, .pre cs e (cap * sz))]

section
variable {C : Cx} {M F R : Hp} {w : World} {sz n : Nat} {e : TypeId} {v : Value} {cs : List Value}
theorem IsRow.len (h : IsRow sz e v n cs R) : cs.length = n * sz := by
  cases h with
  | nil => simp
  | lit h _ => exact h
  | row h _ _ => exact h
theorem IsRow.owns (h : IsRow sz e v n cs R) (hs : Sat C (R ++ F) w) : w.ownsRow C.B e sz v n cs := by
  cases h with
  | nil => exact World.ownsRow_nil w C.B e sz
  | @lit b n cs h1 h2 =>
    obtain ⟨o, ho, hok⟩ := hs.here (b, .cells cs e) (by simp)
    have hge := hs.ge (b, .cells cs e) (by simp)
    have : o = .cells cs.toArray e (0, 0) := hok
    subst this
    exact ⟨h1, .inr ⟨b, n, cs.toArray, rfl, hge, ho, Nat.le_refl _, h2, by simpa using h1, by simp [← h1]⟩⟩
  | @row b n cap cs h1 h2 h3 =>
    obtain ⟨o, ho, rest, rfl, hl⟩ := hs.here (b, .pre cs e (cap * sz)) (by simp)
    have hge := hs.ge (b, .pre cs e (cap * sz)) (by simp)
    exact ⟨h1, .inr ⟨b, cap, _, rfl, hge, ho, h2, h3, by simp; omega, by simp [← h1]⟩⟩
theorem IsRow.block (h : IsRow sz e v n cs R) : ∀ k, v.ownBlock = some k ↔ k ∈ ids R := by
  cases h <;> simp [Value.ownBlock, eq_comm]

theorem Sat.grown {v' : Value} {n' : Nat} {cs' : List Value} (h : IsRow sz e v n cs R) (hs : Sat C (R ++ F) w) {w' : World} (ho : w'.ownsRow C.B e sz v' n' cs') (hg : w.grownBy w' v.ownBlock)
    (hnew : ∀ k, v'.ownBlock = some k → k ∈ ids R ∨ w.heap.size ≤ k) :
    ∃ R', IsRow sz e v' n' cs' R' ∧ Sat C (R' ++ F) w' ∧ Ext (R ++ F) w (R' ++ F) w' := by
  have hnd := hs.nodup
  simp only [ids, List.map_append] at hnd
  obtain ⟨_, hF, hdis⟩ := List.nodup_append.1 hnd
  have hFn : ∀ x ∈ F, x.1 ∉ ids R := fun x hx hm => hdis x.1 hm x.1 (List.mem_map_of_mem hx) rfl
  have hFlt : ∀ x ∈ F, x.1 < w.heap.size := fun x hx => hs.lt (by simp only [ids, List.map_append]; exact List.mem_append_right _ (List.mem_map_of_mem hx))
  have hkeep : ∀ k, k < w.heap.size → k ∉ ids R → w'.heap[k]? = w.heap[k]? := fun k hk hn => hg.block k hk (fun e => hn ((h.block k).1 e.symm))
  have hbelow : Below C.B C.w0 w' := hs.below.grown hg (Nat.le_trans C.hB hs.below.size) (fun k hk => by
    have := (h.block k).1 hk
    obtain ⟨x, hx, rfl⟩ := List.mem_map.1 this
    exact hs.ge x (List.mem_append_left _ hx))
  have hFhere : ∀ x ∈ F, ∃ o, w'.heap[x.1]? = some o ∧ x.2.ok o := fun x hx => by
    obtain ⟨o, h1, h2⟩ := hs.here x (List.mem_append_right _ hx)
    exact ⟨o, by rw [hkeep _ (hFlt x hx) (hFn x hx)]; exact h1, h2⟩
  obtain ⟨hl, hv⟩ := ho
  rcases hv with ⟨rfl, rfl⟩ | ⟨g, cap, cur, rfl, hge, hh, hnc, hcm, hcs, htake⟩
  · have : cs' = [] := List.eq_nil_of_length_eq_zero (by simpa using hl)
    subst this
    refine ⟨[], .nil, ⟨hbelow, by simpa using hF, fun x hx => hs.ge x (List.mem_append_right _ hx), fun x hx => hFhere x hx⟩, ⟨hg.size, fun k hk hn => hkeep k hk (fun hm => hn ?_), fun k hk => .inl ?_⟩⟩
    · simp only [ids, List.map_append]; exact List.mem_append_left _ hm
    · simp only [ids, List.map_append]; exact List.mem_append_right _ (by simpa using hk)
  · have hg' : g ∈ ids R ∨ w.heap.size ≤ g := hnew g rfl
    refine ⟨[(g, .pre cs' e (cap * sz))], .row hl hnc hcm, ⟨hbelow, ?_, ?_, ?_⟩, ⟨hg.size, fun k hk hn => hkeep k hk (fun hm => hn ?_), ?_⟩⟩
    · simp only [ids, List.cons_append, List.nil_append, List.map_cons, List.nodup_cons]
      refine ⟨fun hm => ?_, hF⟩
      obtain ⟨x, hx, rfl⟩ := List.mem_map.1 hm
      rcases hg' with h1 | h1
      · exact hFn x hx h1
      · have := hFlt x hx; omega
    · intro x hx
      simp only [List.cons_append, List.nil_append, List.mem_cons] at hx
      rcases hx with rfl | hx
      · exact hge
      · exact hs.ge x (List.mem_append_right _ hx)
    · intro x hx
      simp only [List.cons_append, List.nil_append, List.mem_cons] at hx
      rcases hx with rfl | hx
      · refine ⟨_, hh, cur.toList.drop (n' * sz), ?_, ?_⟩
        · rw [← htake, List.take_append_drop]
        · have : cs'.length ≤ cur.toList.length := by rw [← htake]; simp; omega
          simp only [List.length_drop, Array.length_toList, hcs, hl]
          simp only [Array.length_toList, hcs, hl] at this
          omega
      · exact hFhere x hx
    · simp only [ids, List.map_append]; exact List.mem_append_left _ hm
    · intro k hk
      simp only [ids, List.cons_append, List.nil_append, List.map_cons, List.mem_cons] at hk
      rcases hk with rfl | hk
      · rcases hg' with h1 | h1
        · exact .inl (by simp only [ids, List.map_append]; exact List.mem_append_left _ h1)
        · exact .inr h1
      · exact .inl (by simp only [ids, List.map_append]; exact List.mem_append_right _ hk)
end

section
variable {C : Cx} {n : Nat} {T : Tm} {M : Hp} {K : Exit → Tm → Hp → Prop} {ops : Array Oper} {rest : List (Oper × List Oper)} {ps : List Oper}
  {d : Nat} {dst : Option Nat} {g : Option (Nat × Bool)} {ty : TypeId} {pos : String} {after : Array Edge}

/-- what a slice shows: its elements' cells -/
inductive Shows (C : Cx) (M : Hp) (sz : Nat) : Value → Nat → List Value → Prop
  | nil : Shows C M sz (.slice none 0 0) 0 []
  | some {b o m cap : Nat} {cs : List Value} : cs.length = m * sz → RdL C M b o cs → Shows C M sz (.slice (some ⟨b, o, none⟩) m cap) m cs

/-- append on a row of one's own: where the new one lies -/
theorem run_append_mine {P : Program} {w : World} (base : Nat) (t ty e : TypeId) (i : TypeInfo) (z : Value) (ht : P.underlying t = some (.slice e)) (hi : P.info? e = some i) (hz : i.zero = some z)
    (hzs : z.cells.size = i.size) (hsz : 0 < i.size) (v : Value) (n : Nat) (xs : List Value) (hown : w.ownsRow base e i.size v n xs)
    (a : Addr) (m c : Nat) (news : List Value) (hl : news.length = m * i.size) (hnews : ∀ j u, news[j]? = some u → w.cell? (a.add j) = some u) (h1 : ∀ u ∈ news, u.oneCell' = true)
    (h63 : n + m ≤ maxLen) (hbytes : (n + m) * i.bytes ≤ 140737488355328) (hbase : base ≤ w.heap.size) :
    ∃ v' w', (Builtin.append_ #[t, t] ty #[v, .slice (some a) m c]).run P w = .ok v' w' ∧ w'.ownsRow base e i.size v' (n + m) (xs ++ news) ∧ w.grownBy w' v.ownBlock ∧
      (∀ j, v'.ownBlock = some j → v.ownBlock = some j ∨ w.heap.size ≤ j) := by
  have hsmall : n + m ≤ 9223372036854775807 := by simp only [maxLen] at h63; omega
  by_cases hgrow : (match v with | .slice none _ _ => 0 < m | .slice (some _) _ cap => cap < n + m | _ => False)
  · obtain ⟨v', w', hr, h2, h3, _⟩ := run_append_own (P := P) w base t ty e i z i.size i.bytes ht hi hz rfl rfl hzs hsz v n xs hown a m c news hl hnews h1 h63 hbytes hbase
    refine ⟨v', w', hr, h2, h3, fun j hj => .inr ?_⟩
    rcases hown.2 with ⟨rfl, rfl⟩ | ⟨g, cap, cur, rfl, hbg, hg, hnc, hcm, hcs, htake⟩
    · have hr' := run_append_nil (P := P) w t ty e i z ht hi hz a m c news hl hnews (by simpa using hgrow) (by omega) (by have hb := hbytes; simp only [Nat.zero_add] at hb; omega)
      rw [hr'] at hr
      cases hr
      simp [Value.ownBlock] at hj
      omega
    · have holds : ∀ j u, xs[j]? = some u → w.cell? ((⟨g, 0, none⟩ : Addr).add j) = some u := hown.cells (g := g) rfl
      have hr' := run_append_grow (P := P) w t ty e i z ht hi hz ⟨g, 0, none⟩ n cap xs hown.1 holds a m c news hl hnews (by simpa using hgrow) (by omega) (growslice_fits (by simpa using hgrow) hbytes)
      rw [hr'] at hr
      cases hr
      simp [Value.ownBlock] at hj
      omega
  · rcases hown.2 with ⟨rfl, rfl⟩ | ⟨g, cap, cur, rfl, hbg, hg, hnc, hcm, hcs, htake⟩
    · have hm : m = 0 := by simp at hgrow; omega
      subst hm
      obtain ⟨v', w', hr, h2, h3, h4⟩ := run_append_own (P := P) w base t ty e i z i.size i.bytes ht hi hz rfl rfl hzs hsz _ 0 xs hown a 0 c news hl hnews h1 h63 hbytes hbase
      have : v' = .slice none 0 0 := h4.2 ⟨rfl, rfl⟩
      subst this
      exact ⟨_, w', hr, h2, h3, fun j hj => by simp [Value.ownBlock] at hj⟩
    · have hroom : n + m ≤ cap := by simp at hgrow; omega
      obtain ⟨v', w', hr, h2, h3, h4⟩ := run_append_own (P := P) w base t ty e i z i.size i.bytes ht hi hz rfl rfl hzs hsz _ n xs hown a m c news hl hnews h1 h63 hbytes hbase
      have hfit : n * i.size + news.length ≤ cur.size := by rw [hl, hcs, ← Nat.add_mul]; exact Nat.mul_le_mul_right _ hroom
      have hr' := run_append_room (P := P) w t ty e i ht hi g n cap cur hg a m c news hl hnews h1 hroom hfit
      rw [hr'] at hr
      cases hr
      exact ⟨_, _, hr', h2, h3, fun j hj => .inl (by simpa [Value.ownBlock] using hj)⟩

theorem AL.append {s x : Operand} {t e : TypeId} {inf : TypeInfo} {z : Value} [Und C.P t (.slice e)] [Inf C.P e inf] {sz by_ : Nat} {v u : Value} {k m : Nat} {cs xs : List Value} {R F : Hp}
    (hd : okDst n (some d) = true) (hz : inf.zero = some z) (hsz : inf.size = sz) (hby : inf.bytes = by_) (hzs : (cellsL z).length = sz) (hpos : Nat.blt 0 sz = true)
    (hs : evO T s = some v) (hx : evO T x = some u) (hrow : IsRow sz e v k cs R) (hsp : M.Perm (R ++ F)) (hsh : Shows C M sz u m xs) (h1 : ∀ u ∈ xs, u.oneCell' = true)
    (h63 : k + m ≤ maxLen) (hbytes : (k + m) * by_ ≤ 140737488355328)
    (kk : ∀ v' R', IsRow sz e v' (k + m) (cs ++ xs) R' → Stabs C n ps ((d, v') :: T) (R' ++ F) ∧ AL C n ops rest ((d, v') :: T) (R' ++ F) K) :
    AL C n ops ((⟨some d, .call ⟨.builtin .append, #[s, x], #[t, t]⟩, ty, pos, after, none⟩, ps) :: rest) T M K :=
  AL.gen rfl hd (fun v' M' => ∃ R', M' = R' ++ F ∧ IsRow sz e v' (k + m) (cs ++ xs) R') (fun act w ht hsat => by
    have hsat' := hsat.perm hsp
    have hpos' : 0 < sz := by have := Nat.le_of_ble_eq_true hpos; omega
    have hown := hrow.owns hsat'
    have hB : C.B ≤ w.heap.size := Nat.le_trans C.hB hsat.below.size
    have hzs' : z.cells.size = sz := by rw [cells_cellsL]; simpa using hzs
    have hu : C.P.underlying t = some (.slice e) := Und.fact
    have hi : C.P.info? e = some inf := Inf.fact
    have key : ∃ v' w', (Builtin.append_ #[t, t] ty #[v, u]).run C.P w = .ok v' w' ∧ w'.ownsRow C.B e sz v' (k + m) (cs ++ xs) ∧ w.grownBy w' v.ownBlock ∧ (∀ j, v'.ownBlock = some j → j ∈ ids R ∨ w.heap.size ≤ j) := by
      subst hsz
      subst hby
      cases hsh with
      | nil =>
        refine ⟨v, w, run_append_owned_none (P := C.P) w C.B t ty e inf inf.size hu hi v k cs hown, by simpa using hown, World.grownBy.refl w _, fun j hj => .inl ((hrow.block j).1 hj)⟩
      | some hl hrd =>
        obtain ⟨v', w', hr, q2, q3, q4⟩ := run_append_mine (P := C.P) (w := w) C.B t ty e inf z hu hi hz hzs' hpos' v k cs hown _ _ _ xs hl (fun j u hj => by rw [addr_add]; exact hsat.rd (hrd j u hj)) h1 h63 hbytes hB
        refine ⟨v', w', hr, q2, q3, fun j hj => ?_⟩
        rcases q4 j hj with h | h
        · exact .inl ((hrow.block j).1 h)
        · exact .inr h
    obtain ⟨v', w', hr, h2, h3, h4⟩ := key
    obtain ⟨R', q1, q2, q3⟩ := Sat.grown hrow hsat' h2 h3 h4
    refine ⟨v', R' ++ F, w', ?_, q2, ⟨q3.size, fun b hb hn => q3.keep b hb fun hm => hn (((hsp.map Prod.fst).mem_iff (a := b)).2 hm), fun b hb => ?_⟩, R', rfl, q1⟩
    · simp [execOp, resolve, invoke, builtin, evO_eval ht hs, evO_eval ht hx, hr]
    · rcases q3.new b hb with h | h
      · exact .inl (((hsp.map Prod.fst).mem_iff (a := b)).2 h)
      · exact .inr h) (by rintro v' M' ⟨R', rfl, hr⟩; exact kk v' R' hr)

/-- x[lo:hi] of a slice -/
theorem PU.slice {x : Operand} {lo hi : Option Operand} {t e : TypeId} {inf : TypeInfo} [Und C.P t (.slice e)] [Inf C.P e inf] {a : Option Addr} {len cap l h : Nat} {sz : Nat} (hsz : inf.size = sz) (hx : evO T x = some (.slice a len cap)) (hlo : (match lo with | none => l = 0 | some y => ∃ k, evO T y = some (.int k l))) (hhi : (match hi with | none => h = len | some y => ∃ k, evO T y = some (.int k h))) (h1 : l ≤ h) (h2 : h ≤ cap) : PU C n T ⟨dst, .slice t x lo hi none, ty, pos, after, g⟩ (.slice (if cap = l then a else a.map (·.add (l * sz))) (h - l) (cap - l)) :=
  fun act ht w => by
    have g1 : ∀ w, (underlying t).run C.P w = .ok (.slice e) w := fun w => run_und
    have g2 : ∀ w, (sizeOf e).run C.P w = .ok inf.size w := fun w => run_sizeOf
    subst hsz
    have hh0 : (0 : Int) ≤ (h : Int) := by omega
    have hl0 : (0 : Int) ≤ (l : Int) := by omega
    have hb : ∀ w, (Instr.sliceBounds true len cap (lo.map act.eval) (hi.map act.eval) none).run C.P w = .ok (l, h, cap) w := by
      intro w
      cases lo with
      | none =>
        cases hi with
        | none => simp at hlo hhi; subst hlo hhi; simp [Instr.sliceBounds]
        | some y =>
          obtain ⟨k, hy⟩ := hhi
          simp at hlo; subst hlo
          simp [Instr.sliceBounds, Instr.sliceBound, evO_eval ht hy, asIntOf, hh0]; intro hc; omega
      | some z =>
        obtain ⟨k2, hz⟩ := hlo
        cases hi with
        | none => simp at hhi; subst hhi; simp [Instr.sliceBounds, Instr.sliceBound, evO_eval ht hz, asIntOf, hl0]; intro hc; omega
        | some y =>
          obtain ⟨k, hy⟩ := hhi
          simp [Instr.sliceBounds, Instr.sliceBound, evO_eval ht hy, evO_eval ht hz, asIntOf, hh0, hl0, h1, h2]
    simp [execOp, evO_eval ht hx, Instr.sliceAt, Instr.slice, g1, g2, hb]

/-- make([]T, k) -/
theorem AL.makeSlice {x y : Operand} {t e : TypeId} {inf : TypeInfo} [Und C.P t (.slice e)] [Inf C.P e inf] {z : Value} {k : Nat} {kl kc : IntKind} (hz : inf.zero = some z) (h1 : (cellsL z) = [z]) (hs1 : inf.size = 1) (hd : okDst n (some d) = true)
    (hx : evO T x = some (.int kl k)) (hy : evO T y = some (.int kc k)) (hb : inf.bytes * k ≤ 281474976710656) (hm : k ≤ maxLen)
    (kk : ∀ b, Stabs C n ps ((d, .slice (some ⟨b, 0, none⟩) k k) :: T) ((b, .cells (List.replicate k z) e) :: M) ∧ AL C n ops rest ((d, .slice (some ⟨b, 0, none⟩) k k) :: T) ((b, .cells (List.replicate k z) e) :: M) K) :
    AL C n ops ((⟨some d, .makeSlice t x y, ty, pos, after, none⟩, ps) :: rest) T M K :=
  AL.gen rfl hd (fun v M' => ∃ b, v = .slice (some ⟨b, 0, none⟩) k k ∧ M' = (b, .cells (List.replicate k z) e) :: M) (fun act w ht hs => by
    obtain ⟨q1, q2⟩ := hs.new (h := .cells (List.replicate k z) e) (o := .cells (List.replicate k z).toArray e) rfl
    refine ⟨_, _, _, ?_, q1, q2, w.heap.size, rfl, rfl⟩
    have hu : C.P.underlying t = some (.slice e) := Und.fact
    have hi : C.P.info? e = some inf := Inf.fact
    have hb' : (inf.bytes : Int) * (k : Int) ≤ 281474976710656 := by
      have h : ((inf.bytes * k : Nat) : Int) ≤ 281474976710656 := by omega
      rwa [Int.natCast_mul] at h
    have h63 : (k : Int) ≤ 9223372036854775807 := by simp [maxLen] at hm; omega
    have hr := run_make (P := C.P) w t e inf z hu hi hz kl kc k k (by omega) (Int.le_refl _) hb' h63
    simp only [Int.toNat_natCast] at hr
    have hc : madeCells z.cells (k * inf.size) = (List.replicate k z).toArray := by
      have : z.cells = #[z] := by rw [cells_cellsL, h1]
      rw [this, hs1, Nat.mul_one]
      have := toList_madeCells_one z k
      rw [← this]
    rw [hc] at hr
    simp only [execOp, evO_eval ht hx, evO_eval ht hy, Sem.run_bind, hr, Result.andThen_ok, Sem.run_pure]) (by rintro v M' ⟨b, rfl, rfl⟩; exact kk b)

/-! calls -/
theorem run_callFunc {P : Program} {f : FuncId} [h : Bod P f] {args : Array Value} {w : World} : (callFunc f args).run P w = .ok (.enter f args) w := by
  obtain ⟨fn, h1, h2, h3⟩ := h.fact
  have h2' : ¬ fn.name = "runtime.NumGoroutine" := by simpa using h2
  have h3' : ¬ fn.body = none := by intro e; simp [e] at h3
  simp [callFunc, h1, h2', h3']

theorem AL.call {dst : Option Nat} {x : Operand} {args : List Operand} {tys : Array TypeId} {f : FuncId} [Bod C.P f] {first caps : Array Value} {vs : List Value} {M1 F : Hp} {Kf : Value → Hp → Prop} (hd : okDst n dst = true)
    (hx : evO T x = some (.func (.func f) first caps)) (ha : evL T args = some vs) (hc : ACalls C f (first.toList ++ vs ++ caps.toList) M1 Kf) (hsp : Split M1 M F)
    (kk : ∀ v M', Kf v M' → Stabs C n ps (putT T dst v) (M' ++ F) ∧ AL C n ops rest (putT T dst v) (M' ++ F) K) :
    AL C n ops ((⟨dst, .call ⟨.value x, args.toArray, tys⟩, ty, pos, after, none⟩, ps) :: rest) T M K :=
  AL.genCall rfl hd f _ _ (fun act w ht _ => by
    have he := evL_eval ht ha
    simp [execOp, resolve, Deferred.ofValue, invoke, evO_eval ht hx, he, run_callFunc]
    ) (hc.frame M hsp.perm) (by rintro v M' ⟨M2, h1, rfl⟩; exact kk v M2 h1)

theorem AL.invoke {dst : Option Nat} {x : Operand} {name : String} {args : List Operand} {tys : Array TypeId} {f : FuncId} {t : TypeId} {a : Option Addr} [hm : Meth C.P t name f] [Bod C.P f] {vs : List Value} {M1 F : Hp} {Kf : Value → Hp → Prop} (hd : okDst n dst = true)
    (hx : evO T x = some (.iface t (.pointer a))) (ha : evL T args = some vs) (hc : ACalls C f (.pointer a :: vs) M1 Kf) (hsp : Split M1 M F)
    (kk : ∀ v M', Kf v M' → Stabs C n ps (putT T dst v) (M' ++ F) ∧ AL C n ops rest (putT T dst v) (M' ++ F) K) :
    AL C n ops ((⟨dst, .call ⟨.invoke x name, args.toArray, tys⟩, ty, pos, after, none⟩, ps) :: rest) T M K :=
  AL.genCall rfl hd f _ _ (fun act w ht _ => by
    have he := evL_eval ht ha
    simp [execOp, resolve, Go.invoke, callMethod, evO_eval ht hx, he, hm.fact, run_callFunc]
    ) (hc.frame M hsp.perm) (by rintro v M' ⟨M2, h1, rfl⟩; exact kk v M2 h1)

/-! functions -/
def argT : Nat → List Value → Tm
  | _, [] => []
  | k, v :: vs => (k, v) :: argT (k + 1) vs

theorem argT_get {args : List Value} : ∀ {k t : Nat} {v : Value}, Tm.get (argT k args) t = some v → k ≤ t ∧ args[t - k]? = some v := by
  induction args with
  | nil => intro k t v h; simp [argT, Tm.get] at h
  | cons u us ih =>
    intro k t v h
    by_cases e : k = t
    · subst e
      rw [argT, Tm.get_cons_self] at h
      cases h
      simp
    · rw [argT, Tm.get_cons_ne e] at h
      obtain ⟨h1, h2⟩ := ih h
      refine ⟨by omega, ?_⟩
      have : t - k = (t - (k + 1)) + 1 := by omega
      rw [this]
      simpa using h2

/-- what the function's results hold -/
def RVal (C : Cx) (T : Tm) (M : Hp) : ResultVar → Value → Prop
  | .tmp t, v => Tm.get T t = some v
  | .cell p ty, v => ∃ b o, Tm.get T p = some (.pointer (some ⟨b, o, none⟩)) ∧ ∀ w, Sat C M w → (loadVar ty ⟨b, o, none⟩).run C.P w = .ok v w
def RVals (C : Cx) (T : Tm) (M : Hp) : List ResultVar → List Value → Prop
  | [], [] => True
  | r :: rs, v :: vs => RVal C T M r v ∧ RVals C T M rs vs
  | _, _ => False
def tup : List Value → Value
  | [v] => v
  | vs => .tuple vs.toArray

def rload (a : Act) (r : ResultVar) : Sem Value :=
  match r with
  | .tmp t => Pure.pure (a.tmps.getD t undef)
  | .cell x t => do loadVar t (← asAddr (a.tmps.getD x undef))
theorem rload_run {T : Tm} {M : Hp} {a : Act} {w : World} (ht : TRel n T a) (hs : Sat C M w) {r : ResultVar} {v : Value} (h1 : RVal C T M r v) : (rload a r).run C.P w = .ok v w := by
  cases r with
  | tmp t => simp only [rload, Sem.run_pure]; rw [ht.2.2 t v h1]
  | cell p ty =>
    obtain ⟨b, o, hp, hl⟩ := h1
    simp only [rload, ht.2.2 p _ hp, asAddr, Sem.run_bind, Sem.run_pure, Result.andThen_ok, hl w hs]

theorem RVals.run {T : Tm} {M : Hp} {a : Act} {w : World} (ht : TRel n T a) (hs : Sat C M w) : ∀ {rs : List ResultVar} {vs : List Value}, RVals C T M rs vs →
    (rs.mapM (rload a)).run C.P w = .ok vs w
  | [], [], _ => by simp
  | [], _ :: _, h => h.elim
  | _ :: _, [], h => h.elim
  | r :: rs, v :: vs, ⟨h1, h2⟩ => by
    have ih := RVals.run ht hs h2
    rw [List.mapM_cons, Sem.run_bind, rload_run ht hs h1]
    simp only [Result.andThen_ok, Sem.run_bind, ih, Sem.run_pure]

theorem results_rload (fn : Func) (a : Act) : results fn a.tmps = (do
    let vs ← fn.results.mapM (rload a)
    Pure.pure (if h : vs.size = 1 then vs[0] else .tuple vs)) := by
  unfold results
  congr 1

theorem run_results {T : Tm} {M : Hp} {a : Act} {w : World} {fn : Func} (ht : TRel n T a) (hs : Sat C M w) {rs : List ResultVar} (hrs : fn.results = rs.toArray) {vs : List Value} (h : RVals C T M rs vs) :
    (results fn a.tmps).run C.P w = .ok (tup vs) w := by
  have hm := RVals.run ht hs h
  rw [results_rload, hrs, Sem.run_bind, List.mapM_toArray, Sem.run_map, hm]
  simp only [Result.andThen_ok, Sem.run_pure]
  congr 1
  match vs with
  | [] => simp [tup]
  | [v] => simp [tup]
  | v :: u :: r => simp [tup]

theorem ACalls.enter {f : FuncId} {fn : Func} {c : Code} {args : List Value} {k : Value → Hp → Prop} {rs : List ResultVar} (hf : C.P.funcs[f]? = some fn) (hb : fn.body = some c) (hrs : fn.results = rs.toArray)
    (hn : fn.ntmps = n) (hl : Nat.ble args.length n = true)
    (h : AWp C n c (argT 0 args) M (fun e T' M' => (match e with | .normal | .ret => True | _ => False) ∧ ∃ vs, RVals C T' M' rs vs ∧ k (tup vs) M')) : ACalls C f args M k := by
  intro w hs
  have hl' : args.length ≤ n := Nat.le_of_ble_eq_true hl
  refine calls_of_wp hf hb (Code.wp_mono ?_ (h { tmps := args.toArray ++ Array.replicate (fn.ntmps - args.toArray.size) undef, defers := [] } w ⟨rfl, by simp [hn]; omega, ?_⟩ hs))
  · rintro e a' w' ⟨T', M', h1, h2, h3, h4, vs, h5, h6⟩
    have hr := run_results h1 h2 hrs h5
    cases e with
    | normal => exact ⟨h1.1, _, hr, _, _, rfl, h2, h3, h6⟩
    | ret => exact ⟨h1.1, _, hr, _, _, rfl, h2, h3, h6⟩
    | _ => exact h4.elim
  · intro t v hv
    obtain ⟨_, h2⟩ := argT_get hv
    simp only [Nat.sub_zero] at h2
    have hlt := (List.getElem?_eq_some_iff.1 h2).1
    simp only [Array.getD_eq_getD_getElem?]
    rw [Array.getElem?_append_left (by simpa using hlt)]
    simp [h2]

theorem RVal.cellA {T : Tm} {M : Hp} {p : Nat} {t : TypeId} {D : TypeDesc} {inf : TypeInfo} [Und C.P t D] [Inf C.P t inf] (hag : aggD D = true) {b o : Nat} {vs : List Value} (hsz : inf.size = vs.length)
    (hp : Tm.get T p = some (.pointer (some ⟨b, o, none⟩))) (hr : RdL C M b o vs) : RVal C T M (.cell p t) (.agg vs.toArray) :=
  ⟨b, o, hp, fun w hs => by simp [loadVar, run_isAgg (t := t), hag, run_sizeOf (t := t), hsz, hs.rdl hr]⟩
theorem RVal.cellS {T : Tm} {M : Hp} {p : Nat} {t : TypeId} {D : TypeDesc} [Und C.P t D] (hag : aggD D = false) {b o : Nat} {v : Value}
    (hp : Tm.get T p = some (.pointer (some ⟨b, o, none⟩))) (hr : Rd C M b o v) : RVal C T M (.cell p t) v :=
  ⟨b, o, hp, fun w hs => by simp [loadVar, run_isAgg (t := t), hag, hs.rd hr]⟩
end
end Go.SL
