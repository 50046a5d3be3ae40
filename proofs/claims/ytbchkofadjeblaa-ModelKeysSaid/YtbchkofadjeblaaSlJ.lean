/-
  The layer of triples, tenth part: rows that are seen through a window (slices that begin within their block).
-/
import Derived.Test.YtbchkofadjeblaaSlI
import Derived.ArgAppend
set_option linter.unusedVariables false
set_option linter.unusedSimpArgs false
namespace Go.SL
open Go Go.RowKit

section
variable {C : Cx} {M F : Hp} {w : World}
theorem Sat.preSplit {b tot : Nat} {cs : List Value} {e : TypeId} (h : Sat C ((b, .pre cs e tot) :: F) w) : ∃ rest : List Value, cs.length + rest.length = tot ∧ Sat C ((b, .cells (cs ++ rest) e) :: F) w := by
  obtain ⟨o, ho, rest, rfl, hl⟩ := h.here (b, .pre cs e tot) (List.mem_cons_self ..)
  refine ⟨rest, hl, h.below, h.nodup, fun x hx => ?_, fun x hx => ?_⟩
  · cases hx with
    | head => exact h.ge (b, .pre cs e tot) (List.mem_cons_self ..)
    | tail _ hx => exact h.ge x (List.mem_cons_of_mem _ hx)
  · cases hx with
    | head => exact ⟨_, ho, rfl⟩
    | tail _ hx => exact h.here x (List.mem_cons_of_mem _ hx)
theorem Sat.cellsPre {b tot : Nat} {cs rest : List Value} {e : TypeId} (h : Sat C ((b, .cells (cs ++ rest) e) :: F) w) (hl : cs.length + rest.length = tot) : Sat C ((b, .pre cs e tot) :: F) w := by
  refine ⟨h.below, h.nodup, fun x hx => ?_, fun x hx => ?_⟩
  · cases hx with
    | head => exact h.ge (b, .cells (cs ++ rest) e) (List.mem_cons_self ..)
    | tail _ hx => exact h.ge x (List.mem_cons_of_mem _ hx)
  · cases hx with
    | head =>
      obtain ⟨o, ho, hok⟩ := h.here (b, .cells (cs ++ rest) e) (List.mem_cons_self ..)
      have : o = .cells (cs ++ rest).toArray e (0, 0) := hok
      exact ⟨o, ho, rest, this, hl⟩
    | tail _ hx => exact h.here x (List.mem_cons_of_mem _ hx)
theorem Sat.preDrop {b tot : Nat} {cs ds : List Value} {e : TypeId} (h : Sat C ((b, .pre (cs ++ ds) e tot) :: F) w) : Sat C ((b, .pre cs e tot) :: F) w := by
  obtain ⟨rest, hl, hs⟩ := h.preSplit
  rw [List.append_assoc] at hs
  exact hs.cellsPre (by simp at hl ⊢; omega)
end

/-- A slice that owns its cells: nil, or a window of a block that is its own. -/
inductive IsWin (sz : Nat) (e : TypeId) : Value → Nat → List Value → Hp → Prop
  | nil : IsWin sz e (.slice none 0 0) 0 [] []
  | win {b o n cap tot : Nat} {junk cs : List Value} : junk.length = o → cs.length = n * sz → n ≤ cap → cap ≤ maxLen → o + cap * sz ≤ tot → IsWin sz e (.slice (some ⟨b, o, none⟩) n cap) n cs [(b, .pre (junk ++ cs) e tot)]

section
variable {C : Cx} {n : Nat} {T : Tm} {M : Hp} {K : Exit → Tm → Hp → Prop} {ops : Array Oper} {rest : List (Oper × List Oper)}
  {d : Nat} {dst : Option Nat} {g : Option (Nat × Bool)} {ty : TypeId} {pos : String} {after : Array Edge}
theorem IsWin.len {sz k : Nat} {e : TypeId} {v : Value} {cs : List Value} {R : Hp} (h : IsWin sz e v k cs R) : cs.length = k * sz := by
  cases h with
  | nil => simp
  | win _ h _ _ _ => exact h
theorem IsRow.win {sz k : Nat} {e : TypeId} {v : Value} {cs : List Value} {R : Hp} (h : IsRow sz e v k cs R) {F : Hp} {w : World} (hs : Sat C (R ++ F) w) : ∃ R', IsWin sz e v k cs R' ∧ Sat C (R' ++ F) w ∧ ids R' = ids R := by
  cases h with
  | nil => exact ⟨[], .nil, hs, rfl⟩
  | @lit b n cs h1 h2 =>
    have := IsWin.win (sz := sz) (e := e) (b := b) (o := 0) (n := k) (cap := k) (tot := k * sz) (junk := []) (cs := cs) rfl h1 (Nat.le_refl _) h2 (by omega)
    exact ⟨_, this, Sat.cellsPre (rest := []) (by simpa using hs) (by simp [h1]), rfl⟩
  | @row b n cap cs h1 h2 h3 =>
    exact ⟨_, IsWin.win (junk := []) (o := 0) (tot := cap * sz) rfl h1 h2 h3 (by omega), hs, rfl⟩

theorem AL.appendW {s x : Operand} {t e : TypeId} {inf : TypeInfo} {z : Value} [Und C.P t (.slice e)] [Inf C.P e inf] {sz by_ : Nat} {v u : Value} {k m : Nat} {cs xs : List Value} {R F : Hp}
    (hd : okDst n (some d) = true) (hz : inf.zero = some z) (hsz : inf.size = sz) (hby : inf.bytes = by_) (hzs : (cellsL z).length = sz) (hpos : Nat.blt 0 sz = true)
    (hs : evO T s = some v) (hx : evO T x = some u) (hrow : IsWin sz e v k cs R) (hsp : M.Perm (R ++ F)) (hsh : Shows C M sz u m xs) (h1 : ∀ u ∈ xs, u.oneCell' = true) (hm0 : 0 < m)
    (h63 : k + m ≤ maxLen) (hbytes : (k + m) * by_ ≤ 140737488355328)
    (kk : ∀ v' R', IsWin sz e v' (k + m) (cs ++ xs) R' → AL C n ops rest ((d, v') :: T) (R' ++ F) K) :
    AL C n ops ((⟨some d, .call ⟨.builtin .append, #[s, x], #[t, t]⟩, ty, pos, after, none⟩, []) :: rest) T M K :=
  AL.gen rfl hd (fun v' M' => ∃ R', M' = R' ++ F ∧ IsWin sz e v' (k + m) (cs ++ xs) R') (fun act w ht hsat => by
    have hsat' := hsat.perm hsp
    have hpos' : 0 < sz := by have := Nat.le_of_ble_eq_true hpos; omega
    have hB : C.B ≤ w.heap.size := Nat.le_trans C.hB hsat.below.size
    have hzs' : z.cells.size = sz := by rw [cells_cellsL]; simpa using hzs
    have hu : C.P.underlying t = some (.slice e) := Und.fact
    have hi : C.P.info? e = some inf := Inf.fact
    have hsmall : k + m ≤ 9223372036854775807 := by simp only [maxLen] at h63; omega
    have hidsM : ∀ b, b ∈ ids M ↔ b ∈ ids (R ++ F) := fun b => (hsp.map Prod.fst).mem_iff
    obtain ⟨a, m', c, rfl, hl, hnews⟩ : ∃ (a : Addr) (m' c : Nat), u = .slice (some a) m' c ∧ xs.length = m * sz ∧ (m' = m ∧ ∀ j u, xs[j]? = some u → w.cell? (a.add j) = some u) := by
      cases hsh with
      | nil => omega
      | some hl hrd => exact ⟨_, _, _, rfl, hl, rfl, fun j u hj => by rw [addr_add]; exact hsat.rd (hrd j u hj)⟩
    obtain ⟨rfl, hnews⟩ := hnews
    subst hsz
    subst hby
    have hlen : (cs ++ xs).length = (k + m') * inf.size := by rw [List.length_append, hrow.len, hl, Nat.add_mul]
    -- a new block
    have grown : ∀ (old : Nat), old < k + m' → ∀ (Q : Hp), Sat C (Q ++ F) w → (∀ b, b ∈ ids (Q ++ F) → b ∈ ids (R ++ F)) →
        ∃ R', IsWin inf.size e (.slice (some ⟨w.heap.size, 0, none⟩) (k + m') (grownCap w (k + m') old e)) (k + m') (cs ++ xs) R' ∧
          Sat C (R' ++ F) (w.drew.alloc (.cells (cs.toArray ++ xs.toArray ++ Builtin.zeroCells z.cells (grownCap w (k + m') old e - (k + m'))) e)) ∧
          Ext M w (R' ++ F) (w.drew.alloc (.cells (cs.toArray ++ xs.toArray ++ Builtin.zeroCells z.cells (grownCap w (k + m') old e - (k + m'))) e)) := by
      intro old ho Q hQ hsub
      have hge := grownCap_ge w (k + m') old e
      have hcm : grownCap w (k + m') old e ≤ maxLen := grownCap_le_maxLen w (k + m') old e h63
      have hF : Sat C F w.drew := by
        have : Sat C (F ++ Q) w := hQ.perm List.perm_append_comm
        exact this.left.drew
      have hob : (HObj.pre (cs ++ xs) e (grownCap w (k + m') old e * inf.size)).ok (.cells (cs.toArray ++ xs.toArray ++ Builtin.zeroCells z.cells (grownCap w (k + m') old e - (k + m'))) e (0, 0)) := by
        refine ⟨(Builtin.zeroCells z.cells (grownCap w (k + m') old e - (k + m'))).toList, ?_, ?_⟩
        · congr 1
          apply Array.ext'
          simp
        · rw [hlen, Array.length_toList, size_zeroCells, hzs', ← Nat.add_mul]
          congr 1; omega
      obtain ⟨q1, q2⟩ := hF.new hob
      refine ⟨[(w.heap.size, .pre (cs ++ xs) e (grownCap w (k + m') old e * inf.size))], IsWin.win (junk := []) rfl hlen hge hcm (by omega), q1, ?_⟩
      refine ⟨q2.size, fun b hb _ => ?_, fun b hb => ?_⟩
      · exact heap_alloc_old w.drew _ hb
      · have : b ∈ ids ((w.heap.size, HObj.pre (cs ++ xs) e (grownCap w (k + m') old e * inf.size)) :: F) := hb
        simp only [ids, List.map_cons, List.mem_cons] at this
        rcases this with rfl | h
        · exact .inr (Nat.le_refl _)
        · exact .inl ((hidsM b).2 (by simp only [ids, List.map_append]; exact List.mem_append_right _ h))
    have key : ∃ v' w' R', (Builtin.append_ #[t, t] ty #[v, .slice (some a) m' c]).run C.P w = .ok v' w' ∧ IsWin inf.size e v' (k + m') (cs ++ xs) R' ∧ Sat C (R' ++ F) w' ∧ Ext M w (R' ++ F) w' := by
      cases hrow with
      | nil =>
        have hr := run_append_nil (P := C.P) w t ty e inf z hu hi hz a m' c xs hl hnews (by omega) (by omega) (by have hb := hbytes; simp only [Nat.zero_add] at hb; omega)
        obtain ⟨R', q1, q2, q3⟩ := grown 0 (by omega) [] hsat' (fun b hb => hb)
        simp only [Nat.zero_add, List.nil_append, Array.empty_append] at q1 q2 q3 ⊢
        exact ⟨_, _, R', hr, q1, q2, q3⟩
      | @win b o _ cap tot junk cs hj hcl hnc hcm htot =>
        subst hj
        obtain ⟨rest', hrl, hs2⟩ := hsat'.preSplit
        simp only [List.length_append] at hrl
        have hs2 : Sat C ((b, .cells (junk ++ cs ++ rest') e) :: F) w := hs2
        by_cases hroom : k + m' ≤ cap
        · have hfit : junk.length + k * inf.size + xs.length ≤ (junk ++ cs ++ rest').length := by
            simp only [List.length_append]
            have : (k + m') * inf.size ≤ cap * inf.size := Nat.mul_le_mul_right _ hroom
            rw [Nat.add_mul] at this
            omega
          have hupd : Upd b (junk.length + k * inf.size) xs ((b, .cells (junk ++ cs ++ rest') e) :: F) ((b, .cells (putAt (junk ++ cs ++ rest') (junk.length + k * inf.size) xs) e) :: F) := .cells hfit
          obtain ⟨w', hr, p1, p2⟩ := run_store_upd hupd hs2 h1
          have hput : putAt (junk ++ cs ++ rest') (junk.length + k * inf.size) xs = (junk ++ (cs ++ xs)) ++ rest'.drop xs.length := by
            have hlc : (junk ++ cs).length = junk.length + k * inf.size := by simp [hcl]
            simp only [putAt]
            rw [← hlc, List.take_left, List.drop_append]
            simp
          rw [hput] at p1
          have p1' := Sat.cellsPre (tot := tot) p1 (by
            simp only [List.length_append, List.length_drop]
            simp only [List.length_append] at hfit
            omega)
          have hfc := run_firstCells_some (P := C.P) w inf.size m' a m' c xs hl hnews
          refine ⟨.slice (some ⟨b, junk.length, none⟩) (k + m') cap, w', _, ?_, IsWin.win (junk := junk) rfl hlen hroom hcm htot, p1', ?_⟩
          · simp [Builtin.append_, run_underlying hu, sizeOf, typeInfo, hi, Builtin.lenOf, hroom, hfc, Addr.add_lit, hr]
          · refine ⟨p2.size, fun q hq hn => p2.keep q hq (fun hm => hn ((hidsM q).2 hm)), fun q hq => ?_⟩
            rcases p2.new q hq with h | h
            · exact .inl ((hidsM q).2 h)
            · exact .inr h
        · have holds : ∀ j u, cs[j]? = some u → w.cell? ((⟨b, junk.length, none⟩ : Addr).add j) = some u := fun j u hj => by
            rw [addr_add]
            refine hs2.rd (Rd.own (List.mem_cons_self ..) ?_)
            simp only [HObj.list]
            have hjl := (List.getElem?_eq_some_iff.1 hj).1
            rw [List.append_assoc, List.getElem?_append_right (by omega), Nat.add_sub_cancel_left, List.getElem?_append_left hjl]
            exact hj
          have hr := run_append_grow (P := C.P) w t ty e inf z hu hi hz ⟨b, junk.length, none⟩ k cap cs hcl holds a m' c xs hl hnews (by omega) (by omega) (growslice_fits (by omega) hbytes)
          obtain ⟨R', q1, q2, q3⟩ := grown cap (by omega) _ hsat' (fun b hb => hb)
          exact ⟨_, _, R', hr, q1, q2, q3⟩
    obtain ⟨v', w', R', hr, h2, h3, h4⟩ := key
    refine ⟨v', R' ++ F, w', ?_, h3, h4, R', rfl, h2⟩
    simp only [execOp, resolve, List.map_toArray, List.map_cons, List.map_nil, evO_eval ht hs, evO_eval ht hx]
    unfold Go.invoke Go.builtin
    simp [hr]) (by rintro v' M' ⟨R', rfl, hr⟩; exact ⟨trivial, kk v' R' hr⟩)

/-- append where there is room, in a block whose cells are known -/
theorem AL.appendIn {s x : Operand} {t e : TypeId} {inf : TypeInfo} [Und C.P t (.slice e)] [Inf C.P e inf] {sz : Nat} {b o k cap m : Nat} {u : Value} {xs : List Value} {M' : Hp} (hd : okDst n (some d) = true) (hsz : inf.size = sz)
    (hs : evO T s = some (.slice (some ⟨b, o, none⟩) k cap)) (hx : evO T x = some u) (hsh : Shows C M sz u m xs) (hroom : k + m ≤ cap) (h1 : ∀ u ∈ xs, u.oneCell' = true) (hu : Upd b (o + k * sz) xs M M')
    (kk : AL C n ops rest ((d, .slice (some ⟨b, o, none⟩) (k + m) cap) :: T) M' K) :
    AL C n ops ((⟨some d, .call ⟨.builtin .append, #[s, x], #[t, t]⟩, ty, pos, after, none⟩, []) :: rest) T M K :=
  AL.gen rfl hd (fun v' M2 => v' = .slice (some ⟨b, o, none⟩) (k + m) cap ∧ M2 = M') (fun act w ht hsat => by
    have hut : C.P.underlying t = some (.slice e) := Und.fact
    have hi : C.P.info? e = some inf := Inf.fact
    obtain ⟨w', hr, p1, p2⟩ := run_store_upd hu hsat h1
    refine ⟨_, M', w', ?_, p1, p2, rfl, rfl⟩
    subst hsz
    have hfc : (Builtin.firstCells inf.size m u).run C.P w = .ok xs.toArray w ∧ (Builtin.lenOf u).run C.P w = .ok m w ∧ ∃ a c, u = .slice a m c := by
      cases hsh with
      | nil => exact ⟨by simp [Builtin.firstCells], by simp [Builtin.lenOf], _, _, rfl⟩
      | some hl hrd =>
        refine ⟨run_firstCells_some (P := C.P) w inf.size m _ m _ xs hl (fun j u hj => by rw [addr_add]; exact hsat.rd (hrd j u hj)), by simp [Builtin.lenOf], _, _, rfl⟩
    obtain ⟨hfc, hlen, a, c, rfl⟩ := hfc
    simp only [execOp, resolve, List.map_toArray, List.map_cons, List.map_nil, evO_eval ht hs, evO_eval ht hx]
    unfold Go.invoke Go.builtin
    simp [Builtin.append_, run_underlying hut, sizeOf, typeInfo, hi, Builtin.lenOf, hroom, hfc, Addr.add_lit, hr]) (by rintro v' M2 ⟨rfl, rfl⟩; exact ⟨trivial, kk⟩)

theorem zeroCells_one {z : Value} (h : cellsL z = [z]) (m : Nat) : (Builtin.zeroCells z.cells m).toList = List.replicate m z := by
  rw [cells_cellsL, h]
  apply List.ext_getElem
  · simp [Builtin.zeroCells]
  · intro i h1 h2
    simp [Builtin.zeroCells, Nat.mod_one]

/-- clear, where each element has one cell -/
theorem AL.clear {x : Operand} {t e : TypeId} {inf : TypeInfo} {z : Value} [Und C.P t (.slice e)] [Inf C.P e inf] {b o m cap : Nat} {M' : Hp} (hd : okDst n dst = true) (hz : inf.zero = some z) (h1 : cellsL z = [z]) (h2 : z.oneCell' = true)
    (hx : evO T x = some (.slice (some ⟨b, o, none⟩) m cap)) (hu : Upd b o (List.replicate m z) M M')
    (kk : AL C n ops rest (putT T dst (.tuple #[])) M' K) :
    AL C n ops ((⟨dst, .call ⟨.builtin .clear, #[x], #[t]⟩, ty, pos, after, none⟩, []) :: rest) T M K :=
  AL.gen rfl hd (fun v' M2 => v' = .tuple #[] ∧ M2 = M') (fun act w ht hsat => by
    have hut : ∀ w, (underlying t).run C.P w = .ok (.slice e) w := fun w => run_und
    have hzv : ∀ w, (zeroValue e).run C.P w = .ok z w := fun w => run_zero hz
    obtain ⟨w', hr, p1, p2⟩ := run_store_upd hu hsat (fun v hv => by rw [List.eq_of_mem_replicate hv]; exact h2)
    have hrun : (Builtin.clear_ #[t] ty #[.slice (some ⟨b, o, none⟩) m cap]).run C.P w = .ok (.tuple #[]) w' := by
      cases m with
      | zero =>
        have : w' = w := by
          simp [storeCells] at hr
          exact hr.symm
        subst this
        simp [Builtin.clear_, hut]
      | succ m =>
        rw [← zeroCells_one h1] at hr
        simp [Builtin.clear_, hut, hzv, hr]
    refine ⟨_, M', w', ?_, p1, p2, rfl, rfl⟩
    simp only [execOp, resolve, List.map_toArray, List.map_cons, List.map_nil, evO_eval ht hx]
    unfold Go.invoke Go.builtin
    simp [hrun]) (by rintro v' M2 ⟨rfl, rfl⟩; exact ⟨trivial, kk⟩)
end
end Go.SL
