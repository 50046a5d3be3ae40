import Derived.Test.YtbchkofadjeblaaT18
set_option linter.unusedVariables false
set_option linter.unusedSimpArgs false
namespace Go.Proofs.Ytbchkofadjeblaa
open Go Go.SL
attribute [local irreducible] AL AWp thenK blockK endK ACalls RVals AD effK PVs PU PV planOk noP
set_option maxRecDepth 100000
set_option maxHeartbeats 2000000
variable {w0 : World} {B : Nat} {hB : B ≤ w0.heap.size}

/-! a ring, alone -/
abbrev ringT : TypeId := 136
theorem pushF_form (d : DeclD) (fl : Int) (ls : List (List Int)) (l : List Int) : ∃ c, (pushF d fl ls l).1 = resV c nilS 0 0 := by
  unfold pushF
  split
  · split <;> exact ⟨_, rfl⟩
  · exact ⟨_, rfl⟩
theorem dor_push {Z M M0 : Hp} {x b r : Nat} {d : DeclD} {es : Value} {ls : List (List Int)} {l : List Int} {o : OpD} {a : Option Addr} {n cap : Nat} (F : Frz (cx w0 B hB) Z x 1 d 1 (.iface ringT (.pointer (some ⟨r, 0, none⟩))) b) (hM : RingAt r b d es ls M) (hin : d.inner ≤ 0) (hv : o.val = .slice a n cap)
    (hs : Shows (cx w0 B hB) M0 1 o.val n (uL l)) (hl : l.length = n) (hn : n ≤ 1000000) (hd1 : 1 ≤ d.entries) (hd2 : d.entries ≤ 1000) (hle : (ls.length : Int) ≤ d.entries) (hk : o.kind = 6) (hr : rightF 1 d o n = true) :
    ACalls (cx w0 B hB) 14 [.pointer (some ⟨x, 0, none⟩), .int .i64 1, o.v] (Z ++ (M ++ M0)) (fun v M' => v = (pushF d o.flag ls l).1 ∧ ∃ M2, RingAt r b d es (pushF d o.flag ls l).2 M2 ∧ M' = M2 ++ (M0 ++ Z)) := by
  refine (do_ok F hin hv hr (pushdo_s (M0 := M0) hM hv hs hl hn hd1 hd2 hle hk) ?_).mono ?_
  · rintro v M' ⟨rfl, _⟩
    obtain ⟨c, hc⟩ := pushF_form d o.flag ls l
    exact ⟨c, none, 0, 0, 0, 0, hc⟩
  · rintro v M' ⟨M1, ⟨h1, M2, h2, rfl⟩, rfl⟩
    exact ⟨h1, M2, h2, by simp⟩
theorem dor_empty {Z M : Hp} {x b r : Nat} {d : DeclD} {es : Value} {o : OpD} {a : Option Addr} {n cap : Nat} (F : Frz (cx w0 B hB) Z x 1 d 1 (.iface ringT (.pointer (some ⟨r, 0, none⟩))) b) (hM : RingAt r b d es [] M) (hin : d.inner ≤ 0) (hk : o.kind ≠ 6) (hv : o.val = .slice a n cap) (hr : rightF 1 d o n = true) :
    ACalls (cx w0 B hB) 14 [.pointer (some ⟨x, 0, none⟩), .int .i64 1, o.v] (Z ++ M) (fun v M' => v = resV 2 nilS 0 0 ∧ M' = M ++ Z) := by
  refine (do_ok F hin hv hr (empty_s hM hk hv) ?_).mono ?_
  · rintro v M' ⟨rfl, _⟩; exact ⟨2, none, 0, 0, 0, 0, rfl⟩
  · rintro v M' ⟨M1, ⟨h1, rfl⟩, rfl⟩; exact ⟨h1, rfl⟩
theorem dor_pop {Z M : Hp} {x b r : Nat} {d : DeclD} {es : Value} {ls : List (List Int)} {o : OpD} {a : Option Addr} {n cap : Nat} (F : Frz (cx w0 B hB) Z x 1 d 1 (.iface ringT (.pointer (some ⟨r, 0, none⟩))) b) (hM : RingAt r b d es ls M) (hin : d.inner ≤ 0) (hk : o.kind ≠ 6) (hv : o.val = .slice a n cap) (hne : ls ≠ []) (hln : ls.length ≤ 1000) (hwl : ∀ l ∈ ls, l.length ≤ 1000000) (hr : rightF 1 d o n = true) :
    ACalls (cx w0 B hB) 14 [.pointer (some ⟨x, 0, none⟩), .int .i64 1, o.v] (Z ++ M)
      (fun v M' => ∃ sa sc R M2, v = resV 0 (.slice sa (ls[ringAt d ls]?.getD []).length sc) 0 0 ∧ IsRow 1 28 (.slice sa (ls[ringAt d ls]?.getD []).length sc) (ls[ringAt d ls]?.getD []).length (uL (ls[ringAt d ls]?.getD [])) R ∧ RingAt r b d es (if o.kind = 7 then ls.eraseIdx (ringAt d ls) else ls) M2 ∧ M' = R ++ (M2 ++ Z)) := by
  refine (do_ok F hin hv hr (pop_s hM hk hv hne hln hwl) ?_).mono ?_
  · rintro v M' ⟨s, R, M2, rfl, h1, _⟩
    obtain ⟨sa, sc, rfl⟩ := h1.asSlice
    exact ⟨0, sa, _, sc, 0, 0, rfl⟩
  · rintro v M' ⟨M1, ⟨s, R, M2, rfl, h1, h2, rfl⟩, rfl⟩
    obtain ⟨sa, sc, rfl⟩ := h1.asSlice
    exact ⟨sa, sc, R, M2, rfl, h1, h2, by simp⟩
abbrev sng (l : List Int) : List (List Int) := l.map fun v => [v]
theorem push_room {d : DeclD} {fl v : Int} {kept : List Int} (h : (kept.length : Int) ≠ d.entries) : pushF d fl (sng kept) [v] = (resV 0 nilS 0 0, sng (kept ++ [v])) := by
  simp [pushF, h]
theorem push_err {d : DeclD} {v : Int} {kept : List Int} (h : (kept.length : Int) = d.entries) : pushF d 0 (sng kept) [v] = (resV 4 nilS 0 0, sng kept) := by
  simp [pushF, h]
theorem push_old {d : DeclD} {v : Int} {kept : List Int} (h : (kept.length : Int) = d.entries) : pushF d 2 (sng kept) [v] = (resV 0 nilS 0 0, sng (kept.tail ++ [v])) := by
  simp [pushF, h]
structure RgSt where
  (i : Nat) (kept : List Int) (ka : Option Addr) (kc : Nat) (Rk M : Hp)
theorem dor_pop1 {Z M : Hp} {x b r at_ : Nat} {w : Int} {d : DeclD} {es : Value} {kept : List Int} {o : OpD} {a : Option Addr} {n cap : Nat} (F : Frz (cx w0 B hB) Z x 1 d 1 (.iface ringT (.pointer (some ⟨r, 0, none⟩))) b) (hM : RingAt r b d es (sng kept) M) (hin : d.inner ≤ 0) (hk : o.kind ≠ 6) (hv : o.val = .slice a n cap) (hra : ringAt d (sng kept) = at_) (hat : kept[at_]? = some w) (hln : kept.length ≤ 1000) (hr : rightF 1 d o n = true) :
    ACalls (cx w0 B hB) 14 [.pointer (some ⟨x, 0, none⟩), .int .i64 1, o.v] (Z ++ M)
      (fun v M' => ∃ sa sc R M2, v = resV 0 (.slice sa 1 sc) 0 0 ∧ IsRow 1 28 (.slice sa 1 sc) 1 (uL [w]) R ∧ RingAt r b d es (sng (if o.kind = 7 then kept.eraseIdx at_ else kept)) M2 ∧ M' = R ++ (M2 ++ Z)) := by
  have hg : ((sng kept)[ringAt d (sng kept)]?).getD [] = [w] := by rw [hra, sng, List.getElem?_map, hat]; rfl
  have hne : sng kept ≠ [] := by intro h; simp at h; subst h; simp at hat
  refine (dor_pop F hM hin hk hv hne (by simpa using hln) (by intro l hl; obtain ⟨y, _, rfl⟩ := List.mem_map.1 hl; simp) hr).mono ?_
  rintro v M' ⟨sa, sc, R, M2, rfl, h1, h2, rfl⟩
  rw [hg] at h1 ⊢
  rw [hra] at h2
  refine ⟨sa, sc, R, M2, rfl, h1, ?_, rfl⟩
  have he : (sng kept).eraseIdx at_ = sng (kept.eraseIdx at_) := by simp [sng, List.eraseIdx_eq_take_drop_succ, List.map_take, List.map_drop]
  by_cases h7 : o.kind = 7
  · rw [if_pos h7] at h2 ⊢; rw [← he]; exact h2
  · rw [if_neg h7] at h2 ⊢; exact h2
theorem right_push {d : DeclD} {v : Value} {fl : Int} (hk : d.kind = 6 ∨ d.kind = 7) (hw : d.words = 1) (hf : fl = 0 ∨ fl = 2) : rightF 1 d ⟨6, 0, v, fl, 0⟩ 1 = true := by
  have h1 : mayF d.kind 6 = true := by rcases hk with h | h <;> rw [h] <;> rfl
  have h2 : (d.kind == 2) = false := by rcases hk with h | h <;> rw [h] <;> rfl
  have h3 : flagsL d.kind 6 = [0, 2] := by rcases hk with h | h <;> rw [h] <;> rfl
  simp only [rightF, rightA, rightB, h1, h2, h3, hw]
  rcases hf with h | h <;> subst h <;> simp
theorem right_pop {d : DeclD} {v : Value} {k : Int} (hk : d.kind = 6 ∨ d.kind = 7) (ho : k = 7 ∨ k = 8) : rightF 1 d ⟨k, 0, v, 0, 0⟩ 0 = true := by
  have h1 : mayF d.kind k = true := by rcases hk with h | h <;> rcases ho with h' | h' <;> rw [h, h'] <;> rfl
  have h2 : (d.kind == 2) = false := by rcases hk with h | h <;> rw [h] <;> rfl
  have h3 : flagsL d.kind k = [0] := by rcases hk with h | h <;> rcases ho with h' | h' <;> rw [h, h'] <;> rfl
  have h4 : valuedF d ⟨k, 0, v, 0, 0⟩ = false := by
    have h8 : (d.kind == 8) = false := by rcases hk with h | h <;> rw [h] <;> rfl
    simp only [valuedF, h8, Bool.and_false, Bool.or_false]
    rcases ho with h | h <;> rw [h] <;> rfl
  simp only [rightF, rightA, rightB, h1, h2, h3, h4]
  simp
/-- numbers that came in -/
structure Arg (C : Cx) (a : Option Addr) (n cap : Nat) (l : List Int) : Prop where
  len : l.length = n
  le : n ≤ cap
  get : ∀ (i : Nat) v, l[i]? = some v → ∃ b o, a = some ⟨b, o, none⟩ ∧ Rd C [] b (o + (i : Int).toNat * 1) (.int .u64 v)
  u : ∀ v ∈ l, isU v
theorem Arg.take {C : Cx} {a : Option Addr} {n cap k : Nat} {l : List Int} (h : Arg C a n cap l) (hk : k ≤ n) : Arg C a k cap (l.take k) := by
  refine ⟨by have := h.len; simp; omega, by have := h.le; omega, fun i v hv => ?_, fun v hv => h.u v (List.mem_of_mem_take hv)⟩
  rw [List.getElem?_take] at hv
  split at hv
  · exact h.get i v hv
  · cases hv
theorem Arg.at {C : Cx} {a : Option Addr} {n cap : Nat} {l : List Int} (h : Arg C a n cap l) {i : Nat} (hi : i < n) : ∃ b o v, a = some ⟨b, o, none⟩ ∧ l[i]? = some v ∧ Rd C [] b (o + (i : Int).toNat * 1) (.int .u64 v) ∧ isU v := by
  have hl := h.len
  obtain ⟨b, o, h1, h2⟩ := h.get i (l[i]'(by omega)) (List.getElem?_eq_getElem (by omega))
  exact ⟨b, o, _, h1, List.getElem?_eq_getElem (by omega), h2, h.u _ (List.getElem_mem _)⟩
end Go.Proofs.Ytbchkofadjeblaa
