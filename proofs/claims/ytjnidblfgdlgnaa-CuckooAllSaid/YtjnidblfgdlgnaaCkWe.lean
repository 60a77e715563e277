/- Walks: way's closure. -/
import Derived.Test.YtjnidblfgdlgnaaCkWc
import Derived.Test.YtjnidblfgdlgnaaCkB
import Derived.Test.YtjnidblfgdlgnaaMp
namespace Go.Proofs.Ytjnidblfgdlgnaa
set_option linter.unusedVariables false
set_option linter.unusedSimpArgs false
open Go.RowKit

def stepV (st : Int × Int) : Value := .agg #[.int .i64 st.1, .int .i64 st.2]
def mapOf (fs : Ck.Fs) : List (Int × Value) := fs.map fun f => (f.1, stepV f.2)
theorem mapOf_look (fs : Ck.Fs) (k : Int) : (mapOf fs).lookup k = (fs.lookup k).map stepV := by
  induction fs with
  | nil => rfl
  | cons f fs ih =>
    obtain ⟨f1, f2⟩ := f
    unfold mapOf at ih ⊢
    simp only [List.map_cons, List.lookup]
    cases k == f1
    · exact ih
    · rfl
theorem mapOf_keys (fs : Ck.Fs) : (mapOf fs).map Prod.fst = Ck.keys fs := by
  unfold mapOf Ck.keys
  rw [List.map_map]; rfl
theorem look_none {fs : Ck.Fs} {k : Int} (h : k ∉ Ck.keys fs) : fs.lookup k = none := by
  induction fs with
  | nil => rfl
  | cons f fs ih =>
    obtain ⟨f1, f2⟩ := f
    unfold Ck.keys at h
    rw [List.map_cons, List.mem_cons, not_or] at h
    have : (k == f1) = false := by simpa using h.1
    simp only [List.lookup, this]
    exact ih h.2
theorem look_some {fs : Ck.Fs} {k : Int} (h : k ∈ Ck.keys fs) : ∃ st, fs.lookup k = some st := by
  induction fs with
  | nil => cases h
  | cons f fs ih =>
    obtain ⟨f1, f2⟩ := f
    by_cases e : k = f1
    · subst e; exact ⟨f2, by simp [List.lookup]⟩
    · have : (k == f1) = false := by simpa using e
      unfold Ck.keys at h
      rw [List.map_cons, List.mem_cons] at h
      simp only [List.lookup, this]
      exact ih (h.resolve_left e)

/-- The search's memory: the map of what was reached, the queue of what is to be looked at (of the first i it was done). -/
structure BQ (N : Nat) (w : World) (c2 r c3 : Nat) (fs : Ck.Fs) (i : Nat) : Prop where
  box2 : Box w c2 112 (.map (some r))
  map : MapAt (Value.int .i64) w r (mapOf fs)
  nodup : (Ck.keys fs).Nodup
  le : i ≤ fs.length
  todo : ∃ A cap, Box w c3 41 (.slice A (fs.length - i) cap) ∧ Row w 3 1 (.slice A (fs.length - i) cap) (fs.length - i) (((Ck.keys fs).drop i).map (Value.int .i64)) ∧
    ∀ q, (Value.slice A (fs.length - i) cap).ownBlock = some q → N ≤ q ∧ q ≠ c2 ∧ q ≠ c3 ∧ q ≠ r
  n2 : N ≤ c2
  nr : N ≤ r
  n3 : N ≤ c3
  d23 : c2 ≠ c3
  d2r : c2 ≠ r
  d3r : c3 ≠ r

theorem BQ.no {N : Nat} {w w' : World} {c2 r c3 : Nat} {fs : Ck.Fs} {i : Nat} (h : BQ N w c2 r c3 fs i) (hf : Fr No w w') : BQ N w' c2 r c3 fs i := by
  obtain ⟨A, cap, h1, h2, h3⟩ := h.todo
  exact ⟨h.box2.no hf, h.map.no hf, h.nodup, h.le, ⟨A, cap, h1.no hf, h2.no hf, h3⟩, h.n2, h.nr, h.n3, h.d23, h.d2r, h.d3r⟩

theorem zero_step (w : World) : (zeroValue 117).run Try.prog w = .ok (stepV (0, 0)) w := by kernel_rfl

set_option maxHeartbeats 1000000 in
theorem way1_old (N c2 r c3 : Nat) (fs : Ck.Fs) (i : Nat) (w : World) (hq : BQ N w c2 r c3 fs i) (k b s : Int) (hk : k ∈ Ck.keys fs) :
    Calls Try.prog 96 #[.int .i64 k, .agg #[.int .i64 b, .int .i64 s], .pointer (some ⟨c2, 0, none⟩), .pointer (some ⟨c3, 0, none⟩)] w fun e w' => e = .returned (.tuple #[]) ∧ Fr No w w' := by
  obtain ⟨st, hst⟩ := look_some hk
  have hl := run_look (P := Try.prog) (w := w.alloc (.cells #[.int .i64 b, .int .i64 s] 117)) (t := 112) (keyd_int .i64) Try.underlying112 Try.underlying3 (zero_step _) (hq.map.no ((Fr.refl _ _).alloc _)) k true
  rw [mapOf_look, hst] at hl
  simp only [Option.map_some, Option.getD_some, Option.isSome_some, if_true, stepV] at hl
  have e2 := (hq.box2.no ((Fr.refl No w).alloc (.cells #[.int .i64 b, .int .i64 s] 117))).cell
  have hlt := hq.box2.lt
  clear hst
  go_enter Try.func96, Try.ntmps96
  go_wp2_with fail
  go_end0
  exact ⟨rfl, ((Fr.refl _ _).alloc _).alloc _⟩

set_option maxHeartbeats 1000000 in
theorem way1_new (N c2 r c3 : Nat) (fs : Ck.Fs) (i : Nat) (w : World) (hN : N ≤ w.heap.size) (hq : BQ N w c2 r c3 fs i) (hlen : fs.length < 50) (k b s : Int) (hk : k ∉ Ck.keys fs) :
    Calls Try.prog 96 #[.int .i64 k, .agg #[.int .i64 b, .int .i64 s], .pointer (some ⟨c2, 0, none⟩), .pointer (some ⟨c3, 0, none⟩)] w fun e w' => e = .returned (.tuple #[]) ∧ BQ N w' c2 r c3 (fs ++ [(k, (b, s))]) i ∧ Fr (From N) w w' := by
  have hst := look_none hk
  have hl := run_look (P := Try.prog) (w := w.alloc (.cells #[.int .i64 b, .int .i64 s] 117)) (t := 112) (keyd_int .i64) Try.underlying112 Try.underlying3 (zero_step _) (hq.map.no ((Fr.refl _ _).alloc _)) k true
  rw [mapOf_look, hst] at hl
  simp only [Option.map_none, Option.getD_none, Option.isSome_none, if_true, stepV] at hl
  have e2 := (hq.box2.no ((Fr.refl No w).alloc (.cells #[.int .i64 b, .int .i64 s] 117))).cell
  have e2' := (hq.box2.no (((Fr.refl No w).alloc (.cells #[.int .i64 b, .int .i64 s] 117)).alloc (.cells #[.int .i64 0, .int .i64 0] 117))).cell
  have hlt := hq.box2.lt
  have HQ := Lib.hid hq
  have HST := Lib.hid hst
  clear hq hst
  go_enter Try.func96, Try.ntmps96
  go_wp2_with (at_mapUpdate; refine wpList_put _ rfl _ _ _ 112 rfl 3 117 (keyd_int .i64) Try.underlying112 Try.underlying3 r (mapOf fs) rfl (HQ.out.map.no (((Fr.refl No w).alloc _).alloc _)) (by rw [mapOf_keys]; exact HQ.out.nodup) k (stepV (b, s)) rfl rfl ?_)
  intro w1 hm1 hn1 hf1
  obtain ⟨A, cap, t1, t2, t3⟩ := HQ.out.todo
  have fA : Fr No w ((w.alloc (.cells #[.int .i64 b, .int .i64 s] 117)).alloc (.cells #[.int .i64 0, .int .i64 0] 117)) := ((Fr.refl _ _).alloc _).alloc _
  have b2 : Box w1 c2 112 (.map (some r)) := (HQ.out.box2.no fA).fr hf1 HQ.out.d2r
  have b3 : Box w1 c3 41 (.slice A (fs.length - i) cap) := (t1.no fA).fr hf1 HQ.out.d3r
  have r3 : Row w1 3 1 (.slice A (fs.length - i) cap) (fs.length - i) (((Ck.keys fs).drop i).map (Value.int .i64)) := (t2.no fA).fr hf1 (fun q e => (t3 q e).2.2.2)
  have T3 := Lib.hid t3
  have HM1 := Lib.hid hm1
  have HN1 := Lib.hid hn1
  clear t3 hm1 hn1 t1 t2 hl e2 e2'
  have q3 := b3.cell
  have f3 := b3.free
  have hle := HQ.out.le
  go_wp2_with (at_builtin; refine wpList_append_row _ rfl _ _ 41 rfl 3 (.int .i64 0) 1 8 Try.underlying41 info_int rfl (by decide) (.slice A (fs.length - i) cap) (fs.length - i) _ rfl (r3.no ((Fr.refl _ _).alloc _)) 1 [.int .i64 k] _ rfl (Src.new _ #[.int .i64 k] _ 1 1 (by simp [Value.oneCell']) rfl 1) (by unfold maxLen; omega) (by omega) ?_; intro A2 cap2 w2 hr2 hf2 _ ho2; have b3' : Box w2 c3 41 (.slice A (fs.length - i) cap) := (b3.no ((Fr.refl No w1).alloc (.cells #[.int .i64 k] 3))).fr hf2 (fun e => (T3.out _ e).2.2.1 rfl); have q3' := b3'.cell; have f3' := b3'.free)
  go_end0
  have fB : Fr No w1 (w1.alloc (.cells #[.int .i64 k] 3)) := (Fr.refl _ _).alloc _
  have own2 : ∀ q, (Value.slice A (fs.length - i) cap).ownBlock = some q → q ≠ c2 ∧ q ≠ c3 ∧ q ≠ r := fun q e => (T3.out q e).2
  have hsz1 : w.heap.size ≤ w1.heap.size := Nat.le_trans fA.size hf1.size
  have hown : ∀ q, (Value.slice A2 (fs.length - i + 1) cap2).ownBlock = some q → N ≤ q ∧ q ≠ c2 ∧ q ≠ c3 ∧ q ≠ r := by
    intro q e
    rcases ho2 with ho2 | ⟨q', ho2, h3⟩
    · rw [ho2] at e; exact T3.out q e
    · rw [ho2] at e; injection e with e; subst e
      have l2 := b2.lt
      have l3 := b3.lt
      have lr := HM1.out.lt
      simp at h3
      omega
  have hlen2 : (fs ++ [(k, (b, s))]).length - i = fs.length - i + 1 := by rw [List.length_append]; simp; omega
  have fC : Fr (From N) w w2 := ((fA.toFrom N).trans' hf1 fun q _ e => by have : q = r := e; subst this; exact HQ.out.nr).trans' ((fB.mono fun _ _ x => x.elim).trans' hf2 fun _ _ x => x) fun q _ e => (T3.out q e).1
  refine ⟨rfl, ⟨?_, ?_, ?_, by rw [List.length_append]; omega, ⟨A2, cap2, ?_, ?_, ?_⟩, HQ.out.n2, HQ.out.nr, HQ.out.n3, HQ.out.d23, HQ.out.d2r, HQ.out.d3r⟩, fC.setCellFrom HQ.out.n3 _⟩
  · exact Box.far ((b2.no fB).fr hf2 (fun e => (own2 _ e).1 rfl)) HQ.out.d23 _
  · have h1 := ((HM1.out.no fB).fr hf2 (fun e => (own2 _ e).2.2 rfl)).fr ((Fr.refl (At1 c3) w2).setCell (a := ⟨c3, 0, none⟩) (fun _ => rfl) (.slice A2 (fs.length - i + 1) cap2)) (fun e => HQ.out.d3r e.symm)
    have e : mput (mapOf fs) k (stepV (b, s)) = mapOf (fs ++ [(k, (b, s))]) := by
      unfold mput
      rw [mapOf_look, HST.out]
      simp [mapOf]
    rw [e] at h1
    exact h1
  · have h1 := HN1.out
    have e : mput (mapOf fs) k (stepV (b, s)) = mapOf (fs ++ [(k, (b, s))]) := by
      unfold mput
      rw [mapOf_look, HST.out]
      simp [mapOf]
    rw [e, mapOf_keys] at h1
    exact h1
  · rw [hlen2]; exact b3'.set _
  · rw [hlen2]
    have h1 : Ck.keys (fs ++ [(k, (b, s))]) = Ck.keys fs ++ [k] := by unfold Ck.keys; rw [List.map_append]; rfl
    have h2 : (Ck.keys fs).length = fs.length := by unfold Ck.keys; rw [List.length_map]
    rw [h1, List.drop_append_of_le_length (by omega), List.map_append]
    exact hr2.fr ((Fr.refl (At1 c3) w2).setCell (a := ⟨c3, 0, none⟩) (fun _ => rfl) _) fun q e e2 => (hown q e).2.2.1 e2
  · rw [hlen2]; exact hown

theorem way1_any (N c2 r c3 : Nat) (fs : Ck.Fs) (i : Nat) (w : World) (hN : N ≤ w.heap.size) (hq : BQ N w c2 r c3 fs i) (hlen : fs.length < 50) (k b s : Int) :
    Calls Try.prog 96 #[.int .i64 k, .agg #[.int .i64 b, .int .i64 s], .pointer (some ⟨c2, 0, none⟩), .pointer (some ⟨c3, 0, none⟩)] w fun e w' => e = .returned (.tuple #[]) ∧ BQ N w' c2 r c3 (Ck.addF fs k (b, s)) i ∧ Fr (From N) w w' := by
  by_cases hk : k ∈ Ck.keys fs
  · refine (way1_old N c2 r c3 fs i w hq k b s hk).mono ?_
    rintro e w' ⟨he, hf⟩
    refine ⟨he, ?_, hf.toFrom N⟩
    unfold Ck.addF
    rw [if_pos hk]
    exact hq.no hf
  · refine (way1_new N c2 r c3 fs i w hN hq hlen k b s hk).mono ?_
    rintro e w' ⟨he, h1, hf⟩
    refine ⟨he, ?_, hf⟩
    unfold Ck.addF
    rw [if_neg hk]
    exact h1

end Go.Proofs.Ytjnidblfgdlgnaa
