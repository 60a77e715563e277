/- Walks: cuckoo.At, Find$1, Set$1. -/
import Derived.Test.YtjnidblfgdlgnaaCkWa
namespace Go.Proofs.Ytjnidblfgdlgnaa
set_option linter.unusedVariables false
set_option linter.unusedSimpArgs false
open Go.RowKit

def atI (D : Nat → Ck.Ent) (b s : Int) : Ck.Ent := if 0 ≤ b ∧ b < 8 ∧ 0 ≤ s ∧ s < 4 then D (b.toNat * 4 + s.toNat) else Ck.zero

set_option maxHeartbeats 1000000 in
theorem at_in (g : Nat) (D : Nat → Ck.Ent) (n : Int) (w : World) (hd : DirAt tDir w g D n) (b s : Nat) (hb : b < 8) (hs : s < 4) :
    Calls Try.prog 68 #[.pointer (some ⟨g, 0, none⟩), .int .i64 b, .int .i64 s] w fun e w' => e = .returned (.tuple #[.int .i64 (D (b * 4 + s)).id, .int .i64 (D (b * 4 + s)).tag, .bool (D (b * 4 + s)).has]) ∧ Fr No w w' := by
  have c0 : w.cell? ⟨g, b * 12 + s * 3, none⟩ = some (.bool (D (b * 4 + s)).has) := by rw [show b * 12 + s * 3 = (b * 4 + s) * 3 by omega]; exact hd.c0 (by omega)
  have c1 : w.cell? ⟨g, b * 12 + s * 3 + 1, none⟩ = some (.int .i64 (D (b * 4 + s)).id) := by rw [show b * 12 + s * 3 = (b * 4 + s) * 3 by omega]; exact hd.c1 (by omega)
  have c2 : w.cell? ⟨g, b * 12 + s * 3 + 2, none⟩ = some (.int .i64 (D (b * 4 + s)).tag) := by rw [show b * 12 + s * 3 = (b * 4 + s) * 3 by omega]; exact hd.c2 (by omega)
  generalize (D (b * 4 + s)).has = x0 at *
  generalize (D (b * 4 + s)).id = x1 at *
  generalize (D (b * 4 + s)).tag = x2 at *
  go_enter Try.func68, Try.ntmps68
  go_wp2_with fail
  go_quiet (fail)
  go_wp2_with fail
  go_ret3
  exact ⟨rfl, ((Fr.refl _ _).alloc _).drewN _⟩

theorem info_int : (Try.prog.info? 3).map (fun i => (i.zero, i.size, i.bytes)) = some (some (.int .i64 0), 1, 8) := by kernel_rfl

/-- The captured variable at block c holds a slice of numbers, in memory from block N on. -/
def IVar (N : Nat) (w : World) (c : Nat) (l : List Int) : Prop :=
  ∃ A cap, Box w c 41 (.slice A l.length cap) ∧ Row w 3 1 (.slice A l.length cap) l.length (l.map (Value.int .i64)) ∧ N ≤ c ∧ ∀ q, (Value.slice A l.length cap).ownBlock = some q → N ≤ q ∧ q ≠ c

set_option maxHeartbeats 1000000 in
theorem find1_any (N g k c : Nat) (D : Nat → Ck.Ent) (n : Int) (w : World) (hd : DirAt tDir w g D n) (hk : k < 32) (l : List Int) (hv : IVar N w c l) (hN : N ≤ w.heap.size) (hl : l.length < 100) :
    Calls Try.prog 66 #[.pointer (some ⟨g, k * 3, none⟩), .pointer (some ⟨c, 0, none⟩)] w fun e w' => e = .returned (.bool true) ∧ IVar N w' c (l ++ [(D k).id]) ∧ Fr (From N) w w' := by
  obtain ⟨A0, cap0, hc, hr, hNc, hq⟩ := hv
  have c1 := hd.c1 hk
  have cc := hc.cell
  have cf := hc.free
  have hcl := hc.lt
  generalize (D k).id = x1 at *
  have HQ := Lib.hid hq
  clear hq
  go_enter Try.func66, Try.ntmps66
  go_wp2_with fail
  go_region_law (refine step_append_row rfl _ _ 41 rfl 3 (.int .i64 0) 1 8 Try.underlying41 info_int rfl (by decide) (.slice A0 l.length cap0) l.length (l.map (Value.int .i64)) rfl (hr.no (((Fr.refl _ _).alloc _).drew)) 1 [.int .i64 x1] _ rfl (Src.new _ #[.int .i64 x1] _ 1 1 (by simp [Value.oneCell']) rfl 1) (by unfold maxLen; omega) (by omega) ?_; intro A ca w1 hr1 hf1 hn1 ho1; have hb1 : Box w1 c 41 (.slice A0 l.length cap0) := (Box.no hc (((Fr.refl No w).alloc _).drew)).fr hf1 (fun e => (HQ.out _ e).2 rfl); have q1 := hb1.cell; have q2 := hb1.free)
  all_goals
    go_wp2_with fail
    go_ret
    refine ⟨rfl, ⟨A, ca, ?_, ?_, hNc, ?_⟩, ?_⟩
    · rw [List.length_append]; exact hb1.set _
    · rw [List.length_append, List.map_append]
      refine hr1.fr ((Fr.refl (At1 c) w1).setCell (fun _ => rfl) _) fun q e hqc => ?_
      subst hqc
      rcases ho1 with ho1 | ⟨q, ho1, h3⟩
      · rw [ho1] at e; exact (HQ.out _ e).2 rfl
      · rw [ho1] at e; injection e with e; subst e; simp at h3; omega
    · intro q e
      rw [List.length_append] at e
      rcases ho1 with ho1 | ⟨q', ho1, h3⟩
      · rw [show (Value.slice A (l.length + [x1].length) ca).ownBlock = (Value.slice A (l.length + 1) ca).ownBlock from rfl, ho1] at e; exact HQ.out _ e
      · rw [show (Value.slice A (l.length + [x1].length) ca).ownBlock = (Value.slice A (l.length + 1) ca).ownBlock from rfl, ho1] at e; injection e with e; subst e; simp at h3; omega
    · refine Fr.setCellFrom ?_ hNc _
      exact (((Fr.refl No w).alloc _).drew.toFrom N).trans' hf1 fun q _ e => (HQ.out _ e).1

set_option maxHeartbeats 1000000 in
theorem set1_no (g k c1 c2 c3 : Nat) (D : Nat → Ck.Ent) (n : Int) (w : World) (hd : DirAt tDir w g D n) (hk : k < 32) (old id : Int)
    (h1 : Box w c1 3 (.int .i64 old)) (h2 : Box w c2 3 (.int .i64 id)) (h3 : Box w c3 4 (.bool false)) (hno : (D k).id = old → mayB id = false) :
    Calls Try.prog 65 #[.pointer (some ⟨g, k * 3, none⟩), .pointer (some ⟨c1, 0, none⟩), .pointer (some ⟨c2, 0, none⟩), .pointer (some ⟨c3, 0, none⟩)] w fun e w' => e = .returned (.bool true) ∧ Fr No w w' := by
  have e1 := hd.c1 hk
  have e2 := h1.cell
  have e3 := h2.cell
  have e4 := h3.cell
  generalize (D k).id = x1 at *
  by_cases hx : x1 = old
  · have hm := hno hx
    subst hx
    clear hno
    go_enter Try.func65, Try.ntmps65
    go_wp2_with fail
    go_quiet ((go_at_call 57; exact quietL (may_any _ _)))
    go_wp2_with fail
    go_ret
    exact ⟨rfl, (Fr.refl _ _).drewN _⟩
  · have hb : (x1 == old) = false := by simpa using hx
    clear hno hx
    go_enter Try.func65, Try.ntmps65
    go_wp2_with fail
    go_quiet ((go_at_call 57; exact quietL (may_any _ _)))
    go_wp2_with fail
    go_ret
    exact ⟨rfl, (Fr.refl _ _).drewN _⟩

set_option maxHeartbeats 1000000 in
theorem set1_yes (g k c1 c2 c3 : Nat) (D : Nat → Ck.Ent) (n : Int) (w : World) (hd : DirAt tDir w g D n) (hk : k < 32) (id : Int)
    (h1 : Box w c1 3 (.int .i64 (D k).id)) (h2 : Box w c2 3 (.int .i64 id)) (h3 : Box w c3 4 (.bool false)) (hm : mayB id = true) (g3 : c3 ≠ g) (g23 : c2 ≠ c3) (g2 : c2 ≠ g) :
    Calls Try.prog 65 #[.pointer (some ⟨g, k * 3, none⟩), .pointer (some ⟨c1, 0, none⟩), .pointer (some ⟨c2, 0, none⟩), .pointer (some ⟨c3, 0, none⟩)] w fun e w' => e = .returned (.bool false) ∧
      ∃ m, ((w.drewN m).setCell ⟨g, k * 3 + 1, none⟩ (.int .i64 id)).setCell ⟨c3, 0, none⟩ (.bool true) = w' := by
  have e1 := hd.c1 hk
  have f1 : w.frozen? ⟨g, k * 3 + 1, none⟩ = false := Blk.free hd _
  have e2 := h1.cell
  have e3 := h2.cell
  have e4 := h3.cell
  have f4 := h3.free
  generalize (D k).id = x1 at *
  go_enter Try.func65, Try.ntmps65
  go_wp2_with fail
  go_quiet ((go_at_call 57; exact quietL (may_any _ _)))
  have b4 : Box ((w.drewN nq).setCell ⟨g, k * 3 + 1, none⟩ (.int .i64 id)) c3 4 (.bool false) := Box.far (Blk.drewN h3 nq) g3 _
  have q4 := b4.cell
  have q5 := (b4.set (.bool true)).cell
  clear b4
  go_wp2_with fail
  go_ret
  exact ⟨rfl, nq, rfl⟩

end Go.Proofs.Ytjnidblfgdlgnaa
