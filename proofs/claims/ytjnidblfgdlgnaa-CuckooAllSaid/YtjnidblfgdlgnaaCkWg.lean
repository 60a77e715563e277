/- Walks: Insert. -/
import Derived.Test.YtjnidblfgdlgnaaCkWf
namespace Go.Proofs.Ytjnidblfgdlgnaa
set_option linter.unusedVariables false
set_option linter.unusedSimpArgs false
open Go.RowKit

theorem occOn_len (ks : List Nat) (D : Nat → Ck.Ent) : (Ck.occOn ks D).length ≤ ks.length := by
  induction ks with
  | nil => exact Nat.le_refl _
  | cons k ks ih =>
    have e : Ck.occOn (k :: ks) D = Ck.place k (D k) ++ Ck.occOn ks D := rfl
    rw [e, List.length_append, List.length_cons]
    have : (Ck.place k (D k)).length ≤ 1 := by unfold Ck.place; split <;> simp
    omega
theorem lays_len {D : Nat → Ck.Ent} {l : List Ck.Ref} (h : Ck.Lays D l) : l.length ≤ 32 := by
  rw [← h.1.length]
  have := occOn_len (List.range 32) D
  rwa [List.length_range] at this

theorem field_step (a b : Int) (w : World) : (Instr.field 117 (.agg #[.int .i64 a, .int .i64 b]) 0).run Try.prog w = .ok (.int .i64 a) w := by kernel_rfl

def InsPost (h id : Int) (l : List Ck.Ref) (g : Nat) (D : Nat → Ck.Ent) (w : World) (e : Ending) (w' : World) : Prop :=
  Fr (At1 g) w w' ∧ ((e = .returned (.bool true) ∧ mayB id = true ∧ ∃ D', DirAt tDir w' g D' ((l.length + 1 : Nat) : Int) ∧ Ck.Lays D' (l ++ [(h, id)])) ∨
    (e = .returned (.bool false) ∧ (mayB id = true → ¬ Ck.Room (l.map Prod.fst ++ [h])) ∧ DirAt tDir w' g D l.length))

set_option maxRecDepth 100000 in
set_option maxHeartbeats 4000000 in
theorem insert_any (g : Nat) (D : Nat → Ck.Ent) (h id : Int) (l : List Ck.Ref) (w : World) (h0 : 0 ≤ h) (h1 : h < 18446744073709551616) (hd : DirAt tDir w g D l.length) (hl : Ck.Lays D l) :
    Calls Try.prog 17 #[.pointer (some ⟨g, 0, none⟩), .int .u64 h, .int .i64 id] w fun e w' => InsPost h id l g D w e w' := by
  have hlen := lays_len hl
  have hgl := hd.lt
  have HL := Lib.hid hl
  clear hl
  by_cases hm : mayB id = true
  · go_enter Try.func17, Try.ntmps17
    go_wp2_with (first | (go_at_call 57; refine (may_any _ _).mono ?_; rintro e w' ⟨rfl, rfl⟩))
    refine (way_any g D _ h w h0 h1 hd HL.out.tags).mono ?_
    rintro e w1 ⟨hf1, ⟨b, r, fs, hb8, rfl, hmap, hrN, hpre, hkb, hfree⟩ | ⟨rfl, fs, hpre, hdone⟩⟩
    · have hd1 : DirAt tDir w1 g D l.length := hd.no hf1
      obtain ⟨s, hs4, hsf, hsh⟩ := freeI_yes hfree
      obtain ⟨j0, hback⟩ := Ck.Back.start hpre HL.out hkb hs4 hsh
      have HBK := Lib.hid hback
      have HPRE := Lib.hid hpre
      have HSH := Lib.hid hsh
      have HKB := Lib.hid hkb
      have HMAP := Lib.hid hmap
      have HSF := Lib.hid hsf
      have HD1 := Lib.hid hd1
      have HFREE := Lib.hid hfree
      clear hback hpre hsh hkb hmap hsf hfree
      go_wp2_with fail
      refine (free_any g D _ w1 HD1.out b hb8).mono ?_
      rintro e w2 ⟨rfl, hf2⟩
      rw [HSF.out]
      have hf12 := hf1.no hf2
      go_wp2_with fail
      go_loopg [7, 9] j0 (fun k v7 v9 wx => ∃ (D' : Nat → Ck.Ent) (b s : Nat), v7 = .int .i64 b ∧ v9 = .int .i64 s ∧ Ck.Back D D' h fs l k b s ∧ DirAt tDir wx g D' l.length ∧ MapAt (Value.int .i64) wx r (mapOf fs) ∧ Fr (At1 g) w wx)
      case atStart => exact ⟨D, b, s, rfl, rfl, HBK.out, HD1.out.no hf2, HMAP.out.no hf2, hf12.mono fun _ _ x => x.elim⟩
      case round =>
        clear HBK HSH HKB HMAP HSF HD1 HFREE hb8 hs4 hd1
        obtain ⟨D', b, s, rfl, rfl, hB, hd', hm', hfx⟩ := hrel
        obtain ⟨st, hst, _⟩ := hB.note
        obtain ⟨st1, st2⟩ := st
        have hb8 := hB.lt
        have hs4 := hB.slot
        have hlk := run_look (P := Try.prog) (w := wr) (t := 112) (keyd_int .i64) Try.underlying112 Try.underlying3 (zero_step _) hm' (b : Nat) false
        rw [mapOf_look, hst] at hlk
        simp only [Option.map_some, Option.getD_some, Bool.false_eq_true, if_false, stepV] at hlk
        have HB := Lib.hid hB
        have HST := Lib.hid hst
        clear hB hst
        have hgx : g < wr.heap.size := hd'.lt
        have hfi := field_step st1 st2
        by_cases hpos : 0 ≤ st1
        · obtain ⟨q1, q2, q3, j', hj', hB'⟩ := HB.out.step HST.out hpos
          obtain ⟨b', rfl⟩ := Int.eq_ofNat_of_zero_le hpos
          obtain ⟨s', rfl⟩ := Int.eq_ofNat_of_zero_le q1
          simp only [Int.toNat_natCast] at hB'
          have hb8' : b' < 8 := by omega
          have hs4' : s' < 4 := by omega
          have HB' := Lib.hid hB'
          clear hB' hpos q1 q2 q3
          obtain ⟨⟨x0, x1, x2⟩, hx⟩ : ∃ x, D' (b' * 4 + s') = x := ⟨_, rfl⟩
          have c0 : wr.cell? ⟨g, b' * 12 + s' * 3, none⟩ = some (.bool x0) := by rw [show b' * 12 + s' * 3 = (b' * 4 + s') * 3 by omega, hd'.c0 (by omega), hx]
          have c1 : wr.cell? ⟨g, b' * 12 + s' * 3 + 1, none⟩ = some (.int .i64 x1) := by rw [show b' * 12 + s' * 3 + 1 = (b' * 4 + s') * 3 + 1 by omega, hd'.c1 (by omega), hx]
          have c2 : wr.cell? ⟨g, b' * 12 + s' * 3 + 2, none⟩ = some (.int .i64 x2) := by rw [show b' * 12 + s' * 3 + 2 = (b' * 4 + s') * 3 + 2 by omega, hd'.c2 (by omega), hx]
          have HX := Lib.hid hx
          clear hx
          go_wp2_with fail
          obtain ⟨⟨y0, y1, y2⟩, hy⟩ : ∃ y, D' (b * 4 + s) = y := ⟨_, rfl⟩
          have k0 : wr.cell? ⟨g, b * 12 + s * 3, none⟩ = some (.bool y0) := by rw [show b * 12 + s * 3 = (b * 4 + s) * 3 by omega, hd'.c0 (by omega), hy]
          have k1 : wr.cell? ⟨g, b * 12 + s * 3 + 1, none⟩ = some (.int .i64 y1) := by rw [show b * 12 + s * 3 + 1 = (b * 4 + s) * 3 + 1 by omega, hd'.c1 (by omega), hy]
          have k2 : wr.cell? ⟨g, b * 12 + s * 3 + 2, none⟩ = some (.int .i64 y2) := by rw [show b * 12 + s * 3 + 2 = (b * 4 + s) * 3 + 2 by omega, hd'.c2 (by omega), hy]
          have g0 : wr.frozen? ⟨g, b * 12 + s * 3, none⟩ = false := Blk.free hd' _
          have g1 : wr.frozen? ⟨g, b * 12 + s * 3 + 1, none⟩ = false := Blk.free hd' _
          have g2 : wr.frozen? ⟨g, b * 12 + s * 3 + 2, none⟩ = false := Blk.free hd' _
          clear hy
          have i1 : ((b' : Nat) : Int) < 8 := by omega
          have i2 : ((s' : Nat) : Int) < 4 := by omega
          have i3 : ((b : Nat) : Int) < 8 := by omega
          have i4 : ((s : Nat) : Int) < 4 := by omega
          refine wp_region_still_tail 17 (by kernel_rfl) (by kernel_rfl) ?_
          change wpStill _ _ (World.drew _) (fun a' => wpList _ _ _ _ a' (World.drew _)) _ _
          simp only [List.take_succ_cons, List.take_zero, List.drop_succ_cons, List.drop_zero]
          iterate 17 still_step
          refine wpStill_nil ?_
          go_wp2_with fail
          go_quiet (fail)
          go_wp2_with fail
          have hd3 := hd'.put_at (k := b * 4 + s) (o := b * 12 + s * 3) (by omega) (by omega) x0 x1 x2
          have fS : Fr (At1 g) wr (((wr.setCell ⟨g, b * 12 + s * 3, none⟩ (.bool x0)).setCell ⟨g, b * 12 + s * 3 + 1, none⟩ (.int .i64 x1)).setCell ⟨g, b * 12 + s * 3 + 2, none⟩ (.int .i64 x2)) :=
            (((Fr.refl (At1 g) wr).setCell (a := ⟨g, b * 12 + s * 3, none⟩) (fun _ => rfl) _).setCell (a := ⟨g, b * 12 + s * 3 + 1, none⟩) (fun _ => rfl) _).setCell (a := ⟨g, b * 12 + s * 3 + 2, none⟩) (fun _ => rfl) _
          go_roundg j'
          case measure => exact hj'
          case rel =>
            refine ⟨Ck.upd D' (b * 4 + s) ⟨x0, x1, x2⟩, b', s', rfl, rfl, by rw [← HX.out]; exact HB'.out, ((hd3.alloc _).drew).drewN _, ?_, ((hfx.trans fS).alloc _).drew.drewN _⟩
            exact ((hm'.fr fS (fun e => by have : r = g := e; omega)).no (((Fr.refl _ _).alloc _).drew)).no ((Fr.refl _ _).drewN _)
        · have hlt0 : st1 < 0 := by omega
          have HR := Lib.hid (HB.out.root HST.out hlt0 id)
          obtain ⟨⟨y0, y1, y2⟩, hy⟩ : ∃ y, D' (b * 4 + s) = y := ⟨_, rfl⟩
          have k0 : wr.cell? ⟨g, b * 12 + s * 3, none⟩ = some (.bool y0) := by rw [show b * 12 + s * 3 = (b * 4 + s) * 3 by omega, hd'.c0 (by omega), hy]
          have k1 : wr.cell? ⟨g, b * 12 + s * 3 + 1, none⟩ = some (.int .i64 y1) := by rw [show b * 12 + s * 3 + 1 = (b * 4 + s) * 3 + 1 by omega, hd'.c1 (by omega), hy]
          have k2 : wr.cell? ⟨g, b * 12 + s * 3 + 2, none⟩ = some (.int .i64 y2) := by rw [show b * 12 + s * 3 + 2 = (b * 4 + s) * 3 + 2 by omega, hd'.c2 (by omega), hy]
          have g0 : wr.frozen? ⟨g, b * 12 + s * 3, none⟩ = false := Blk.free hd' _
          have g1 : wr.frozen? ⟨g, b * 12 + s * 3 + 1, none⟩ = false := Blk.free hd' _
          have g2 : wr.frozen? ⟨g, b * 12 + s * 3 + 2, none⟩ = false := Blk.free hd' _
          clear hy
          have i3 : ((b : Nat) : Int) < 8 := by omega
          have i4 : ((s : Nat) : Int) < 4 := by omega
          go_wp2_with fail
          clear hlk hfi
          refine wp_region_still_tail 11 (by kernel_rfl) (by kernel_rfl) ?_
          change wpStill _ _ (World.drew _) (fun a' => wpList _ _ _ _ a' (World.drew _)) _ _
          simp only [List.take_succ_cons, List.take_zero, List.drop_succ_cons, List.drop_zero]
          iterate 5 still_step
          still_call (stillC (tag_any _ _ h0 h1))
          iterate 5 still_step
          refine wpStill_nil ?_
          have hd3 := hd'.put_at (k := b * 4 + s) (o := b * 12 + s * 3) (by omega) (by omega) true id (Ck.tg h)
          have n1 := hd3.c96
          have n2 : (((wr.setCell ⟨g, b * 12 + s * 3, none⟩ (.bool true)).setCell ⟨g, b * 12 + s * 3 + 1, none⟩ (.int .i64 id)).setCell ⟨g, b * 12 + s * 3 + 2, none⟩ (.int .i64 (Ck.tg h))).frozen? ⟨g, 96, none⟩ = false := Blk.free hd3 _
          go_wp2_with fail
          go_ret
          have hd4 := hd3.putN ((l.length + 1 : Nat) : Int)
          refine ⟨?_, .inl ⟨rfl, hm, _, ?_, HR.out⟩⟩
          · exact ((((hfx.setCell (fun _ => rfl) _).setCell (fun _ => rfl) _).setCell (fun _ => rfl) _).setCell (fun _ => rfl) _).drew
          · exact hd4.drew
    · have hd1 : DirAt tDir w1 g D l.length := hd.no hf1
      have HC := Lib.hid (hpre.closed hdone HL.out)
      clear hpre hdone
      go_wp2_with fail
      go_ret
      exact ⟨hf1.mono fun _ _ x => x.elim, .inr ⟨rfl, fun _ => HC.out, hd1⟩⟩
  · have hm2 : mayB id = false := by simpa using hm
    clear hm
    go_enter Try.func17, Try.ntmps17
    go_wp2_with (first | (go_at_call 57; refine (may_any _ _).mono ?_; rintro e w' ⟨rfl, rfl⟩))
    go_ret
    exact ⟨Fr.refl _ _, .inr ⟨rfl, (fun e => by rw [hm2] at e; cases e), hd⟩⟩

end Go.Proofs.Ytjnidblfgdlgnaa
