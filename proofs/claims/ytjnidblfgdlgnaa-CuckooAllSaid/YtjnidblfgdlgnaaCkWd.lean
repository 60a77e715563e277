/- Walks: cuckoo.each over Set's closure; Set. -/
import Derived.Test.YtjnidblfgdlgnaaCkWc
namespace Go.Proofs.Ytjnidblfgdlgnaa
set_option linter.unusedVariables false
set_option linter.unusedSimpArgs false
open Go.RowKit

def SetHit (D : Nat → Ck.Ent) (h old id : Int) (j : Nat) : Bool := Ck.hit D h (Ck.sq h j) && (D (Ck.sq h j)).id == old && mayB id
def NoneSet (D : Nat → Ck.Ent) (h old id : Int) (m : Nat) : Prop := ∀ j, j < m → SetHit D h old id j = false
theorem NoneSet.zero (D : Nat → Ck.Ent) (h old id : Int) : NoneSet D h old id (0 * 4) := fun j hj => by omega
theorem NoneSet.succ {D : Nat → Ck.Ent} {h old id : Int} {m : Nat} (h1 : NoneSet D h old id m) (h2 : SetHit D h old id m = false) : NoneSet D h old id (m + 1) := fun j hj => by
  by_cases e : j = m
  · rw [e]; exact h2
  · exact h1 j (by omega)
def SetPost (D : Nat → Ck.Ent) (h old id n : Int) (w w' : World) (g c3 : Nat) : Prop :=
  (∃ j, j < 8 ∧ SetHit D h old id j = true ∧ NoneSet D h old id j ∧ DirAt tDir w' g (Ck.upd D (Ck.sq h j) ⟨true, id, (D (Ck.sq h j)).tag⟩) n ∧ Box w' c3 4 (.bool true) ∧ Fr (fun q => q = g ∨ q = c3) w w') ∨
  (NoneSet D h old id 8 ∧ Fr No w w')
theorem SetPost.none {D : Nat → Ck.Ent} {h old id n : Int} {w w' : World} {g c3 : Nat} (h1 : NoneSet D h old id 8) (h2 : Fr No w w') : SetPost D h old id n w w' g c3 := .inr ⟨h1, h2⟩

theorem set1_no_at (g o c1 c2 c3 : Nat) (D : Nat → Ck.Ent) (n : Int) (w : World) (hd : DirAt tDir w g D n) (k : Nat) (hk : k < 32) (ho : o = k * 3) (old id : Int)
    (h1 : Box w c1 3 (.int .i64 old)) (h2 : Box w c2 3 (.int .i64 id)) (h3 : Box w c3 4 (.bool false)) (hno : (D k).id = old → mayB id = false) :
    Calls Try.prog 65 #[.pointer (some ⟨g, o, none⟩), .pointer (some ⟨c1, 0, none⟩), .pointer (some ⟨c2, 0, none⟩), .pointer (some ⟨c3, 0, none⟩)] w fun e w' => e = .returned (.bool true) ∧ Fr No w w' := by
  subst ho
  exact set1_no g k c1 c2 c3 D n w hd hk old id h1 h2 h3 hno

theorem set1_yes_at (g o c1 c2 c3 : Nat) (D : Nat → Ck.Ent) (n : Int) (w : World) (hd : DirAt tDir w g D n) (k : Nat) (hk : k < 32) (ho : o = k * 3) (old id : Int) (hold : (D k).id = old)
    (h1 : Box w c1 3 (.int .i64 old)) (h2 : Box w c2 3 (.int .i64 id)) (h3 : Box w c3 4 (.bool false)) (hm : mayB id = true) (g3 : c3 ≠ g) (g23 : c2 ≠ c3) (g2 : c2 ≠ g) :
    Calls Try.prog 65 #[.pointer (some ⟨g, o, none⟩), .pointer (some ⟨c1, 0, none⟩), .pointer (some ⟨c2, 0, none⟩), .pointer (some ⟨c3, 0, none⟩)] w fun e w' => e = .returned (.bool false) ∧
      ∃ m, ((w.drewN m).setCell ⟨g, k * 3 + 1, none⟩ (.int .i64 id)).setCell ⟨c3, 0, none⟩ (.bool true) = w' := by
  subst ho
  subst hold
  exact set1_yes g k c1 c2 c3 D n w hd hk id h1 h2 h3 hm g3 g23 g2

set_option maxRecDepth 100000 in
set_option maxHeartbeats 2000000 in
theorem each_set (g c1 c2 c3 : Nat) (D : Nat → Ck.Ent) (n : Int) (h old id : Int) (w : World) (h0 : 0 ≤ h) (h1 : h < 18446744073709551616) (hd : DirAt tDir w g D n)
    (q1 : Box w c1 3 (.int .i64 old)) (q2 : Box w c2 3 (.int .i64 id)) (q3 : Box w c3 4 (.bool false)) (g3 : c3 ≠ g) (g23 : c2 ≠ c3) (g2 : c2 ≠ g) :
    Calls Try.prog 64 #[.pointer (some ⟨g, 0, none⟩), .int .u64 h, .func (.func 65) #[] #[.pointer (some ⟨c1, 0, none⟩), .pointer (some ⟨c2, 0, none⟩), .pointer (some ⟨c3, 0, none⟩)]] w fun e w' => e = .returned (.tuple #[]) ∧ SetPost D h old id n w w' g c3 := by
  go_enter Try.func64, Try.ntmps64
  go_wp2_with fail
  refine (both_nat h _ h0 h1).mono ?_
  rintro e w1 ⟨rfl, hf1⟩
  have hb0 := Ck.b0_lt h
  have hb1 := Ck.b1_lt h
  go_wp2_with fail
  go_loopw [14] (fun v wr => ∃ i : Nat, i ≤ 2 ∧ v = .int .i64 i ∧ NoneSet D h old id (i * 4) ∧ Fr No w wr) (fun v _ => 2 - (intOf v).toNat)
  case atStart => exact ⟨0, by omega, rfl, NoneSet.zero _ _ _ _, hf1⟩
  case round =>
    obtain ⟨i, hi, rfl, hv1, hf⟩ := hrel
    obtain ⟨wo, rfl⟩ : ∃ wo : World, wo = wr := ⟨_, rfl⟩
    by_cases hlt : i < 2
    · have hx := index2 (Ck.b0 h : Nat) (Ck.b1 h : Nat) i hlt
      have ex : (if i = 0 then ((Ck.b0 h : Nat) : Int) else ((Ck.b1 h : Nat) : Int)) = ((Ck.bN h i : Nat) : Int) := by unfold Ck.bN; split <;> rfl
      rw [ex] at hx
      clear ex
      have hbn := Ck.bN_lt h i
      have hdi : decide ((i : Int) < 2) = true := decide_eq_true (by omega)
      go_wp2_with fail
      clear hx hdi
      go_loopw [17] (fun v wr => ∃ s : Nat, s ≤ 4 ∧ v = .int .i64 s ∧ NoneSet D h old id (i * 4 + s) ∧ Fr No w wr) (fun v _ => 4 - (intOf v).toNat)
      case atStart => exact ⟨0, by omega, rfl, hv1, hf⟩
      case round =>
        obtain ⟨s, hs, rfl, hv2, hf2⟩ := hrel
        by_cases hls : s < 4
        · have hd2 : DirAt tDir wr g D n := hd.no hf2
          have p1 := q1.no hf2
          have p2 := q2.no hf2
          have p3 := q3.no hf2
          have hk : Ck.bN h i * 4 + s < 32 := by omega
          have c0 : wr.cell? ⟨g, Ck.bN h i * 12 + s * 3, none⟩ = some (.bool (D (Ck.bN h i * 4 + s)).has) := by rw [show Ck.bN h i * 12 + s * 3 = (Ck.bN h i * 4 + s) * 3 by omega]; exact hd2.c0 hk
          have c2' : wr.cell? ⟨g, Ck.bN h i * 12 + s * 3 + 2, none⟩ = some (.int .i64 (D (Ck.bN h i * 4 + s)).tag) := by rw [show Ck.bN h i * 12 + s * 3 = (Ck.bN h i * 4 + s) * 3 by omega]; exact hd2.c2 hk
          have hstep : SetHit D h old id (i * 4 + s) = false → NoneSet D h old id (i * 4 + (s + 1)) := fun e => hv2.succ e
          have hsq : Ck.sq h (i * 4 + s) = Ck.bN h i * 4 + s := Ck.sq_at h hls
          have HV := Lib.hid hv2
          have HST := Lib.hid hstep
          have HSQ := Lib.hid hsq
          clear hv2 hstep hsq
          cases hh : (D (Ck.bN h i * 4 + s)).has
          · rw [hh] at c0
            have E2 : NoneSet D h old id (i * 4 + (s + 1)) := HST.out (by unfold SetHit Ck.hit; rw [HSQ.out, hh]; rfl)
            clear hh c2'
            go_wp2_with fail
            go_quiet (fail)
            go_wp2_with fail
            go_roundw
            case rel => exact ⟨s + 1, by omega, by go_num, E2, hf2.drewN _⟩
            case measure => simp [intOf]; omega
          · rw [hh] at c0
            cases ht : ((D (Ck.bN h i * 4 + s)).tag == Ck.tg h)
            · have E2 : NoneSet D h old id (i * 4 + (s + 1)) := HST.out (by unfold SetHit Ck.hit; rw [HSQ.out, ht, Bool.and_false]; rfl)
              clear hh
              go_wp2_with fail
              go_quiet ((go_at_call 60; exact quietL (tag_any _ _ h0 h1)))
              go_wp2_with fail
              go_roundw
              case rel => exact ⟨s + 1, by omega, by go_num, E2, hf2.drewN _⟩
              case measure => simp [intOf]; omega
            · by_cases hid : (D (Ck.bN h i * 4 + s)).id = old ∧ mayB id = true
              · have hhit : SetHit D h old id (i * 4 + s) = true := by unfold SetHit Ck.hit; rw [HSQ.out, hh, ht, hid.2, hid.1]; simp
                have HID := Lib.hid hid
                have HH := Lib.hid hh
                have HHIT := Lib.hid hhit
                clear hh hid hhit
                go_wp2_with fail
                refine wp_region_still_tail 16 (by kernel_rfl) (by kernel_rfl) ?_
                simp only [List.take_succ_cons, List.take_zero, List.drop_succ_cons, List.drop_zero]
                iterate 10 still_step
                still_call (stillC (tag_any _ _ h0 h1))
                iterate 5 still_step
                refine wpStill_nil ?_
                change wpList _ _ _ _ _ wr.drew
                go_wp2_with fail
                refine (set1_yes_at g (Ck.bN h i * 12 + s * 3) c1 c2 c3 D n wr.drew hd2.drew (Ck.bN h i * 4 + s) hk (by omega) old id HID.out.1 (Blk.drew p1) (Blk.drew p2) (Blk.drew p3) HID.out.2 g3 g23 g2).mono ?_
                rintro e w2 ⟨rfl, hw2⟩
                go_wp2_with fail
                refine bodyPost_ret (results_none rfl _ _ _) rfl ?_
                refine ⟨rfl, .inl ⟨i * 4 + s, by omega, HHIT.out, HV.out, ?_⟩⟩
                obtain ⟨m, rfl⟩ := hw2
                rw [HSQ.out]
                have z := (hd2.drew.drewN m).putId hk id
                rw [HH.out] at z
                refine ⟨z.far (fun e => g3 e.symm) _, Blk.set (Blk.far (Blk.drewN (Blk.drew p3) m) (fun e => g3 e) _) 0 _, ?_⟩
                exact ((((hf2.mono (T := fun q => q = g ∨ q = c3) fun _ _ x => x.elim).drew.drewN m).setCell (fun _ => .inl rfl) _).setCell (fun _ => .inr rfl) _)
              · have E2 : NoneSet D h old id (i * 4 + (s + 1)) := HST.out (by
                  unfold SetHit
                  rw [HSQ.out]
                  cases hm : mayB id
                  · simp
                  · have : ¬ (D (Ck.bN h i * 4 + s)).id = old := fun e => hid ⟨e, hm⟩
                    simp [this])
                have hno : (D (Ck.bN h i * 4 + s)).id = old → mayB id = false := fun e => by
                  cases hm : mayB id
                  · rfl
                  · exact absurd ⟨e, hm⟩ hid
                have HNO := Lib.hid hno
                clear hh hid hno
                go_wp2_with fail
                refine wp_region_still_tail 16 (by kernel_rfl) (by kernel_rfl) ?_
                simp only [List.take_succ_cons, List.take_zero, List.drop_succ_cons, List.drop_zero]
                iterate 10 still_step
                still_call (stillC (tag_any _ _ h0 h1))
                iterate 5 still_step
                refine wpStill_nil ?_
                change wpList _ _ _ _ _ wr.drew
                go_wp2_with fail
                refine (set1_no_at g (Ck.bN h i * 12 + s * 3) c1 c2 c3 D n wr.drew hd2.drew (Ck.bN h i * 4 + s) hk (by omega) old id (Blk.drew p1) (Blk.drew p2) (Blk.drew p3) HNO.out).mono ?_
                rintro e w2 ⟨rfl, hf3⟩
                go_wp2_with fail
                go_roundw
                case rel => exact ⟨s + 1, by omega, by go_num, E2, hf2.drew.no hf3⟩
                case measure => simp [intOf]; omega
        · have hs4 : s = 4 := by omega
          have HS := Lib.hid hs4
          clear hs4
          go_wp2_with fail
          go_roundw
          case rel => exact ⟨i + 1, by omega, by go_num, by rw [show (i + 1) * 4 = i * 4 + s by rw [HS.out]; omega]; exact hv2, hf2⟩
          case measure => simp [intOf]; omega
    · have hi2 : i = 2 := by omega
      have HI := Lib.hid hi2
      clear hi2
      go_wp2_with fail
      go_end0
      exact ⟨rfl, SetPost.none (by rw [show 8 = i * 4 by rw [HI.out]]; exact hv1) hf⟩

end Go.Proofs.Ytjnidblfgdlgnaa
