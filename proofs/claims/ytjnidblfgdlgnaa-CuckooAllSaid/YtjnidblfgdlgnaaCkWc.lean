/- Walks: cuckoo.each over Find's closure; Find. -/
import Derived.Test.YtjnidblfgdlgnaaCkWb
namespace Go.Proofs.Ytjnidblfgdlgnaa
set_option linter.unusedVariables false
set_option linter.unusedSimpArgs false
open Go.RowKit

theorem index2 (a b : Int) (i : Nat) (hi : i < 2) (w : World) : (Instr.index 157 (.agg #[.int .i64 a, .int .i64 b]) (.int .i64 (i : Nat))).run Try.prog w = .ok (.int .i64 (if i = 0 then a else b)) w := by
  rcases i with _ | _ | i
  · kernel_rfl
  · kernel_rfl
  · omega

theorem both_nat (h : Int) (w : World) (h0 : 0 ≤ h) (h1 : h < 18446744073709551616) :
    Calls Try.prog 97 #[.int .u64 h] w fun e w' => e = .returned (.agg #[.int .i64 (Ck.b0 h : Nat), .int .i64 (Ck.b1 h : Nat)]) ∧ Fr No w w' := by
  rw [Ck.b0_cast, Ck.b1_cast]
  exact both_any h w h0 h1

theorem find1_at (N g o c : Nat) (D : Nat → Ck.Ent) (n : Int) (w : World) (hd : DirAt tDir w g D n) (k : Nat) (hk : k < 32) (ho : o = k * 3) (l : List Int) (hv : IVar N w c l) (hN : N ≤ w.heap.size) (hl : l.length < 100) :
    Calls Try.prog 66 #[.pointer (some ⟨g, o, none⟩), .pointer (some ⟨c, 0, none⟩)] w fun e w' => e = .returned (.bool true) ∧ IVar N w' c (l ++ [(D k).id]) ∧ Fr (From N) w w' := by
  subst ho
  exact find1_any N g k c D n w hd hk l hv hN hl

theorem IVar.drew {N : Nat} {w : World} {c : Nat} {l : List Int} (h : IVar N w c l) : IVar N w.drew c l := h
theorem IVar.drewN {N : Nat} {w : World} {c : Nat} {l : List Int} (h : IVar N w c l) (n : Nat) : IVar N (w.drewN n) c l := h
theorem IVar.no {N : Nat} {w w' : World} {c : Nat} {l : List Int} (h : IVar N w c l) (hf : Fr No w w') : IVar N w' c l := by
  obtain ⟨A, cap, h1, h2, h3, h4⟩ := h
  exact ⟨A, cap, h1.no hf, h2.no hf, h3, h4⟩

set_option maxRecDepth 100000 in
set_option maxHeartbeats 2000000 in
theorem each_find (N g c : Nat) (D : Nat → Ck.Ent) (n : Int) (h : Int) (w : World) (h0 : 0 ≤ h) (h1 : h < 18446744073709551616) (hd : DirAt tDir w g D n) (hg : g < N) (l : List Int) (hv : IVar N w c l) (hN : N ≤ w.heap.size) (hl : l.length < 90) :
    Calls Try.prog 64 #[.pointer (some ⟨g, 0, none⟩), .int .u64 h, .func (.func 66) #[] #[.pointer (some ⟨c, 0, none⟩)]] w fun e w' => e = .returned (.tuple #[]) ∧ IVar N w' c (l ++ Ck.ids D h 8) ∧ Fr (From N) w w' := by
  go_enter Try.func64, Try.ntmps64
  go_wp2_with fail
  refine (both_nat h _ h0 h1).mono ?_
  rintro e w1 ⟨rfl, hf1⟩
  have hb0 := Ck.b0_lt h
  have hb1 := Ck.b1_lt h
  go_wp2_with fail
  go_loopw [14] (fun v wr => ∃ i : Nat, i ≤ 2 ∧ v = .int .i64 i ∧ IVar N wr c (l ++ Ck.ids D h (i * 4)) ∧ Fr (From N) w wr) (fun v _ => 2 - (intOf v).toNat)
  case atStart => exact ⟨0, by omega, rfl, by rw [Nat.zero_mul, Ck.ids_zero, List.append_nil]; exact hv.no hf1, hf1.toFrom N⟩
  case round =>
    obtain ⟨i, hi, rfl, hv1, hf⟩ := hrel
    obtain ⟨wo, rfl⟩ : ∃ wo : World, wo = wr := ⟨_, rfl⟩
    by_cases hlt : i < 2
    · have hx := index2 (Ck.b0 h : Nat) (Ck.b1 h : Nat) i hlt
      have ex : (if i = 0 then ((Ck.b0 h : Nat) : Int) else ((Ck.b1 h : Nat) : Int)) = ((Ck.bN h i : Nat) : Int) := by unfold Ck.bN; split <;> rfl
      rw [ex] at hx
      clear ex
      have hbn := Ck.bN_lt h i
      have hdi : decide ((i : Int) < 2) = true := decide_eq_true (by omega)
      go_wp2_with fail
      clear hx hdi
      go_loopw [17] (fun v wr => ∃ s : Nat, s ≤ 4 ∧ v = .int .i64 s ∧ IVar N wr c (l ++ Ck.ids D h (i * 4 + s)) ∧ Fr (From N) w wr) (fun v _ => 4 - (intOf v).toNat)
      case atStart => exact ⟨0, by omega, rfl, hv1, hf⟩
      case round =>
        obtain ⟨s, hs, rfl, hv2, hf2⟩ := hrel
        by_cases hls : s < 4
        · have hd2 : DirAt tDir wr g D n := hd.fr hf2 (fun x => by have : N ≤ g := x; omega)
          have hk : Ck.bN h i * 4 + s < 32 := by omega
          have c0 : wr.cell? ⟨g, Ck.bN h i * 12 + s * 3, none⟩ = some (.bool (D (Ck.bN h i * 4 + s)).has) := by rw [show Ck.bN h i * 12 + s * 3 = (Ck.bN h i * 4 + s) * 3 by omega]; exact hd2.c0 hk
          have c2 : wr.cell? ⟨g, Ck.bN h i * 12 + s * 3 + 2, none⟩ = some (.int .i64 (D (Ck.bN h i * 4 + s)).tag) := by rw [show Ck.bN h i * 12 + s * 3 = (Ck.bN h i * 4 + s) * 3 by omega]; exact hd2.c2 hk
          have hsz : N ≤ wr.heap.size := Nat.le_trans hN hf2.size
          have hil := Ck.ids_len D h (i * 4 + s)
          have hids := Ck.ids_succ D h (i * 4 + s)
          rw [Ck.sq_at h hls] at hids
          have HI := Lib.hid hids
          clear hids
          cases hh : (D (Ck.bN h i * 4 + s)).has
          · rw [hh] at c0
            have e2 : Ck.ids D h (i * 4 + s + 1) = Ck.ids D h (i * 4 + s) := by
              have := HI.out
              unfold Ck.hit at this
              rw [hh] at this
              simpa using this
            clear hh c2 HI
            have E2 := Lib.hid e2
            clear e2
            go_wp2_with fail
            go_quiet (fail)
            go_wp2_with fail
            go_roundw
            case rel => exact ⟨s + 1, by omega, by go_num, by rw [show i * 4 + (s + 1) = i * 4 + s + 1 from rfl, E2.out]; exact hv2.drewN _, hf2.drewN _⟩
            case measure => simp [intOf]; omega
          · rw [hh] at c0
            cases ht : ((D (Ck.bN h i * 4 + s)).tag == Ck.tg h)
            · have e2 : Ck.ids D h (i * 4 + s + 1) = Ck.ids D h (i * 4 + s) := by
                have := HI.out
                unfold Ck.hit at this
                rw [ht, Bool.and_false] at this
                simpa using this
              clear hh HI
              have E2 := Lib.hid e2
              clear e2
              go_wp2_with fail
              go_quiet ((go_at_call 60; exact quietL (tag_any _ _ h0 h1)))
              go_wp2_with fail
              go_roundw
              case rel => exact ⟨s + 1, by omega, by go_num, by rw [show i * 4 + (s + 1) = i * 4 + s + 1 from rfl, E2.out]; exact hv2.drewN _, hf2.drewN _⟩
              case measure => simp [intOf]; omega
            · have e2 : Ck.ids D h (i * 4 + s + 1) = Ck.ids D h (i * 4 + s) ++ [(D (Ck.bN h i * 4 + s)).id] := by
                have := HI.out
                unfold Ck.hit at this
                rw [hh, ht] at this
                simpa using this
              clear hh HI
              have E2 := Lib.hid e2
              clear e2
              go_wp2_with fail
              refine wp_region_still_tail 16 (by kernel_rfl) (by kernel_rfl) ?_
              simp only [List.take_succ_cons, List.take_zero, List.drop_succ_cons, List.drop_zero]
              iterate 10 still_step
              still_call (stillC (tag_any _ _ h0 h1))
              iterate 5 still_step
              refine wpStill_nil ?_
              change wpList _ _ _ _ _ wr.drew
              go_wp2_with fail
              refine (find1_at N g (Ck.bN h i * 12 + s * 3) c D n _ hd2.drew (Ck.bN h i * 4 + s) hk (by omega) _ hv2.drew hsz (by rw [List.length_append]; omega)).mono ?_
              rintro e w2 ⟨rfl, hv3, hf3⟩
              go_wp2_with fail
              go_roundw
              case rel => exact ⟨s + 1, by omega, by go_num, by rw [show i * 4 + (s + 1) = i * 4 + s + 1 from rfl, E2.out, ← List.append_assoc]; exact hv3, hf2.drew.trans' hf3 fun _ _ x => x⟩
              case measure => simp [intOf]; omega
        · have hs4 : s = 4 := by omega
          have HS := Lib.hid hs4
          clear hs4
          go_wp2_with fail
          go_roundw
          case rel => exact ⟨i + 1, by omega, by go_num, by rw [show (i + 1) * 4 = i * 4 + s by rw [HS.out]; omega]; exact hv2, hf2⟩
          case measure => simp [intOf]; omega
    · have hi2 : i = 2 := by omega
      have HI := Lib.hid hi2
      clear hi2
      go_wp2_with fail
      go_end0
      exact ⟨rfl, by rw [show 8 = i * 4 by rw [HI.out]]; exact hv1, hf⟩

end Go.Proofs.Ytjnidblfgdlgnaa
