/- Walks: hash.First, Tag, Other; cuckoo.may, both, free, At, Len, New. -/
import Derived.Test.YtjnidblfgdlgnaaRows
import Derived.Test.YtjnidblfgdlgnaaDir
import Derived.StillTailTactics
import Derived.BigQuiet
import Derived.Deep.QuietTactic
namespace Go.Proofs.Ytjnidblfgdlgnaa
set_option linter.unusedVariables false
set_option linter.unusedSimpArgs false
open Go.RowKit

abbrev tDir : TypeId := 111

set_option maxHeartbeats 400000 in
theorem first_any (h : Int) (w : World) (h0 : 0 ≤ h) (h1 : h < 18446744073709551616) :
    Calls Try.prog 120 #[.int .u64 h] w fun e w' => e = .returned (.int .i64 (Ck.fstB h)) ∧ w = w' := by
  go_enter Try.func120, Try.ntmps120
  go_wp2
  go_ret
  exact ⟨rfl, rfl⟩

set_option maxHeartbeats 400000 in
theorem tag_any (h : Int) (w : World) (h0 : 0 ≤ h) (h1 : h < 18446744073709551616) :
    Calls Try.prog 60 #[.int .u64 h] w fun e w' => e = .returned (.int .i64 (Ck.tg h)) ∧ w = w' := by
  go_enter Try.func60, Try.ntmps60
  go_wp2
  go_ret
  exact ⟨rfl, rfl⟩

theorem xor_nat (b t : Int) (h0 : 0 ≤ b) (h1 : b < 8) (h2 : 0 ≤ t) (h3 : t < 32768) : bits .xor .i64 b (1 + t % 7) = Ck.oth b t := by
  rw [Ck.oth_eq h0 h1 h2 h3]
  obtain ⟨n, rfl⟩ := Int.eq_ofNat_of_zero_le h0
  have h4 : 0 ≤ 1 + t % 7 := by omega
  have h5 : 1 + t % 7 < 8 := by omega
  have h6 : 1 + t.toNat % 7 = (1 + t % 7).toNat := by omega
  rw [h6]
  generalize 1 + t % 7 = m at *
  obtain ⟨m, rfl⟩ := Int.eq_ofNat_of_zero_le h4
  have hn : n < 8 := by omega
  have hm : m < 8 := by omega
  clear h6 h2 h3 h0 h1 h4 h5
  simp only [Int.toNat_natCast]
  have key : ∀ n m : Fin 8, bits .xor .i64 ((n.val : Nat) : Int) ((m.val : Nat) : Int) = ((n.val ^^^ m.val : Nat) : Int) := by decide +kernel
  exact key ⟨n, hn⟩ ⟨m, hm⟩

set_option maxHeartbeats 400000 in
theorem other_any (b t : Int) (w : World) :
    Calls Try.prog 98 #[.int .i64 b, .int .i64 t] w fun e w' => e = .returned (.int .i64 (Ck.oth b t)) ∧ w = w' := by
  by_cases hb0 : 0 ≤ b
  · by_cases hb1 : b < 8
    · by_cases ht0 : 0 ≤ t
      · by_cases ht1 : t < 32768
        · go_enter Try.func98, Try.ntmps98
          go_wp2
          go_ret
          exact ⟨by rw [← xor_nat b t hb0 hb1 ht0 ht1]; rfl, rfl⟩
        · have e : Ck.oth b t = -1 := by unfold Ck.oth; rw [if_neg (by omega)]
          rw [e]; clear e
          go_enter Try.func98, Try.ntmps98
          go_wp2
          go_ret
          exact ⟨rfl, rfl⟩
      · have e : Ck.oth b t = -1 := by unfold Ck.oth; rw [if_neg (by omega)]
        rw [e]; clear e
        go_enter Try.func98, Try.ntmps98
        go_wp2
        go_ret
        exact ⟨rfl, rfl⟩
    · have e : Ck.oth b t = -1 := by unfold Ck.oth; rw [if_neg (by omega)]
      rw [e]; clear e
      go_enter Try.func98, Try.ntmps98
      go_wp2
      go_ret
      exact ⟨rfl, rfl⟩
  · have e : Ck.oth b t = -1 := by unfold Ck.oth; rw [if_neg (by omega)]
    rw [e]; clear e
    go_enter Try.func98, Try.ntmps98
    go_wp2
    go_ret
    exact ⟨rfl, rfl⟩

def mayB (n : Int) : Bool := decide (0 ≤ n ∧ n ≤ 1099511627776)

set_option maxHeartbeats 400000 in
theorem may_any (n : Int) (w : World) :
    Calls Try.prog 57 #[.int .i64 n] w fun e w' => e = .returned (.bool (mayB n)) ∧ w = w' := by
  by_cases h0 : 0 ≤ n
  · have e : mayB n = decide (n ≤ 1099511627776) := by unfold mayB; simp [h0]
    rw [e]; clear e
    go_enter Try.func57, Try.ntmps57
    go_wp2
    go_ret
    exact ⟨rfl, rfl⟩
  · have e : mayB n = false := by unfold mayB; simp [h0]
    rw [e]; clear e
    go_enter Try.func57, Try.ntmps57
    go_wp2
    go_ret
    exact ⟨rfl, rfl⟩

set_option maxHeartbeats 400000 in
theorem both_any (h : Int) (w : World) (h0 : 0 ≤ h) (h1 : h < 18446744073709551616) :
    Calls Try.prog 97 #[.int .u64 h] w fun e w' => e = .returned (.agg #[.int .i64 (Ck.fstB h), .int .i64 (Ck.oth (Ck.fstB h) (Ck.tg h))]) ∧ Fr No w w' := by
  go_enter Try.func97, Try.ntmps97
  go_wp2_with (first | (go_at_call 120; refine (first_any _ _ h0 h1).mono ?_; rintro e w' ⟨rfl, rfl⟩) | (go_at_call 60; refine (tag_any _ _ h0 h1).mono ?_; rintro e w' ⟨rfl, rfl⟩) | (go_at_call 98; refine (other_any _ _ _).mono ?_; rintro e w' ⟨rfl, rfl⟩))
  go_returns
  exact ⟨rfl, (Fr.refl _ _).alloc _⟩

set_option maxHeartbeats 400000 in
theorem len_any (b : Nat) (D : Nat → Ck.Ent) (n : Int) (w : World) (hd : DirAt tDir w b D n) :
    Calls Try.prog 19 #[.pointer (some ⟨b, 0, none⟩)] w fun e w' => e = .returned (.int .i64 n) ∧ w = w' := by
  have c := hd.c96
  go_enter Try.func19, Try.ntmps19
  go_wp2
  go_ret
  exact ⟨rfl, rfl⟩

theorem zero_dir : (Try.zeroCells111).toList = dirCells (fun _ => Ck.zero) 0 := by kernel_rfl

set_option maxHeartbeats 400000 in
theorem new_any (w : World) :
    Calls Try.prog 16 #[] w fun e w' => e = .returned (.pointer (some ⟨w.heap.size, 0, none⟩)) ∧ DirAt tDir w' w.heap.size (fun _ => Ck.zero) 0 ∧ Fr No w w' := by
  go_enter Try.func16, Try.ntmps16
  go_wp2
  go_ret
  exact ⟨rfl, Blk.cast (Blk.new w _ _) zero_dir, (Fr.refl _ _).alloc _⟩

set_option maxHeartbeats 400000 in
theorem free1_any (h : Bool) (i t : Int) (w : World) :
    Calls Try.prog 100 #[.agg #[.bool h, .int .i64 i, .int .i64 t]] w fun e w' => e = .returned (.bool (!h)) ∧ Fr No w w' := by
  go_enter Try.func100, Try.ntmps100
  go_wp2
  go_ret
  exact ⟨rfl, (Fr.refl _ _).alloc _⟩

def firstF (h : Nat → Bool) : Int := if h 0 = false then 0 else if h 1 = false then 1 else if h 2 = false then 2 else if h 3 = false then 3 else -1
theorem firstF_at (h : Nat → Bool) (k : Nat) (hk : k < 4) (h0 : ∀ j, j < k → h j = true) (h1 : h k = false) : firstF h = k := by
  unfold firstF
  rcases k with _ | _ | _ | _ | k
  · rw [if_pos h1]; rfl
  · rw [h0 0 (by omega), if_neg (by simp), if_pos h1]; rfl
  · rw [h0 0 (by omega), h0 1 (by omega), if_neg (by simp), if_neg (by simp), if_pos h1]; rfl
  · rw [h0 0 (by omega), h0 1 (by omega), h0 2 (by omega), if_neg (by simp), if_neg (by simp), if_neg (by simp), if_pos h1]; rfl
  · omega
theorem firstF_no (h : Nat → Bool) (h0 : ∀ j, j < 4 → h j = true) : firstF h = -1 := by
  unfold firstF
  rw [h0 0 (by omega), h0 1 (by omega), h0 2 (by omega), h0 3 (by omega)]; rfl
theorem firstF_cases (h : Nat → Bool) : (∃ k, k < 4 ∧ firstF h = (k : Nat) ∧ h k = false) ∨ (firstF h = -1 ∧ ∀ j, j < 4 → h j = true) := by
  by_cases h0 : h 0 = false
  · exact .inl ⟨0, by omega, firstF_at h 0 (by omega) (fun j hj => by omega) h0, h0⟩
  · by_cases h1 : h 1 = false
    · exact .inl ⟨1, by omega, firstF_at h 1 (by omega) (fun j hj => by
        rcases j with _ | j
        · simpa using h0
        · omega) h1, h1⟩
    · by_cases h2 : h 2 = false
      · exact .inl ⟨2, by omega, firstF_at h 2 (by omega) (fun j hj => by
          rcases j with _ | _ | j
          · simpa using h0
          · simpa using h1
          · omega) h2, h2⟩
      · by_cases h3 : h 3 = false
        · exact .inl ⟨3, by omega, firstF_at h 3 (by omega) (fun j hj => by
            rcases j with _ | _ | _ | j
            · simpa using h0
            · simpa using h1
            · simpa using h2
            · omega) h3, h3⟩
        · have ha : ∀ j, j < 4 → h j = true := fun j hj => by
            rcases j with _ | _ | _ | _ | j
            · simpa using h0
            · simpa using h1
            · simpa using h2
            · simpa using h3
            · omega
          exact .inr ⟨firstF_no h ha, ha⟩

set_option maxHeartbeats 1000000 in
theorem index_any (g o : Nat) (h : Nat → Bool) (i t : Nat → Int) (w : World) (hg : g < w.heap.size)
   (hc0 : ∀ j, j < 4 → w.cell? ⟨g, o + j * 3, none⟩ = some (.bool (h j)))
   (hc1 : ∀ j, j < 4 → w.cell? ⟨g, o + j * 3 + 1, none⟩ = some (.int .i64 (i j)))
   (hc2 : ∀ j, j < 4 → w.cell? ⟨g, o + j * 3 + 2, none⟩ = some (.int .i64 (t j))) :
    Calls Try.prog 99 #[.slice (some ⟨g, o, none⟩) 4 4, .func (.func 100) #[] #[]] w fun e w' => e = .returned (.int .i64 (firstF h)) ∧ Fr No w w' := by
  have H0 := Lib.hid hc0
  have H1 := Lib.hid hc1
  have H2 := Lib.hid hc2
  clear hc0 hc1 hc2
  go_enter Try.func99, Try.ntmps99
  go_wp2
  go_loopw [8] (fun v wr => ∃ k : Nat, k ≤ 4 ∧ v = .int .i64 k ∧ (∀ j, j < k → h j = true) ∧ Fr No w wr) (fun v _ => 4 - (intOf v).toNat)
  case atStart => exact ⟨0, by omega, rfl, fun j hj => by omega, Fr.refl _ _⟩
  case round =>
    obtain ⟨k, hk, rfl, ha, hf⟩ := hrel
    have HA := Lib.hid ha
    clear ha
    by_cases hlt : k < 4
    · have c0 : wr.cell? ⟨g, o + k*3, none⟩ = some (.bool (h k)) := (hf.cell hg fun x => x).trans (H0.out k hlt)
      have c1 : wr.cell? ⟨g, o + k*3+1, none⟩ = some (.int .i64 (i k)) := (hf.cell hg fun x => x).trans (H1.out k hlt)
      have c2 : wr.cell? ⟨g, o + k*3+2, none⟩ = some (.int .i64 (t k)) := (hf.cell hg fun x => x).trans (H2.out k hlt)
      cases hh : h k
      · rw [hh] at c0
        have HH := Lib.hid hh
        clear hh
        go_wp2_with (go_at_call 100; refine (free1_any _ _ _ _).mono ?_; rintro e w' ⟨rfl, hf1⟩)
        go_ret
        exact ⟨by rw [firstF_at h k hlt HA.out HH.out]; rfl, hf.no hf1⟩
      · rw [hh] at c0
        have HH := Lib.hid hh
        clear hh
        go_wp2_with (go_at_call 100; refine (free1_any _ _ _ _).mono ?_; rintro e w' ⟨rfl, hf1⟩)
        go_roundw
        case rel => exact ⟨k + 1, by omega, by go_num, fun j hj => by
          by_cases hjk : j = k
          · subst hjk; exact HH.out
          · exact HA.out j (by omega), hf.no hf1⟩
        case measure => simp [intOf]; omega
    · go_wp2
      go_ret
      exact ⟨by rw [firstF_no h fun j hj => HA.out j (by omega)]; rfl, hf⟩

def freeI (D : Nat → Ck.Ent) (b : Nat) : Int := firstF fun s => (D (b * 4 + s)).has

set_option maxHeartbeats 400000 in
theorem free_any (g : Nat) (D : Nat → Ck.Ent) (n : Int) (w : World) (hd : DirAt tDir w g D n) (b : Nat) (hb : b < 8) :
    Calls Try.prog 59 #[.pointer (some ⟨g, 0, none⟩), .int .i64 b] w fun e w' => e = .returned (.int .i64 (freeI D b)) ∧ Fr No w w' := by
  have hx := index_any g (b * 12) (fun s => (D (b * 4 + s)).has) (fun s => (D (b * 4 + s)).id) (fun s => (D (b * 4 + s)).tag) w hd.lt
    (fun j hj => by rw [show b * 12 + j * 3 = (b * 4 + j) * 3 by omega]; exact hd.c0 (by omega))
    (fun j hj => by rw [show b * 12 + j * 3 + 1 = (b * 4 + j) * 3 + 1 by omega]; exact hd.c1 (by omega))
    (fun j hj => by rw [show b * 12 + j * 3 + 2 = (b * 4 + j) * 3 + 2 by omega]; exact hd.c2 (by omega))
  have HX := Lib.hid hx
  clear hx
  go_enter Try.func59, Try.ntmps59
  go_wp2_with fail
  refine HX.out.mono ?_
  rintro e w' ⟨rfl, hf⟩
  go_wp2_with fail
  go_ret
  exact ⟨rfl, hf⟩

end Go.Proofs.Ytjnidblfgdlgnaa
