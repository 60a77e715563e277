/- CuckooFull: thirty-two find a place if their buckets are spread, eight of one hash. -/
import Derived.Test.YtjnidblfgdlgnaaLawB
namespace Go.Proofs.Ytjnidblfgdlgnaa
open Go.RowKit
namespace Ck

theorem pop_two : ∀ b c : Fin 8, b ≠ c → ∀ set : Fin 256, set.val.testBit b.val = true → set.val.testBit c.val = true → 2 ≤ pop set.val := by decide +kernel
theorem pop_pair : ∀ b c : Fin 8, b ≠ c → (List.range 8).countP (fun x => x == b.val || x == c.val) = 2 := by decide +kernel
theorem bits255 : ∀ b : Fin 8, Nat.testBit 255 b.val = true := by decide +kernel

theorem room_len {hs : List Int} (h : Room hs) : hs.length ≤ 32 := by
  have h1 := h 255 (by omega)
  have h2 : cnt 255 hs = hs.length := by
    unfold cnt
    rw [List.countP_eq_length]
    intro x _
    unfold both
    rw [bits255 ⟨(fstB x).toNat, b0_lt x⟩, bits255 ⟨(oth (fstB x) (tg x)).toNat, b1_lt x⟩]; rfl
  have h3 : pop 255 = 8 := by decide +kernel
  omega

theorem room_same (h : Int) (m : Nat) : Room (List.replicate m h) ↔ m ≤ 8 := by
  have hne := b01_ne h
  constructor
  · intro hr
    obtain ⟨set, hs, hb⟩ := set_of (fun x => x == b0 h || x == b1 h)
    have h1 := hr set hs
    have h2 : both set h = true := by
      rw [both_eq, hb _ (b0_lt h), hb _ (b1_lt h)]; simp
    have h3 : cnt set (List.replicate m h) = m := by
      unfold cnt
      rw [List.countP_replicate, h2]; simp
    have h4 : pop set = 2 := by
      unfold pop
      rw [← pop_pair ⟨b0 h, b0_lt h⟩ ⟨b1 h, b1_lt h⟩ (fun e => hne (congrArg Fin.val e))]
      apply List.countP_congr
      intro x hx
      rw [hb x (List.mem_range.1 hx)]
    omega
  · intro hm set hs
    unfold cnt
    rw [List.countP_replicate]
    split
    · rename_i hb
      rw [both_eq, Bool.and_eq_true] at hb
      have := pop_two ⟨b0 h, b0_lt h⟩ ⟨b1 h, b1_lt h⟩ (fun e => hne (congrArg Fin.val e)) ⟨set, hs⟩ hb.1 hb.2
      have h2 : 2 ≤ pop set := this
      omega
    · omega

theorem sum32m (f : Nat → Bool) : (List.range 32).countP (fun k => f (k % 8)) = 4 * (List.range 8).countP f := by
  simp only [List.range, List.range.loop, List.countP_cons, List.countP_nil, show (0:Nat)%8 = 0 from rfl, show (1:Nat)%8 = 1 from rfl, show (2:Nat)%8 = 2 from rfl, show (3:Nat)%8 = 3 from rfl,
    show (4:Nat)%8 = 4 from rfl, show (5:Nat)%8 = 5 from rfl, show (6:Nat)%8 = 6 from rfl, show (7:Nat)%8 = 7 from rfl, show (8:Nat)%8 = 0 from rfl, show (9:Nat)%8 = 1 from rfl, show (10:Nat)%8 = 2 from rfl, show (11:Nat)%8 = 3 from rfl,
    show (12:Nat)%8 = 4 from rfl, show (13:Nat)%8 = 5 from rfl, show (14:Nat)%8 = 6 from rfl, show (15:Nat)%8 = 7 from rfl, show (16:Nat)%8 = 0 from rfl, show (17:Nat)%8 = 1 from rfl, show (18:Nat)%8 = 2 from rfl, show (19:Nat)%8 = 3 from rfl,
    show (20:Nat)%8 = 4 from rfl, show (21:Nat)%8 = 5 from rfl, show (22:Nat)%8 = 6 from rfl, show (23:Nat)%8 = 7 from rfl, show (24:Nat)%8 = 0 from rfl, show (25:Nat)%8 = 1 from rfl, show (26:Nat)%8 = 2 from rfl, show (27:Nat)%8 = 3 from rfl,
    show (28:Nat)%8 = 4 from rfl, show (29:Nat)%8 = 5 from rfl, show (30:Nat)%8 = 6 from rfl, show (31:Nat)%8 = 7 from rfl]
  omega

def spread (t : Int) (j : Nat) : Int := t * 256 + ((j % 8 : Nat) : Int)
theorem spread_b0 (t : Int) (j : Nat) : b0 (spread t j) = j % 8 := by
  unfold b0 fstB spread
  omega
theorem room_spread (t : Int) (m : Nat) (hm : m ≤ 32) : Room ((List.range m).map (spread t)) := by
  have h32 : Room ((List.range 32).map (spread t)) := by
    intro set _
    unfold cnt
    rw [List.countP_map]
    refine Nat.le_trans (List.countP_mono_left (q := fun k => set.testBit (k % 8)) fun x _ hx => ?_) (Nat.le_of_eq (sum32m fun b => set.testBit b))
    simp only [Function.comp] at hx
    rw [both_eq, Bool.and_eq_true, spread_b0] at hx
    exact hx.1
  refine h32.sublist (List.Sublist.map _ ?_)
  exact List.range_sublist.2 hm

def fullH (one : Bool) (t : Int) (j : Nat) : Int := if one then t * 256 else spread t j
def fullN (one : Bool) : Nat := if one then 8 else 32
def fullL (one : Bool) (t : Int) (i : Nat) : List Ref := (List.range (min i (fullN one))).map fun j => ((fullH one t j, (j : Int)) : Ref)

theorem fullL_fst (one : Bool) (t : Int) (i : Nat) : (fullL one t i).map Prod.fst = (List.range (min i (fullN one))).map (fullH one t) := by
  unfold fullL; rw [List.map_map]; rfl
theorem fullL_len (one : Bool) (t : Int) (i : Nat) : (fullL one t i).length = min i (fullN one) := by
  unfold fullL; rw [List.length_map, List.length_range]

theorem full_yes (one : Bool) (t : Int) (i : Nat) (hi : i < fullN one) : insB (fullL one t i) (fullH one t i) i = true := by
  unfold insB
  have hm : mayB (i : Int) = true := by unfold mayB; refine decide_eq_true ⟨by omega, ?_⟩; unfold fullN at hi; split at hi <;> omega
  rw [hm, Bool.true_and, roomB_iff, fullL_fst, Nat.min_eq_left (by omega)]
  have e : (List.range i).map (fullH one t) ++ [fullH one t i] = (List.range (i + 1)).map (fullH one t) := by rw [List.range_succ, List.map_append]; rfl
  rw [e]
  cases one
  · exact room_spread t (i + 1) (by unfold fullN at hi; simp at hi; omega)
  · have e2 : (List.range (i + 1)).map (fullH true t) = List.replicate (i + 1) (t * 256) := by
      rw [List.eq_replicate_iff]
      exact ⟨by simp, fun b hb => by obtain ⟨j, _, rfl⟩ := List.mem_map.1 hb; rfl⟩
    rw [e2]
    exact (room_same _ _).2 (by unfold fullN at hi; simp at hi; omega)

theorem full_no (one : Bool) (t : Int) (i : Nat) (hi : fullN one ≤ i) : insB (fullL one t i) (fullH one t i) i = false := by
  unfold insB
  have : roomB ((fullL one t i).map Prod.fst ++ [fullH one t i]) = false := by
    refine roomB_no fun hr => ?_
    rw [fullL_fst, Nat.min_eq_right hi] at hr
    cases one
    · have := room_len hr
      simp [fullN] at this
    · have e2 : (List.range (fullN true)).map (fullH true t) ++ [fullH true t i] = List.replicate 9 (t * 256) := by
        rw [List.eq_replicate_iff]
        refine ⟨by simp [fullN], fun b hb => ?_⟩
        rcases List.mem_append.1 hb with hb | hb
        · obtain ⟨j, _, rfl⟩ := List.mem_map.1 hb; rfl
        · simp at hb; subst hb; rfl
      rw [e2] at hr
      have := (room_same _ _).1 hr
      omega
  rw [this, Bool.and_false]

theorem full_ins (one : Bool) (t : Int) (i : Nat) : insL (fullL one t i) (fullH one t i) i = fullL one t (i + 1) := by
  unfold insL
  by_cases hi : i < fullN one
  · rw [full_yes one t i hi, if_pos rfl]
    unfold fullL
    rw [Nat.min_eq_left (by omega), Nat.min_eq_left (by omega), List.range_succ, List.map_append]; rfl
  · rw [full_no one t i (by omega)]
    unfold fullL
    rw [Nat.min_eq_right (by omega), Nat.min_eq_right (by omega)]; rfl
end Ck

set_option maxRecDepth 100000 in
set_option maxHeartbeats 4000000 in
theorem full_true (n t : Nat) (w : World) (hn : n ≤ 40) (ht : t ≤ 32767) :
    Calls Try.prog 4 #[.int .i64 n, .int .i64 t, .bool true] w fun e w' => e = .returned (.bool true) ∧ Fr No w w' := by
  have i0 : ((t : Nat) : Int) ≤ 32767 := by omega
  have i1 : ((n : Nat) : Int) ≤ 40 := by omega
  go_enter Try.func4, Try.ntmps4
  go_wp2_with (first | (go_at_call 15; refine (begun17_any _).mono ?_; rintro e w1 ⟨rfl, hf0⟩))
  refine (new_dir _).mono ?_
  rintro e w2 ⟨rfl, hd2, hf2⟩
  have hf02 := hf0.no hf2
  have hgN : w.heap.size ≤ w1.heap.size := hf0.size
  obtain ⟨g, hg⟩ : ∃ g, g = w1.heap.size := ⟨_, rfl⟩
  rw [← hg] at hd2 hgN ⊢
  have hd3 : DirL w2 g (Ck.fullL true t 0) := by
    have : Ck.fullL true t 0 = [] := by unfold Ck.fullL; simp
    rw [this]; exact hd2
  have HD := Lib.hid hd3
  clear hd2 hd3 hf0 hf2 hg
  go_wp2_with fail
  go_loopw [9, 10] (fun k v wr => ∃ i : Nat, i ≤ n ∧ v = .int .i64 i ∧ k = .int .i64 ((min i 8 : Nat) : Int) ∧ DirL wr g (Ck.fullL true t i) ∧ Fr No w wr) (fun _ v _ => n - (intOf v).toNat)
  case atStart => exact ⟨0, by omega, rfl, by simp, HD.out, hf02⟩
  case round =>
    obtain ⟨i, hi, rfl, rfl, hd, hf⟩ := hrel
    have hcl := Nat.min_le_right i 8
    generalize hmi : min i 8 = m at *
    have HM := Lib.hid hmi
    have HD1 := Lib.hid hd
    have hins := Ck.full_ins true t i
    have HI := Lib.hid hins
    clear hd hins hmi
    by_cases hlt : i < n
    · go_wp2_with fail
      refine (insert_dir g (((t : Nat) : Int) * 256) i (Ck.fullL true t i) wr (by omega) (by omega) HD1.out).mono ?_
      rintro e w3 ⟨rfl, hd3, hf3⟩
      have eh : ((t : Nat) : Int) * 256 = Ck.fullH true t i := by simp [Ck.fullH, Ck.spread]
      rw [eh, HI.out] at hd3
      rw [eh]
      clear eh
      have HD3 := Lib.hid hd3
      clear hd3
      have hf13 : Fr No w w3 := hf.trans' hf3 fun k hk e => by have : k = g := e; omega
      by_cases hN : i < 8
      · rw [Ck.full_yes true t i hN]
        go_wp2_with fail
        go_roundw
        case rel => exact ⟨i + 1, by omega, by go_num, by rw [show min (i + 1) 8 = m + 1 by rw [← HM.out]; omega]; go_num, HD3.out, hf13⟩
        case measure => simp [intOf]; omega
      · rw [Ck.full_no true t i (by show 8 ≤ i; omega)]
        go_wp2_with fail
        go_roundw
        case rel => exact ⟨i + 1, by omega, by go_num, by rw [show min (i + 1) 8 = m by rw [← HM.out]; omega], HD3.out, hf13⟩
        case measure => simp [intOf]; omega
    · have hin : i = n := by omega
      have HIN := Lib.hid hin
      clear hin
      by_cases hN : n ≤ 8
      · have hmn : ((m : Nat) : Int) = ((n : Nat) : Int) := by rw [← HM.out, HIN.out]; omega
        have HMN := Lib.hid hmn
        clear hmn
        go_wp2_with fail
        go_ret
        have hc : (((m : Nat) : Int) == min ((n : Nat) : Int) 8) = true := by rw [beq_iff_eq, HMN.out]; omega
        exact ⟨by show Ending.returned (.bool (((m : Nat) : Int) == min ((n : Nat) : Int) 8)) = _; rw [hc], hf⟩
      · have hmn : ((m : Nat) : Int) = 8 := by rw [← HM.out, HIN.out]; omega
        have HMN := Lib.hid hmn
        clear hmn
        go_wp2_with fail
        go_ret
        have hc : (((m : Nat) : Int) == min ((n : Nat) : Int) 8) = true := by rw [beq_iff_eq, HMN.out]; omega
        exact ⟨by show Ending.returned (.bool (((m : Nat) : Int) == min ((n : Nat) : Int) 8)) = _; rw [hc], hf⟩

set_option maxRecDepth 100000 in
set_option maxHeartbeats 4000000 in
theorem full_false (n t : Nat) (w : World) (hn : n ≤ 40) (ht : t ≤ 32767) :
    Calls Try.prog 4 #[.int .i64 n, .int .i64 t, .bool false] w fun e w' => e = .returned (.bool true) ∧ Fr No w w' := by
  have i0 : ((t : Nat) : Int) ≤ 32767 := by omega
  have i1 : ((n : Nat) : Int) ≤ 40 := by omega
  go_enter Try.func4, Try.ntmps4
  go_wp2_with (first | (go_at_call 15; refine (begun17_any _).mono ?_; rintro e w1 ⟨rfl, hf0⟩))
  refine (new_dir _).mono ?_
  rintro e w2 ⟨rfl, hd2, hf2⟩
  have hf02 := hf0.no hf2
  have hgN : w.heap.size ≤ w1.heap.size := hf0.size
  obtain ⟨g, hg⟩ : ∃ g, g = w1.heap.size := ⟨_, rfl⟩
  rw [← hg] at hd2 hgN ⊢
  have hd3 : DirL w2 g (Ck.fullL false t 0) := by
    have : Ck.fullL false t 0 = [] := by unfold Ck.fullL; simp
    rw [this]; exact hd2
  have HD := Lib.hid hd3
  clear hd2 hd3 hf0 hf2 hg
  go_wp2_with fail
  go_loopw [9, 10] (fun k v wr => ∃ i : Nat, i ≤ n ∧ v = .int .i64 i ∧ k = .int .i64 ((min i 32 : Nat) : Int) ∧ DirL wr g (Ck.fullL false t i) ∧ Fr No w wr) (fun _ v _ => n - (intOf v).toNat)
  case atStart => exact ⟨0, by omega, rfl, by simp, HD.out, hf02⟩
  case round =>
    obtain ⟨i, hi, rfl, rfl, hd, hf⟩ := hrel
    have hcl := Nat.min_le_right i 32
    generalize hmi : min i 32 = m at *
    have HM := Lib.hid hmi
    have HD1 := Lib.hid hd
    have hins := Ck.full_ins false t i
    have HI := Lib.hid hins
    clear hd hins hmi
    by_cases hlt : i < n
    · go_wp2_with fail
      refine (insert_dir g (((t : Nat) : Int) * 256 + ((i : Nat) : Int) % 8) i (Ck.fullL false t i) wr (by omega) (by omega) HD1.out).mono ?_
      rintro e w3 ⟨rfl, hd3, hf3⟩
      have eh : ((t : Nat) : Int) * 256 + ((i : Nat) : Int) % 8 = Ck.fullH false t i := by simp [Ck.fullH, Ck.spread]
      rw [eh, HI.out] at hd3
      rw [eh]
      clear eh
      have HD3 := Lib.hid hd3
      clear hd3
      have hf13 : Fr No w w3 := hf.trans' hf3 fun k hk e => by have : k = g := e; omega
      by_cases hN : i < 32
      · rw [Ck.full_yes false t i hN]
        go_wp2_with fail
        go_roundw
        case rel => exact ⟨i + 1, by omega, by go_num, by rw [show min (i + 1) 32 = m + 1 by rw [← HM.out]; omega]; go_num, HD3.out, hf13⟩
        case measure => simp [intOf]; omega
      · rw [Ck.full_no false t i (by show 32 ≤ i; omega)]
        go_wp2_with fail
        go_roundw
        case rel => exact ⟨i + 1, by omega, by go_num, by rw [show min (i + 1) 32 = m by rw [← HM.out]; omega], HD3.out, hf13⟩
        case measure => simp [intOf]; omega
    · have hin : i = n := by omega
      have HIN := Lib.hid hin
      clear hin
      by_cases hN : n ≤ 32
      · have hmn : ((m : Nat) : Int) = ((n : Nat) : Int) := by rw [← HM.out, HIN.out]; omega
        have HMN := Lib.hid hmn
        clear hmn
        go_wp2_with fail
        go_ret
        have hc : (((m : Nat) : Int) == min ((n : Nat) : Int) 32) = true := by rw [beq_iff_eq, HMN.out]; omega
        exact ⟨by show Ending.returned (.bool (((m : Nat) : Int) == min ((n : Nat) : Int) 32)) = _; rw [hc], hf⟩
      · have hmn : ((m : Nat) : Int) = 32 := by rw [← HM.out, HIN.out]; omega
        have HMN := Lib.hid hmn
        clear hmn
        go_wp2_with fail
        go_ret
        have hc : (((m : Nat) : Int) == min ((n : Nat) : Int) 32) = true := by rw [beq_iff_eq, HMN.out]; omega
        exact ⟨by show Ending.returned (.bool (((m : Nat) : Int) == min ((n : Nat) : Int) 32)) = _; rw [hc], hf⟩

set_option maxHeartbeats 1000000 in
theorem full_out (n t : Int) (one : Bool) (w : World) (h : n < 0 ∨ 40 < n ∨ t < 0 ∨ 32767 < t) :
    Calls Try.prog 4 #[.int .i64 n, .int .i64 t, .bool one] w fun e w' => e = .returned (.bool true) ∧ Fr No w w' := by
  by_cases h1 : n < 0
  · clear h
    go_enter Try.func4, Try.ntmps4
    go_wp2_with (first | (go_at_call 15; refine (begun17_any _).mono ?_; rintro e w1 ⟨rfl, hf0⟩))
    go_ret
    exact ⟨rfl, hf0⟩
  · by_cases h2 : 40 < n
    · clear h
      go_enter Try.func4, Try.ntmps4
      go_wp2_with (first | (go_at_call 15; refine (begun17_any _).mono ?_; rintro e w1 ⟨rfl, hf0⟩))
      go_ret
      exact ⟨rfl, hf0⟩
    · by_cases h3 : t < 0
      · clear h
        go_enter Try.func4, Try.ntmps4
        go_wp2_with (first | (go_at_call 15; refine (begun17_any _).mono ?_; rintro e w1 ⟨rfl, hf0⟩))
        go_ret
        exact ⟨rfl, hf0⟩
      · have h4 : 32767 < t := by omega
        clear h
        go_enter Try.func4, Try.ntmps4
        go_wp2_with (first | (go_at_call 15; refine (begun17_any _).mono ?_; rintro e w1 ⟨rfl, hf0⟩))
        go_ret
        exact ⟨rfl, hf0⟩

theorem cuckooFull_walk (n : Int) (_wn : (Lit.int .i64 n).wf = true) (t : Int) (_wt : (Lit.int .i64 t).wf = true) (one : Bool) (w : World) :
    Calls Try.prog 4 #[.int .i64 n, .int .i64 t, .bool one] w fun e w' => e = .returned (.bool true) ∧ Below w.heap.size w w' := by
  by_cases h : n < 0 ∨ 40 < n ∨ t < 0 ∨ 32767 < t
  · exact (full_out n t one w h).mono fun _ _ ⟨h1, h2⟩ => ⟨h1, h2.below⟩
  · obtain ⟨n', rfl⟩ := Int.eq_ofNat_of_zero_le (show 0 ≤ n by omega)
    obtain ⟨t', rfl⟩ := Int.eq_ofNat_of_zero_le (show 0 ≤ t by omega)
    cases one
    · exact (full_false n' t' w (by omega) (by omega)).mono fun _ _ ⟨h1, h2⟩ => ⟨h1, h2.below⟩
    · exact (full_true n' t' w (by omega) (by omega)).mono fun _ _ ⟨h1, h2⟩ => ⟨h1, h2.below⟩

end Go.Proofs.Ytjnidblfgdlgnaa
