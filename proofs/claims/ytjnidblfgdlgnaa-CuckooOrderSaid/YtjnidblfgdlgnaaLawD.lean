/- Walk: CuckooOrder. -/
import Derived.Test.YtjnidblfgdlgnaaLawB
import Derived.Test.YtjnidblfgdlgnaaArgs
import Derived.Test.YtjnidblfgdlgnaaCkE
namespace Go.Proofs.Ytjnidblfgdlgnaa
set_option linter.unusedVariables false
set_option linter.unusedSimpArgs false
open Go.RowKit

theorem tmod_nat (a b : Nat) : Int.tmod (a : Int) (b : Int) = ((a % b : Nat) : Int) := by
  rw [Int.tmod_eq_emod_of_nonneg (by omega)]; rfl

/-- Behind the cut: at most 34. -/
def Ord (n T : Nat) (hs : List Int) (v : Value) (w : World) : Prop := Rd w v n 1 (hs.map (Value.int .u64)) ∧ hs.length = n ∧ 0 < n ∧ n ≤ 34 ∧ (∀ h ∈ hs, 0 ≤ h ∧ h < 18446744073709551616) ∧ T < 9223372036854775808


set_option maxRecDepth 100000 in
set_option maxHeartbeats 4000000 in
theorem order_short (n T c : Nat) (a : Option Addr) (hs : List Int) (w : World) (hr : Rd w (.slice a n c) n 1 (hs.map (Value.int .u64))) (hlen : hs.length = n) (hn0 : 0 < n) (hn : n ≤ 34) (hb : ∀ h ∈ hs, 0 ≤ h ∧ h < 18446744073709551616) (hT : T < 9223372036854775808) :
    Calls Try.prog 3 #[.slice a n c, .int .i64 T] w fun e w' => e = .returned (.bool true) ∧ Fr No w w' := by
  have HR := Lib.hid hr
  have HB0 := Lib.hid hb
  have HL := Lib.hid hlen
  clear hr hb hlen
  have i0 : ((n : Nat) : Int) ≤ 34 := by omega
  have i2 : ¬ ((n : Nat) : Int) = 0 := by omega
  have i3 : (((n : Nat) : Int) == 0) = false := by simp; omega
  have i4 : ¬ 34 < ((n : Nat) : Int) := by omega
  clear hT
  go_enter Try.func3, Try.ntmps3
  go_wp2_with (first | (go_at_call 15; refine (begun17_any _).mono ?_; rintro e w1 ⟨rfl, hf0⟩))
  refine (new_dir _).mono ?_
  rintro e w2 ⟨rfl, hd2, hf2⟩
  have hf02 := hf0.no hf2
  have hgN : w.heap.size ≤ w1.heap.size := hf0.size
  obtain ⟨g, hg⟩ : ∃ g, g = w1.heap.size := ⟨_, rfl⟩
  rw [← hg] at hd2 hgN ⊢
  have hg2 : g < w2.heap.size := hd2.lt
  have HD := Lib.hid hd2
  clear hd2 hf0 hg
  go_wp2_with fail
  refine (new_dir _).mono ?_
  rintro e w3 ⟨rfl, hd3, hf3⟩
  have hf03 := hf02.no hf3
  obtain ⟨g', hg'⟩ : ∃ g', g' = w2.heap.size := ⟨_, rfl⟩
  rw [← hg'] at hd3 hg2 ⊢
  have hne : g ≠ g' := by omega
  have hgN' : w.heap.size ≤ g' := by omega
  have HD2 := Lib.hid (HD.out.no hf3)
  have HD3 := Lib.hid hd3
  clear HD hd3 hf2 hf3 hf02 hg'
  obtain ⟨t, ht⟩ : ∃ t, t = T % n := ⟨_, rfl⟩
  have htn : t < n := by rw [ht]; exact Nat.mod_lt _ hn0
  have e1 : Int.tmod (T : Int) (n : Int) = (t : Int) := by rw [ht]; exact tmod_nat T n
  clear ht
  go_wp2_with fail
  go_loopw [8, 9, 10] (fun o o2 v wr => ∃ i : Nat, i ≤ n ∧ v = .int .i64 i ∧ o = .bool (Ck.okAll [] (Ck.refA hs i)) ∧ o2 = .bool (Ck.okAll [] (Ck.refB hs t i)) ∧ DirL wr g (Ck.insAll [] (Ck.refA hs i)) ∧ DirL wr g' (Ck.insAll [] (Ck.refB hs t i)) ∧ Fr No w wr) (fun _ _ v _ => n - (intOf v).toNat)
  case atStart => exact ⟨0, by omega, rfl, rfl, rfl, HD2.out, HD3.out, hf03⟩
  case round =>
    obtain ⟨i, hi, rfl, rfl, rfl, hda, hdb, hf⟩ := hrel
    have HA := Lib.hid hda
    have HB := Lib.hid hdb
    clear hda hdb
    by_cases hlt : i < n
    · obtain ⟨x, hx⟩ : ∃ x, hs[i]? = some x := ⟨_, List.getElem?_eq_getElem (by rw [HL.out]; exact hlt)⟩
      obtain ⟨x0, x1⟩ := HB0.out x (List.mem_of_getElem? hx)
      obtain ⟨bb, off, c2, hv, hc1, hcell⟩ := (HR.out.no hf).addr (by omega)
      injection hv with q1 q2 q3
      subst q1 q3
      have c0 : wr.cell? ⟨bb, off + i, none⟩ = some (.int .u64 x) := hcell i _ (by rw [List.getElem?_map, hx]; rfl)
      have ex : hs.getD i 0 = x := by simp [hx]
      have sA := Ck.refA_succ hs i
      have oA := Ck.okAll_snoc [] (Ck.refA hs i) (hs.getD i 0, (i : Int))
      have lA := Ck.insAll_snoc [] (Ck.refA hs i) (hs.getD i 0, (i : Int))
      rw [← sA, ex] at oA lA
      obtain ⟨K, hK⟩ : ∃ K, K = Ck.kk n t i := ⟨_, rfl⟩
      have hKn : K < n := by rw [hK]; exact Ck.kk_lt hn0
      have e2 : Int.tmod ((n : Int) - 1 - (i : Int) + (t : Int)) (n : Int) = (K : Int) := by
        rw [hK, show ((n : Int) - 1 - (i : Int) + (t : Int)) = ((n - 1 - i + t : Nat) : Int) by omega]
        exact tmod_nat _ n
      obtain ⟨y, hy⟩ : ∃ y, hs[K]? = some y := ⟨_, List.getElem?_eq_getElem (by rw [HL.out]; exact hKn)⟩
      obtain ⟨y0, y1⟩ := HB0.out y (List.mem_of_getElem? hy)
      have ey : hs.getD K 0 = y := by simp [hy]
      have sB := Ck.refB_succ hs t i
      rw [HL.out, ← hK, ey] at sB
      have oB := Ck.okAll_snoc [] (Ck.refB hs t i) (y, (K : Int))
      have lB := Ck.insAll_snoc [] (Ck.refB hs t i) (y, (K : Int))
      rw [← sB] at oB lB
      dsimp only at oA lA oB lB
      generalize hb1 : Ck.insB (Ck.insAll [] (Ck.refA hs i)) x (i : Int) = b1 at *
      generalize hb2 : Ck.insB (Ck.insAll [] (Ck.refB hs t i)) y (K : Int) = b2 at *
      have HX := Lib.hid hx
      have HY := Lib.hid hy
      have OA := Lib.hid oA
      have LA := Lib.hid lA
      have OB := Lib.hid oB
      have LB := Lib.hid lB
      have B1 := Lib.hid hb1
      have B2 := Lib.hid hb2
      clear hx hy oA lA oB lB sA sB ex ey hcell hK hb1 hb2
      cases b1
      · go_wp2_with fail
        refine (insert_dir g x i (Ck.insAll [] (Ck.refA hs i)) wr x0 x1 HA.out).mono ?_
        rintro e w4 ⟨rfl, hd4, hf4⟩
        rw [← LA.out] at hd4
        rw [B1.out]
        have hf04 : Fr No w w4 := hf.trans' hf4 fun k hk e => by have : k = g := e; omega
        have HA4 := Lib.hid hd4
        have HB4 := Lib.hid (HB.out.fr hf4 (fun e => hne (by have : g' = g := e; omega)))
        clear hd4
        obtain ⟨bb', off', c2', hv', _, hcell'⟩ := (HR.out.no hf04).addr (by omega)
        injection hv' with q1 q2 q3
        injection q1 with q1
        injection q1 with q1 q4
        subst q1 q4 q3
        have c0' : w4.cell? ⟨bb, off + K, none⟩ = some (.int .u64 y) := hcell' K _ (by rw [List.getElem?_map, HY.out]; rfl)
        clear hcell'
        cases b2
        · go_wp2_with fail
          refine (insert_dir g' y K (Ck.insAll [] (Ck.refB hs t i)) w4 y0 y1 HB4.out).mono ?_
          rintro e w5 ⟨rfl, hd5, hf5⟩
          rw [← LB.out] at hd5
          rw [B2.out]
          have HB5 := Lib.hid hd5
          have HA5 := Lib.hid (HA4.out.fr hf5 (fun e => hne e))
          clear hd5
          go_wp2_with fail
          go_roundw
          case rel => exact ⟨i + 1, by omega, by go_num, by rw [OA.out]; simp, by rw [OB.out]; simp, HA5.out, HB5.out, hf04.trans' hf5 fun k hk e => by have : k = g' := e; omega⟩
          case measure => simp [intOf]; omega
        · go_wp2_with fail
          refine (insert_dir g' y K (Ck.insAll [] (Ck.refB hs t i)) w4 y0 y1 HB4.out).mono ?_
          rintro e w5 ⟨rfl, hd5, hf5⟩
          rw [← LB.out] at hd5
          rw [B2.out]
          have HB5 := Lib.hid hd5
          have HA5 := Lib.hid (HA4.out.fr hf5 (fun e => hne e))
          clear hd5
          go_wp2_with fail
          go_roundw
          case rel => exact ⟨i + 1, by omega, by go_num, by rw [OA.out]; simp, by rw [OB.out]; simp, HA5.out, HB5.out, hf04.trans' hf5 fun k hk e => by have : k = g' := e; omega⟩
          case measure => simp [intOf]; omega
      · go_wp2_with fail
        refine (insert_dir g x i (Ck.insAll [] (Ck.refA hs i)) wr x0 x1 HA.out).mono ?_
        rintro e w4 ⟨rfl, hd4, hf4⟩
        rw [← LA.out] at hd4
        rw [B1.out]
        have hf04 : Fr No w w4 := hf.trans' hf4 fun k hk e => by have : k = g := e; omega
        have HA4 := Lib.hid hd4
        have HB4 := Lib.hid (HB.out.fr hf4 (fun e => hne (by have : g' = g := e; omega)))
        clear hd4
        obtain ⟨bb', off', c2', hv', _, hcell'⟩ := (HR.out.no hf04).addr (by omega)
        injection hv' with q1 q2 q3
        injection q1 with q1
        injection q1 with q1 q4
        subst q1 q4 q3
        have c0' : w4.cell? ⟨bb, off + K, none⟩ = some (.int .u64 y) := hcell' K _ (by rw [List.getElem?_map, HY.out]; rfl)
        clear hcell'
        cases b2
        · go_wp2_with fail
          refine (insert_dir g' y K (Ck.insAll [] (Ck.refB hs t i)) w4 y0 y1 HB4.out).mono ?_
          rintro e w5 ⟨rfl, hd5, hf5⟩
          rw [← LB.out] at hd5
          rw [B2.out]
          have HB5 := Lib.hid hd5
          have HA5 := Lib.hid (HA4.out.fr hf5 (fun e => hne e))
          clear hd5
          go_wp2_with fail
          go_roundw
          case rel => exact ⟨i + 1, by omega, by go_num, by rw [OA.out]; simp, by rw [OB.out]; simp, HA5.out, HB5.out, hf04.trans' hf5 fun k hk e => by have : k = g' := e; omega⟩
          case measure => simp [intOf]; omega
        · go_wp2_with fail
          refine (insert_dir g' y K (Ck.insAll [] (Ck.refB hs t i)) w4 y0 y1 HB4.out).mono ?_
          rintro e w5 ⟨rfl, hd5, hf5⟩
          rw [← LB.out] at hd5
          rw [B2.out]
          have HB5 := Lib.hid hd5
          have HA5 := Lib.hid (HA4.out.fr hf5 (fun e => hne e))
          clear hd5
          go_wp2_with fail
          go_roundw
          case rel => exact ⟨i + 1, by omega, by go_num, by rw [OA.out]; simp, by rw [OB.out]; simp, HA5.out, HB5.out, hf04.trans' hf5 fun k hk e => by have : k = g' := e; omega⟩
          case measure => simp [intOf]; omega
    · have hin : n = i := by omega
      subst hin
      have qa := Ck.ord_A hs (by rw [HL.out]; omega)
      have qb := Ck.ord_B hs t (by rw [HL.out]; exact htn) (by rw [HL.out]; omega)
      rw [HL.out] at qa qb
      rw [qa.1, qb.1]
      have hroom := room_any (.slice a n c) hs wr (by rw [HL.out]; exact HR.out.no hf) HB0.out (by rw [HL.out]; omega)
      generalize hR : Ck.roomB hs = R at *
      have LA := Lib.hid qa.2
      have LB := Lib.hid qb.2
      have HROOM := Lib.hid hroom
      clear qa qb hR hroom
      cases R
      · go_wp2_with (first | (go_at_call 18; refine HROOM.out.mono ?_; rintro e w6 ⟨rfl, rfl⟩))
        go_ret
        exact ⟨rfl, hf⟩
      · have l1 := LA.out rfl
        have l2 := LB.out rfl
        have hca := len_dir g _ wr HA.out
        have hcb := len_dir g' _ wr HB.out
        rw [l1] at hca
        rw [l2] at hcb
        have HCA := Lib.hid hca
        have HCB := Lib.hid hcb
        clear l1 l2 hca hcb
        go_wp2_with (first | (go_at_call 18; refine HROOM.out.mono ?_; rintro e w6 ⟨rfl, rfl⟩) | (go_at_call 19; refine HCA.out.mono ?_; rintro e w6 ⟨rfl, rfl⟩) | (go_at_call 19; refine HCB.out.mono ?_; rintro e w6 ⟨rfl, rfl⟩))
        go_ret
        exact ⟨by simp, hf⟩

set_option maxRecDepth 100000 in
set_option maxHeartbeats 4000000 in
theorem order_long (T c : Nat) (a : Option Addr) (hs0 : List Int) (m : Nat) (w : World) (hr : Rd w (.slice a m c) m 1 (hs0.map (Value.int .u64))) (hlen : hs0.length = m) (hmc : m ≤ c) (hm : 34 < m) (hb : ∀ h ∈ hs0, 0 ≤ h ∧ h < 18446744073709551616) :
    Calls Try.prog 3 #[.slice a m c, .int .i64 T] w fun e w' => e = .returned (.bool true) ∧ Fr No w w' := by
  obtain ⟨n, hn34⟩ : ∃ n : Nat, n = 34 := ⟨34, rfl⟩
  have hr' := hr.take (m := n) (by omega)
  have e34 : (hs0.map (Value.int .u64)).take (n * 1) = (hs0.take n).map (Value.int .u64) := by rw [Nat.mul_one, List.map_take]
  rw [e34] at hr'
  have hb' : ∀ h ∈ hs0.take n, 0 ≤ h ∧ h < 18446744073709551616 := fun h hh => hb h (List.mem_of_mem_take hh)
  have hlen' : (hs0.take n).length = n := by rw [List.length_take]; omega
  obtain ⟨hs, hhs⟩ : ∃ hs, hs = hs0.take n := ⟨_, rfl⟩
  rw [← hhs] at hr' hb' hlen'
  clear e34 hr hb hlen hhs
  have HR := Lib.hid hr'
  have HB0 := Lib.hid hb'
  have HL := Lib.hid hlen'
  clear hr' hb' hlen'
  have hc34 : 34 ≤ c := by omega
  have i5 : ((m : Nat) : Int) > 34 := by omega
  have HN := Lib.hid hn34
  clear hn34
  go_enter Try.func3, Try.ntmps3
  go_wp2_with (first | (go_at_call 15; refine (begun17_any _).mono ?_; rintro e w1 ⟨rfl, hf0⟩))
  rw [← HN.out, show (34 : Int) = (n : Int) by rw [HN.out]; rfl]
  have hn : n ≤ 34 := by rw [HN.out]; exact Nat.le_refl _
  have hn0 : 0 < n := by rw [HN.out]; decide
  have i0 : ((n : Nat) : Int) ≤ 34 := by omega
  have i2 : ¬ ((n : Nat) : Int) = 0 := by omega
  refine (new_dir _).mono ?_
  rintro e w2 ⟨rfl, hd2, hf2⟩
  have hf02 := hf0.no hf2
  have hgN : w.heap.size ≤ w1.heap.size := hf0.size
  obtain ⟨g, hg⟩ : ∃ g, g = w1.heap.size := ⟨_, rfl⟩
  rw [← hg] at hd2 hgN ⊢
  have hg2 : g < w2.heap.size := hd2.lt
  have HD := Lib.hid hd2
  clear hd2 hf0 hg
  go_wp2_with fail
  refine (new_dir _).mono ?_
  rintro e w3 ⟨rfl, hd3, hf3⟩
  have hf03 := hf02.no hf3
  obtain ⟨g', hg'⟩ : ∃ g', g' = w2.heap.size := ⟨_, rfl⟩
  rw [← hg'] at hd3 hg2 ⊢
  have hne : g ≠ g' := by omega
  have hgN' : w.heap.size ≤ g' := by omega
  have HD2 := Lib.hid (HD.out.no hf3)
  have HD3 := Lib.hid hd3
  clear HD hd3 hf2 hf3 hf02 hg'
  obtain ⟨t, ht⟩ : ∃ t, t = T % n := ⟨_, rfl⟩
  have htn : t < n := by rw [ht]; exact Nat.mod_lt _ hn0
  have e1 : Int.tmod (T : Int) (n : Int) = (t : Int) := by rw [ht]; exact tmod_nat T n
  clear ht
  go_wp2_with fail
  go_loopw [8, 9, 10] (fun o o2 v wr => ∃ i : Nat, i ≤ n ∧ v = .int .i64 i ∧ o = .bool (Ck.okAll [] (Ck.refA hs i)) ∧ o2 = .bool (Ck.okAll [] (Ck.refB hs t i)) ∧ DirL wr g (Ck.insAll [] (Ck.refA hs i)) ∧ DirL wr g' (Ck.insAll [] (Ck.refB hs t i)) ∧ Fr No w wr) (fun _ _ v _ => n - (intOf v).toNat)
  case atStart => exact ⟨0, by omega, rfl, rfl, rfl, HD2.out, HD3.out, hf03⟩
  case round =>
    obtain ⟨i, hi, rfl, rfl, rfl, hda, hdb, hf⟩ := hrel
    have HA := Lib.hid hda
    have HB := Lib.hid hdb
    clear hda hdb
    by_cases hlt : i < n
    · obtain ⟨x, hx⟩ : ∃ x, hs[i]? = some x := ⟨_, List.getElem?_eq_getElem (by rw [HL.out]; exact hlt)⟩
      obtain ⟨x0, x1⟩ := HB0.out x (List.mem_of_getElem? hx)
      obtain ⟨bb, off, c2, hv, hc1, hcell⟩ := (HR.out.no hf).addr (by omega)
      injection hv with q1 q2 q3
      subst q1 q3
      have c0 : wr.cell? ⟨bb, off + i, none⟩ = some (.int .u64 x) := hcell i _ (by rw [List.getElem?_map, hx]; rfl)
      have ex : hs.getD i 0 = x := by simp [hx]
      have sA := Ck.refA_succ hs i
      have oA := Ck.okAll_snoc [] (Ck.refA hs i) (hs.getD i 0, (i : Int))
      have lA := Ck.insAll_snoc [] (Ck.refA hs i) (hs.getD i 0, (i : Int))
      rw [← sA, ex] at oA lA
      obtain ⟨K, hK⟩ : ∃ K, K = Ck.kk n t i := ⟨_, rfl⟩
      have hKn : K < n := by rw [hK]; exact Ck.kk_lt hn0
      have e2 : Int.tmod ((n : Int) - 1 - (i : Int) + (t : Int)) (n : Int) = (K : Int) := by
        rw [hK, show ((n : Int) - 1 - (i : Int) + (t : Int)) = ((n - 1 - i + t : Nat) : Int) by omega]
        exact tmod_nat _ n
      obtain ⟨y, hy⟩ : ∃ y, hs[K]? = some y := ⟨_, List.getElem?_eq_getElem (by rw [HL.out]; exact hKn)⟩
      obtain ⟨y0, y1⟩ := HB0.out y (List.mem_of_getElem? hy)
      have ey : hs.getD K 0 = y := by simp [hy]
      have sB := Ck.refB_succ hs t i
      rw [HL.out, ← hK, ey] at sB
      have oB := Ck.okAll_snoc [] (Ck.refB hs t i) (y, (K : Int))
      have lB := Ck.insAll_snoc [] (Ck.refB hs t i) (y, (K : Int))
      rw [← sB] at oB lB
      dsimp only at oA lA oB lB
      generalize hb1 : Ck.insB (Ck.insAll [] (Ck.refA hs i)) x (i : Int) = b1 at *
      generalize hb2 : Ck.insB (Ck.insAll [] (Ck.refB hs t i)) y (K : Int) = b2 at *
      have HX := Lib.hid hx
      have HY := Lib.hid hy
      have OA := Lib.hid oA
      have LA := Lib.hid lA
      have OB := Lib.hid oB
      have LB := Lib.hid lB
      have B1 := Lib.hid hb1
      have B2 := Lib.hid hb2
      clear hx hy oA lA oB lB sA sB ex ey hcell hK hb1 hb2
      cases b1
      · go_wp2_with fail
        refine (insert_dir g x i (Ck.insAll [] (Ck.refA hs i)) wr x0 x1 HA.out).mono ?_
        rintro e w4 ⟨rfl, hd4, hf4⟩
        rw [← LA.out] at hd4
        rw [B1.out]
        have hf04 : Fr No w w4 := hf.trans' hf4 fun k hk e => by have : k = g := e; omega
        have HA4 := Lib.hid hd4
        have HB4 := Lib.hid (HB.out.fr hf4 (fun e => hne (by have : g' = g := e; omega)))
        clear hd4
        obtain ⟨bb', off', c2', hv', _, hcell'⟩ := (HR.out.no hf04).addr (by omega)
        injection hv' with q1 q2 q3
        injection q1 with q1
        injection q1 with q1 q4
        subst q1 q4 q3
        have c0' : w4.cell? ⟨bb, off + K, none⟩ = some (.int .u64 y) := hcell' K _ (by rw [List.getElem?_map, HY.out]; rfl)
        clear hcell'
        cases b2
        · go_wp2_with fail
          refine (insert_dir g' y K (Ck.insAll [] (Ck.refB hs t i)) w4 y0 y1 HB4.out).mono ?_
          rintro e w5 ⟨rfl, hd5, hf5⟩
          rw [← LB.out] at hd5
          rw [B2.out]
          have HB5 := Lib.hid hd5
          have HA5 := Lib.hid (HA4.out.fr hf5 (fun e => hne e))
          clear hd5
          go_wp2_with fail
          go_roundw
          case rel => exact ⟨i + 1, by omega, by go_num, by rw [OA.out]; simp, by rw [OB.out]; simp, HA5.out, HB5.out, hf04.trans' hf5 fun k hk e => by have : k = g' := e; omega⟩
          case measure => simp [intOf]; omega
        · go_wp2_with fail
          refine (insert_dir g' y K (Ck.insAll [] (Ck.refB hs t i)) w4 y0 y1 HB4.out).mono ?_
          rintro e w5 ⟨rfl, hd5, hf5⟩
          rw [← LB.out] at hd5
          rw [B2.out]
          have HB5 := Lib.hid hd5
          have HA5 := Lib.hid (HA4.out.fr hf5 (fun e => hne e))
          clear hd5
          go_wp2_with fail
          go_roundw
          case rel => exact ⟨i + 1, by omega, by go_num, by rw [OA.out]; simp, by rw [OB.out]; simp, HA5.out, HB5.out, hf04.trans' hf5 fun k hk e => by have : k = g' := e; omega⟩
          case measure => simp [intOf]; omega
      · go_wp2_with fail
        refine (insert_dir g x i (Ck.insAll [] (Ck.refA hs i)) wr x0 x1 HA.out).mono ?_
        rintro e w4 ⟨rfl, hd4, hf4⟩
        rw [← LA.out] at hd4
        rw [B1.out]
        have hf04 : Fr No w w4 := hf.trans' hf4 fun k hk e => by have : k = g := e; omega
        have HA4 := Lib.hid hd4
        have HB4 := Lib.hid (HB.out.fr hf4 (fun e => hne (by have : g' = g := e; omega)))
        clear hd4
        obtain ⟨bb', off', c2', hv', _, hcell'⟩ := (HR.out.no hf04).addr (by omega)
        injection hv' with q1 q2 q3
        injection q1 with q1
        injection q1 with q1 q4
        subst q1 q4 q3
        have c0' : w4.cell? ⟨bb, off + K, none⟩ = some (.int .u64 y) := hcell' K _ (by rw [List.getElem?_map, HY.out]; rfl)
        clear hcell'
        cases b2
        · go_wp2_with fail
          refine (insert_dir g' y K (Ck.insAll [] (Ck.refB hs t i)) w4 y0 y1 HB4.out).mono ?_
          rintro e w5 ⟨rfl, hd5, hf5⟩
          rw [← LB.out] at hd5
          rw [B2.out]
          have HB5 := Lib.hid hd5
          have HA5 := Lib.hid (HA4.out.fr hf5 (fun e => hne e))
          clear hd5
          go_wp2_with fail
          go_roundw
          case rel => exact ⟨i + 1, by omega, by go_num, by rw [OA.out]; simp, by rw [OB.out]; simp, HA5.out, HB5.out, hf04.trans' hf5 fun k hk e => by have : k = g' := e; omega⟩
          case measure => simp [intOf]; omega
        · go_wp2_with fail
          refine (insert_dir g' y K (Ck.insAll [] (Ck.refB hs t i)) w4 y0 y1 HB4.out).mono ?_
          rintro e w5 ⟨rfl, hd5, hf5⟩
          rw [← LB.out] at hd5
          rw [B2.out]
          have HB5 := Lib.hid hd5
          have HA5 := Lib.hid (HA4.out.fr hf5 (fun e => hne e))
          clear hd5
          go_wp2_with fail
          go_roundw
          case rel => exact ⟨i + 1, by omega, by go_num, by rw [OA.out]; simp, by rw [OB.out]; simp, HA5.out, HB5.out, hf04.trans' hf5 fun k hk e => by have : k = g' := e; omega⟩
          case measure => simp [intOf]; omega
    · have hin : n = i := by omega
      subst hin
      have qa := Ck.ord_A hs (by rw [HL.out]; omega)
      have qb := Ck.ord_B hs t (by rw [HL.out]; exact htn) (by rw [HL.out]; omega)
      rw [HL.out] at qa qb
      rw [qa.1, qb.1]
      have hroom := room_any (.slice a n c) hs wr (by rw [HL.out]; exact HR.out.no hf) HB0.out (by rw [HL.out]; omega)
      generalize hR : Ck.roomB hs = R at *
      have LA := Lib.hid qa.2
      have LB := Lib.hid qb.2
      have HROOM := Lib.hid hroom
      clear qa qb hR hroom
      cases R
      · go_wp2_with (first | (go_at_call 18; refine HROOM.out.mono ?_; rintro e w6 ⟨rfl, rfl⟩))
        go_ret
        exact ⟨rfl, hf⟩
      · have l1 := LA.out rfl
        have l2 := LB.out rfl
        have hca := len_dir g _ wr HA.out
        have hcb := len_dir g' _ wr HB.out
        rw [l1] at hca
        rw [l2] at hcb
        have HCA := Lib.hid hca
        have HCB := Lib.hid hcb
        clear l1 l2 hca hcb
        go_wp2_with (first | (go_at_call 18; refine HROOM.out.mono ?_; rintro e w6 ⟨rfl, rfl⟩) | (go_at_call 19; refine HCA.out.mono ?_; rintro e w6 ⟨rfl, rfl⟩) | (go_at_call 19; refine HCB.out.mono ?_; rintro e w6 ⟨rfl, rfl⟩))
        go_ret
        exact ⟨by simp, hf⟩

end Go.Proofs.Ytjnidblfgdlgnaa
