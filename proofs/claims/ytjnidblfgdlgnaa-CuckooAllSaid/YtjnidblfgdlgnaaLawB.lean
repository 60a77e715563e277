/- Walks: begun of layer 17. -/
import Derived.Test.YtjnidblfgdlgnaaLawA
import Derived.Test.YtjnidblfgdlgnaaCkD
namespace Go.Proofs.Ytjnidblfgdlgnaa
set_option linter.unusedVariables false
set_option linter.unusedSimpArgs false
open Go.RowKit
namespace Ck
def seven (i : Nat) : List Ref := (List.range i).map fun (j : Nat) => ((77, (j : Int)) : Ref)
theorem seven_ins : ∀ i : Fin 8, insB (seven i.val) 77 i.val = true := by decide +kernel
theorem seven_succ {i : Nat} (hi : i < 8) : insL (seven i) 77 i = seven (i + 1) := by
  unfold insL
  rw [seven_ins ⟨i, hi⟩, if_pos rfl]
  unfold seven
  rw [List.range_succ, List.map_append]; rfl
theorem seven_full : insB (seven 8) 77 8 = false := by decide +kernel
theorem seven_78 : insB (seven 8) 78 9 = true := by decide +kernel
end Ck

theorem foundI_1 : Ck.foundL (Ck.seven 8) 77 = [0, 1, 2, 3, 4, 5, 6, 7] := Ck.sortI_eq (by decide +kernel) (by decide)
def begL : List Ck.Ref := Ck.seven 8 ++ [(78, 9)]
def begM : List Ck.Ref := [(77, 0), (77, 1), (77, 2), (77, 30), (77, 4), (77, 5), (77, 6), (77, 7), (78, 9)]
theorem begM_eq : Ck.setL begL 77 3 30 = begM := by decide +kernel
theorem beg_set1 : Ck.setB begL 77 3 30 = true := by decide +kernel
theorem beg_set2 : Ck.setB begM 77 3 31 = false := by decide +kernel
theorem begM_eq2 : Ck.setL begM 77 3 31 = begM := by decide +kernel
theorem beg_one1 : begL.countP (Ck.meant 77 3) ≤ 1 := by decide +kernel
theorem beg_one2 : begM.countP (Ck.meant 77 3) ≤ 1 := by decide +kernel
theorem foundI_2 : Ck.foundL begM 77 = [0, 1, 2, 4, 5, 6, 7, 30] := Ck.sortI_eq (by decide +kernel) (by decide)

/-- What Find gives: a slice of so many numbers, that can be read. -/
theorem NewInts.read {w w' : World} {l : List Int} {e : Ending} (h : NewInts w l e w') (hl : 0 < l.length) : ∃ b off cap, e = .returned (.slice (some ⟨b, off, none⟩) l.length cap) ∧ l.length ≤ cap ∧
    (∀ j u, l[j]? = some u → w'.cell? ⟨b, off + j, none⟩ = some (.int .i64 u)) ∧ Fr No w w' ∧ b < w'.heap.size ∧ w.heap.size ≤ b := by
  obtain ⟨A, cap, rfl, hr, hf, hq⟩ := h
  obtain ⟨b, off, c, hv, h1, h2, h3, h4, h5⟩ := hr.addr hl
  injection hv with e1 e2 e3
  subst e1 e3
  exact ⟨b, off, cap, rfl, h1, fun j u hu => h3 j _ (by rw [List.getElem?_map, hu]; rfl), hf, h5, hq b rfl⟩

set_option maxRecDepth 100000 in
set_option maxHeartbeats 4000000 in
theorem begun17_any (w : World) : Calls Try.prog 15 #[] w fun e w' => e = .returned (.bool true) ∧ Fr No w w' := by
  go_enter Try.func15, Try.ntmps15
  go_wp2_with fail
  refine (new_dir w).mono ?_
  rintro e w1 ⟨rfl, hd1, hf1⟩
  have hd1' : DirL w1 w.heap.size (Ck.seven 0) := hd1
  have HD1 := Lib.hid hd1'
  clear hd1 hd1'
  go_wp2_with fail
  go_loopw [2] (fun v wr => ∃ i : Nat, i ≤ 8 ∧ v = .int .i64 i ∧ DirL wr w.heap.size (Ck.seven i) ∧ Fr No w wr) (fun v _ => 8 - (intOf v).toNat)
  case atStart => exact ⟨0, by omega, rfl, HD1.out, hf1⟩
  case round =>
    obtain ⟨i, hi, rfl, hd, hf⟩ := hrel
    have HD := Lib.hid hd
    clear hd
    by_cases hlt : i < 8
    · go_wp2_with fail
      refine (insert_dir w.heap.size 77 i (Ck.seven i) wr (by omega) (by omega) HD.out).mono ?_
      rintro e w2 ⟨rfl, hd2, hf2⟩
      rw [Ck.seven_succ hlt] at hd2
      rw [Ck.seven_ins ⟨i, hlt⟩]
      have HD2 := Lib.hid hd2
      clear hd2
      go_wp2_with fail
      go_roundw
      case rel => exact ⟨i + 1, by omega, by go_num, HD2.out, hf.trans' hf2 fun k hk e => by have : k = w.heap.size := e; omega⟩
      case measure => simp [intOf]; omega
    · have hi8 : i = 8 := by omega
      subst hi8
      go_wp2_with fail
      refine (find_dir w.heap.size _ 77 wr (by omega) (by omega) HD.out).mono ?_
      rintro e w2 hn2
      rw [foundI_1] at hn2
      obtain ⟨b, off, cap, rfl, hcap, hcell, hf2, hb2, hbN⟩ := hn2.read (by decide)
      have hc3 : w2.cell? ⟨b, off + 3, none⟩ = some (.int .i64 3) := hcell 3 _ rfl
      have hd2 := HD.out.no hf2
      have HD2 := Lib.hid hd2
      have hbg : w.heap.size < wr.heap.size := HD.out.lt
      clear hd2 hcell hn2
      go_wp2_with fail
      refine (insert_dir w.heap.size 77 8 _ w2 (by omega) (by omega) HD2.out).mono ?_
      rintro e w3 ⟨rfl, hd3, hf3⟩
      have e3 : Ck.insL (Ck.seven 8) 77 8 = Ck.seven 8 := by unfold Ck.insL; rw [Ck.seven_full]; rfl
      rw [e3] at hd3
      rw [Ck.seven_full]
      have HD3 := Lib.hid hd3
      clear hd3 e3
      go_wp2_with fail
      refine (insert_dir w.heap.size 78 9 _ w3 (by omega) (by omega) HD3.out).mono ?_
      rintro e w4 ⟨rfl, hd4, hf4⟩
      rw [Ck.seven_78]
      have e4 : Ck.insL (Ck.seven 8) 78 9 = begL := by unfold Ck.insL; rw [Ck.seven_78]; rfl
      rw [e4] at hd4
      have HD4 := Lib.hid hd4
      clear hd4 e4
      have hc3' : w4.cell? ⟨b, off + 3, none⟩ = some (.int .i64 3) := by
        rw [hf4.cell (by have := hf3.size; show b < _; omega) (fun e => by have : b = w.heap.size := e; omega), hf3.cell hb2 (fun e => by have : b = w.heap.size := e; omega)]
        exact hc3
      clear hc3
      go_wp2_with fail
      refine (set_dir w.heap.size begL 77 3 30 w4 (by omega) (by omega) HD4.out beg_one1).mono ?_
      rintro e w5 ⟨rfl, hd5, hf5⟩
      rw [begM_eq] at hd5
      rw [beg_set1]
      have HD5 := Lib.hid hd5
      clear hd5
      go_wp2_with fail
      refine (set_dir w.heap.size begM 77 3 31 w5 (by omega) (by omega) HD5.out beg_one2).mono ?_
      rintro e w6 ⟨rfl, hd6, hf6⟩
      rw [begM_eq2] at hd6
      rw [beg_set2]
      have HD6 := Lib.hid hd6
      clear hd6
      go_wp2_with fail
      refine (len_dir w.heap.size begM w6 HD6.out).mono ?_
      rintro e w7 ⟨rfl, rfl⟩
      rw [show ((begM.length : Nat) : Int) = 9 from rfl]
      go_wp2_with fail
      refine (find_dir w.heap.size begM 77 w6 (by omega) (by omega) HD6.out).mono ?_
      rintro e w8 hn8
      rw [foundI_2] at hn8
      obtain ⟨b8, off8, cap8, rfl, hcap8, hcell8, hf8, hb8, hbN8⟩ := hn8.read (by decide)
      have hd8 := HD6.out.no hf8
      have HD8 := Lib.hid hd8
      clear hd8 hcell8 hn8
      go_wp2_with fail
      refine (find_dir w.heap.size begM 77 w8 (by omega) (by omega) HD8.out).mono ?_
      rintro e w9 hn9
      rw [foundI_2] at hn9
      obtain ⟨b9, off9, cap9, rfl, hcap9, hcell9, hf9, hb9, hbN9⟩ := hn9.read (by decide)
      have hc9 : w9.cell? ⟨b9, off9 + 7, none⟩ = some (.int .i64 30) := hcell9 7 _ rfl
      clear hcell9 hn9
      go_wp2_with fail
      go_ret
      have hg : ∀ k, k < w.heap.size → At1 w.heap.size k → False := fun k hk e => by have : k = w.heap.size := e; omega
      exact ⟨rfl, ((((((hf.no hf2).trans' hf3 hg).trans' hf4 hg).trans' hf5 hg).trans' hf6 hg).no hf8).no hf9⟩

end Go.Proofs.Ytjnidblfgdlgnaa
