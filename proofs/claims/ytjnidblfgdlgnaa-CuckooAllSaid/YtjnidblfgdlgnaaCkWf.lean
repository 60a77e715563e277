/- Walks: way. -/
import Derived.Test.YtjnidblfgdlgnaaCkWe
import Derived.Deep.LoopGhost
namespace Go.Proofs.Ytjnidblfgdlgnaa
set_option linter.unusedVariables false
set_option linter.unusedSimpArgs false
open Go.RowKit

def Ck.fsI (h : Int) (i : Nat) : Ck.Fs := ([(Ck.fstB h, -1, 0), (Ck.oth (Ck.fstB h) (Ck.tg h), -1, 0)] : Ck.Fs).take i
theorem Ck.fsI_succ (h : Int) {i : Nat} (hi : i < 2) : Ck.addF (Ck.fsI h i) ((Ck.bN h i : Nat) : Int) (-1, 0) = Ck.fsI h (i + 1) := by
  have hb := Ck.fstB_bd h
  have ht := Ck.tg_bd h
  have hne := Ck.oth_ne hb.1 hb.2 ht.1 ht.2
  rcases i with _ | _ | i
  · simp [Ck.addF, Ck.fsI, Ck.keys, Ck.bN, Ck.b0_cast]
  · simp only [Ck.addF, Ck.fsI, Ck.keys, Ck.bN, if_neg (show ¬ (0 + 1 = 0) by omega), Ck.b1_cast, List.take_succ_cons, List.take_zero, List.map_cons, List.map_nil, List.mem_singleton, hne, if_false, List.cons_append, List.nil_append]
  · omega

def WayPost (D : Nat → Ck.Ent) (h : Int) (w : World) (e : Ending) (w' : World) : Prop :=
  Fr No w w' ∧ ((∃ b r : Nat, ∃ fs : Ck.Fs, b < 8 ∧ e = .returned (.tuple #[.int .i64 (b : Nat), .map (some r)]) ∧ MapAt (Value.int .i64) w' r (mapOf fs) ∧ w.heap.size ≤ r ∧ Ck.Pre D h fs ∧ ((b : Nat) : Int) ∈ Ck.keys fs ∧ 0 ≤ freeI D b) ∨
    (e = .returned (.tuple #[.int .i64 (-1), .map none]) ∧ ∃ fs, Ck.Pre D h fs ∧ Ck.Done D fs fs.length))

theorem tail_cut (A : Option Addr) (n cap : Nat) (w : World) (xs : List Value) (h : Row w 3 1 (.slice A n cap) n xs) (hn : 0 < n) :
    ∃ A1, (∀ W, (Instr.sliceAt 41 (.slice A n cap) (some (.int .i64 1)) none none).run Try.prog W = .ok (.slice A1 (n - 1) (cap - 1)) W) ∧
      Row w 3 1 (.slice A1 (n - 1) (cap - 1)) (n - 1) (xs.drop 1) ∧ (Value.slice A1 (n - 1) (cap - 1)).ownBlock = (Value.slice A n cap).ownBlock :=
  h.cut (t := 41) (k := 1) Try.underlying41 info_int (by decide) hn

theorem index4 (hs : Nat → Bool) (is ts : Nat → Int) (s : Nat) (h4 : s < 4) (w : World) :
    (Instr.index 108 (.agg #[.bool (hs 0), .int .i64 (is 0), .int .i64 (ts 0), .bool (hs 1), .int .i64 (is 1), .int .i64 (ts 1), .bool (hs 2), .int .i64 (is 2), .int .i64 (ts 2), .bool (hs 3), .int .i64 (is 3), .int .i64 (ts 3)]) (.int .i64 (s : Nat))).run Try.prog w
      = .ok (.agg #[.bool (hs s), .int .i64 (is s), .int .i64 (ts s)]) w := by
  rcases s with _ | _ | _ | _ | s
  · kernel_rfl
  · kernel_rfl
  · kernel_rfl
  · kernel_rfl
  · omega

theorem freeI_yes {D : Nat → Ck.Ent} {b : Nat} (h : 0 ≤ freeI D b) : ∃ s, s < 4 ∧ freeI D b = (s : Nat) ∧ (D (b * 4 + s)).has = false := by
  rcases firstF_cases (fun s => (D (b * 4 + s)).has) with ⟨k, h1, h2, h3⟩ | ⟨h1, _⟩
  · exact ⟨k, h1, h2, h3⟩
  · unfold freeI at h; omega
theorem freeI_no {D : Nat → Ck.Ent} {b : Nat} (h : ¬ 0 ≤ freeI D b) : ∀ s, s < 4 → (D (b * 4 + s)).has = true := by
  rcases firstF_cases (fun s => (D (b * 4 + s)).has) with ⟨k, h1, h2, h3⟩ | ⟨_, h2⟩
  · unfold freeI at h; omega
  · exact h2

set_option maxRecDepth 100000 in
set_option maxHeartbeats 4000000 in
theorem way_any (g : Nat) (D : Nat → Ck.Ent) (n : Int) (h : Int) (w : World) (h0 : 0 ≤ h) (h1 : h < 18446744073709551616) (hd : DirAt tDir w g D n) (htags : Ck.Tags D) :
    Calls Try.prog 58 #[.pointer (some ⟨g, 0, none⟩), .int .u64 h] w fun e w' => WayPost D h w e w' := by
  have hmm := @run_makeMap Try.prog
  have hgl := hd.lt
  have HT := Lib.hid htags
  clear htags
  go_enter Try.func58, Try.ntmps58
  go_wp2_with fail
  refine (both_nat h _ h0 h1).mono ?_
  rintro e w1 ⟨rfl, hf1⟩
  clear hmm
  have hf0 : Fr No w w1 := ((((Fr.refl _ _).alloc _).alloc _).alloc _).no hf1
  have hbq : BQ w.heap.size w1 (w.heap.size + 1) w.heap.size (w.heap.size + 2) [] 0 := by
    have z1 : Box ((w.alloc (.map #[] 0)).alloc (.cells #[.map (some w.heap.size)] 112)) (w.heap.size + 1) 112 (.map (some w.heap.size)) := by
      have := Blk.new (w.alloc (.map #[] 0)) #[.map (some w.heap.size)] 112
      rwa [World.size_alloc] at this
    have z2 : Box (((w.alloc (.map #[] 0)).alloc (.cells #[.map (some w.heap.size)] 112)).alloc (.cells #[.slice none 0 0] 41)) (w.heap.size + 2) 41 (.slice none 0 0) := by
      have := Blk.new ((w.alloc (.map #[] 0)).alloc (.cells #[.map (some w.heap.size)] 112)) #[.slice none 0 0] 41
      rwa [World.size_alloc, World.size_alloc] at this
    refine ⟨(Box.no z1 ((Fr.refl _ _).alloc _)).no hf1, ((MapAt.made w).no (((Fr.refl _ _).alloc _).alloc _)).no hf1, List.nodup_nil, Nat.le_refl _, ⟨none, 0, Box.no z2 hf1, Row.nil _ _ _, fun q e => by cases e⟩, by omega, Nat.le_refl _, by omega, by omega, by omega, by omega⟩
  clear hf1
  go_wp2_with fail
  go_loopw [18] (fun v wr => ∃ i : Nat, i ≤ 2 ∧ v = .int .i64 i ∧ BQ w.heap.size wr (w.heap.size + 1) w.heap.size (w.heap.size + 2) (Ck.fsI h i) 0 ∧ Fr No w wr) (fun v _ => 2 - (intOf v).toNat)
  case atStart => exact ⟨0, by omega, rfl, hbq, hf0⟩
  case round =>
    obtain ⟨i, hi, rfl, hq, hf⟩ := hrel
    have hszr : w.heap.size ≤ wr.heap.size := hf.size
    by_cases hlt : i < 2
    · have hx := index2 (Ck.b0 h : Nat) (Ck.b1 h : Nat) i hlt
      have ex : (if i = 0 then ((Ck.b0 h : Nat) : Int) else ((Ck.b1 h : Nat) : Int)) = ((Ck.bN h i : Nat) : Int) := by unfold Ck.bN; split <;> rfl
      rw [ex] at hx
      clear ex
      have hfl : (Ck.fsI h i).length < 50 := by unfold Ck.fsI; rw [List.length_take]; simp; omega
      have HQ := Lib.hid hq
      clear hq
      go_wp2_with fail
      refine (way1_any w.heap.size (w.heap.size + 1) w.heap.size (w.heap.size + 2) (Ck.fsI h i) 0 wr hszr HQ.out hfl _ _ _).mono ?_
      rintro e w2 ⟨rfl, hq2, hf2⟩
      rw [Ck.fsI_succ h hlt] at hq2
      go_wp2_with fail
      go_roundw
      case rel => exact ⟨i + 1, by omega, by go_num, hq2, hf.from hf2⟩
      case measure => simp [intOf]; omega
    · have hi2 : i = 2 := by omega
      subst hi2
      have hpre : Ck.Pre D h (Ck.fsI h 2) := Ck.pre_init D h
      have HP := Lib.hid hpre
      have HQ := Lib.hid hq
      clear hpre hq
      go_wp2_with fail
      go_loopg [] 8 (fun k wx => ∃ fs i, i ≤ 8 ∧ k = 8 - i ∧ BQ w.heap.size wx (w.heap.size + 1) w.heap.size (w.heap.size + 2) fs i ∧ Ck.Pre D h fs ∧ Ck.Done D fs i ∧ Fr No w wx)
      case atStart => exact ⟨Ck.fsI h 2, 0, by omega, rfl, HQ.out, HP.out, fun j f hj => by omega, hf⟩
      case round =>
        obtain ⟨fs, i, hi8, hk, hq, hpre, hdone, hfx⟩ := hrel
        obtain ⟨A, cap, t1, t2, t3⟩ := hq.todo
        have hfs8 := hpre.len
        have hile := hq.le
        have HQ2 := Lib.hid hq
        have HP2 := Lib.hid hpre
        have HD2 := Lib.hid hdone
        have T3 := Lib.hid t3
        have hszx : w.heap.size ≤ wr.heap.size := hfx.size
        have HK := Lib.hid hk
        clear hq hpre hdone t3 hk
        have b3 := t1.cell
        have f3 := t1.free
        by_cases hmore : i < fs.length
        · obtain ⟨f, hfi⟩ : ∃ f, fs[i]? = some f := ⟨_, List.getElem?_eq_getElem hmore⟩
          have hr8 := HP2.out.range f (List.mem_of_getElem? hfi)
          obtain ⟨b, hb⟩ := Int.eq_ofNat_of_zero_le hr8.1
          rw [hb] at hr8
          have hb8 : b < 8 := by omega
          have hn0 : 0 < fs.length - i := by omega
          obtain ⟨A1, hcut, hrow1, hown1⟩ := tail_cut A (fs.length - i) cap wr _ t2 hn0
          obtain ⟨gq, off, cap2, hv, hc1, hc2, hcell, hfrz, hgq⟩ := t2.addr hn0
          injection hv with e1 e2 e3
          subst e1 e3
          have c0 : wr.cell? ⟨gq, off, none⟩ = some (.int .i64 (b : Nat)) := by
            have := hcell 0 (.int .i64 (b : Nat)) (by
              rw [List.getElem?_map, List.getElem?_drop]
              unfold Ck.keys
              rw [List.getElem?_map, Nat.add_zero, hfi, Option.map_some, hb]; rfl)
            simpa using this
          have HFI := Lib.hid hfi
          have HB := Lib.hid hb
          have HO1 := Lib.hid hown1
          have HR1 := Lib.hid hrow1
          have hN2 : (((fs.length - i : Nat) : Int) > 0) := by omega
          clear hfi hb hown1 hrow1 hcell hfrz t2
          go_wp2_with fail
          have hdx : DirAt tDir (wr.setCell ⟨w.heap.size + 2, 0, none⟩ (.slice A1 (fs.length - i - 1) (cap - 1))) g D n := (hd.no hfx).far (by show g ≠ w.heap.size + 2; omega) _
          have hfx2 : Fr No w (wr.setCell ⟨w.heap.size + 2, 0, none⟩ (.slice A1 (fs.length - i - 1) (cap - 1))) := hfx.setCell (fun hh => by have : w.heap.size + 2 < w.heap.size := hh; omega) _
          refine (free_any g D n _ hdx b hb8).mono ?_
          rintro e w2 ⟨rfl, hf2⟩
          have hd2 : DirAt tDir w2 g D n := hdx.no hf2
          have hf3 : Fr No w w2 := hfx2.no hf2
          have hq2 : BQ w.heap.size w2 (w.heap.size + 1) w.heap.size (w.heap.size + 2) fs (i + 1) := by
            have hq := HQ2.out
            have hl1 : fs.length - i - 1 = fs.length - (i + 1) := by omega
            refine ⟨((hq.box2.far (fun e => hq.d23 e) _).no hf2), ((hq.map.fr ((Fr.refl (At1 (w.heap.size + 2)) wr).setCell (a := ⟨w.heap.size + 2, 0, none⟩) (fun _ => rfl) _) (fun e => hq.d3r e.symm)).no hf2), hq.nodup, by omega, ⟨A1, cap - 1, ?_, ?_, ?_⟩, hq.n2, hq.nr, hq.n3, hq.d23, hq.d2r, hq.d3r⟩
            · rw [← hl1]; exact (t1.set _).no hf2
            · rw [← hl1, show (Ck.keys fs).drop (i + 1) = ((Ck.keys fs).drop i).drop 1 by rw [List.drop_drop], List.map_drop]
              refine ((HR1.out).fr ((Fr.refl (At1 (w.heap.size + 2)) wr).setCell (a := ⟨w.heap.size + 2, 0, none⟩) (fun _ => rfl) _) (fun q e e2 => ?_)).no hf2
              rw [HO1.out] at e
              exact (T3.out q e).2.2.1 e2
            · intro q e
              rw [← hl1, HO1.out] at e
              exact T3.out q e
          have bx2 := hq2.box2.cell
          clear hdx hfx2 hcut c0 b3 f3 t1 hf2
          have HQ3 := Lib.hid hq2
          clear hq2
          have hkb : (b : Int) ∈ Ck.keys fs := Ck.mem_keys.2 ⟨i, f, HFI.out, HB.out⟩
          have HKB := Lib.hid hkb
          clear hkb
          by_cases hfree : 0 ≤ freeI D b
          · go_wp2_with fail
            go_quiet (fail)
            go_wp2_with fail
            go_ret2
            exact ⟨hf3.drewN _, .inl ⟨b, w.heap.size, fs, hb8, rfl, HQ3.out.map, Nat.le_refl _, HP2.out, HKB.out, hfree⟩⟩
          · have hall := freeI_no hfree
            have HALL := Lib.hid hall
            clear hall
            obtain ⟨is, his⟩ : ∃ is : Nat → Int, ∀ x, is x = (D (b * 4 + x)).id := ⟨fun x => (D (b * 4 + x)).id, fun _ => rfl⟩
            obtain ⟨ts, hts⟩ : ∃ ts : Nat → Int, ∀ x, ts x = (D (b * 4 + x)).tag := ⟨fun x => (D (b * 4 + x)).tag, fun _ => rfl⟩
            have HIS := Lib.hid his
            have HTS := Lib.hid hts
            clear his hts
            have z0 : w2.cell? ⟨g, b * 12, none⟩ = some (.bool true) := by rw [show b * 12 = (b * 4 + 0) * 3 by omega, hd2.c0 (by omega), HALL.out 0 (by omega)]
            have z1 : w2.cell? ⟨g, b * 12 + 1, none⟩ = some (.int .i64 (is 0)) := by rw [show b * 12 + 1 = (b * 4 + 0) * 3 + 1 by omega, hd2.c1 (by omega), HIS.out 0]
            have z2 : w2.cell? ⟨g, b * 12 + 2, none⟩ = some (.int .i64 (ts 0)) := by rw [show b * 12 + 2 = (b * 4 + 0) * 3 + 2 by omega, hd2.c2 (by omega), HTS.out 0]
            have z3 : w2.cell? ⟨g, b * 12 + 3, none⟩ = some (.bool true) := by rw [show b * 12 + 3 = (b * 4 + 1) * 3 by omega, hd2.c0 (by omega), HALL.out 1 (by omega)]
            have z4 : w2.cell? ⟨g, b * 12 + 4, none⟩ = some (.int .i64 (is 1)) := by rw [show b * 12 + 4 = (b * 4 + 1) * 3 + 1 by omega, hd2.c1 (by omega), HIS.out 1]
            have z5 : w2.cell? ⟨g, b * 12 + 5, none⟩ = some (.int .i64 (ts 1)) := by rw [show b * 12 + 5 = (b * 4 + 1) * 3 + 2 by omega, hd2.c2 (by omega), HTS.out 1]
            have z6 : w2.cell? ⟨g, b * 12 + 6, none⟩ = some (.bool true) := by rw [show b * 12 + 6 = (b * 4 + 2) * 3 by omega, hd2.c0 (by omega), HALL.out 2 (by omega)]
            have z7 : w2.cell? ⟨g, b * 12 + 7, none⟩ = some (.int .i64 (is 2)) := by rw [show b * 12 + 7 = (b * 4 + 2) * 3 + 1 by omega, hd2.c1 (by omega), HIS.out 2]
            have z8 : w2.cell? ⟨g, b * 12 + 8, none⟩ = some (.int .i64 (ts 2)) := by rw [show b * 12 + 8 = (b * 4 + 2) * 3 + 2 by omega, hd2.c2 (by omega), HTS.out 2]
            have z9 : w2.cell? ⟨g, b * 12 + 9, none⟩ = some (.bool true) := by rw [show b * 12 + 9 = (b * 4 + 3) * 3 by omega, hd2.c0 (by omega), HALL.out 3 (by omega)]
            have z10 : w2.cell? ⟨g, b * 12 + 10, none⟩ = some (.int .i64 (is 3)) := by rw [show b * 12 + 10 = (b * 4 + 3) * 3 + 1 by omega, hd2.c1 (by omega), HIS.out 3]
            have z11 : w2.cell? ⟨g, b * 12 + 11, none⟩ = some (.int .i64 (ts 3)) := by rw [show b * 12 + 11 = (b * 4 + 3) * 3 + 2 by omega, hd2.c2 (by omega), HTS.out 3]
            go_wp2_with fail
            clear z0 z1 z2 z3 z4 z5 z6 z7 z8 z9 z10 z11
            go_loopw [46] (fun v wx => ∃ s : Nat, s ≤ 4 ∧ v = .int .i64 s ∧ BQ w.heap.size wx (w.heap.size + 1) w.heap.size (w.heap.size + 2) (Ck.addS D (b : Nat) fs s) (i + 1) ∧ Fr No w wx) (fun v _ => 4 - (intOf v).toNat)
            case atStart => exact ⟨0, by omega, rfl, HQ3.out, hf3⟩
            case round =>
              obtain ⟨s, hs, rfl, hq4, hf4⟩ := hrel
              have HQ4 := Lib.hid hq4
              clear hq4
              have hsz4 : w.heap.size ≤ wr.heap.size := hf4.size
              have hpre4 := HP2.out.adds HT.out HKB.out (by rw [Int.toNat_natCast]; exact HALL.out) s hs
              have hl4 := hpre4.len
              have HP4 := Lib.hid hpre4
              clear hpre4
              by_cases hls : s < 4
              · have hx4 := index4 (fun _ => true) is ts s hls
                go_wp2_with (first | (go_at_call 98; refine (other_any _ _ _).mono ?_; rintro e w' ⟨rfl, rfl⟩))
                refine (way1_any w.heap.size (w.heap.size + 1) w.heap.size (w.heap.size + 2) (Ck.addS D (b : Nat) fs s) (i + 1) _ (by simp; omega) (HQ4.out.no ((Fr.refl _ _).alloc _)) (by omega) _ _ _).mono ?_
                rintro e w5 ⟨rfl, hq5, hf5⟩
                have e5 : Ck.addF (Ck.addS D (b : Nat) fs s) (Ck.oth (b : Nat) (ts s)) ((b : Nat), (s : Nat)) = Ck.addS D (b : Nat) fs (s + 1) := by
                  rw [HTS.out s]
                  show _ = Ck.addF _ _ _
                  rw [Int.toNat_natCast]
                rw [e5] at hq5
                clear e5
                go_wp2_with fail
                go_roundw
                case rel => exact ⟨s + 1, by omega, by go_num, hq5, (hf4.alloc _).from hf5⟩
                case measure => simp [intOf]; omega
              · have hs4 : s = 4 := by omega
                have HS := Lib.hid hs4
                clear hs4
                go_wp2_with fail
                go_roundg (8 - (i + 1))
                case measure => rw [HK.out]; omega
                case rel =>
                  have hq6 := HQ4.out
                  have hp6 := HP4.out
                  rw [HS.out] at hq6 hp6
                  refine ⟨_, i + 1, by omega, rfl, hq6, hp6, ?_, hf4⟩
                  have := HD2.out.step HFI.out (by rw [HB.out, Int.toNat_natCast]; exact HALL.out)
                  rw [HB.out] at this
                  exact this
        · have hie : i = fs.length := by omega
          have HIE := Lib.hid hie
          clear hie
          go_wp2_with fail
          go_ret2
          exact ⟨hfx, .inr ⟨rfl, fs, HP2.out, by have := HD2.out; rwa [HIE.out] at this⟩⟩

end Go.Proofs.Ytjnidblfgdlgnaa
