/- Walk: the law's lies. -/
import Derived.Test.YtjnidblfgdlgnaaLawE
namespace Go.Proofs.Ytjnidblfgdlgnaa
set_option linter.unusedVariables false
set_option linter.unusedSimpArgs false
open Go.RowKit

theorem flat_take {α β : Type} (f : α → List β) (m : Nat) (hm : ∀ x, (f x).length = m) (l : List α) (j : Nat) : (l.flatMap f).take (j * m) = (l.take j).flatMap f := by
  induction l generalizing j with
  | nil => simp
  | cons a l ih =>
    cases j with
    | zero => simp
    | succ j =>
      rw [List.flatMap_cons, List.take_succ_cons, List.flatMap_cons, List.take_append, hm, List.take_of_length_le (by rw [hm, Nat.succ_mul]; omega), show (j + 1) * m - m = j * m by rw [Nat.succ_mul]; omega, ih]
theorem flat_drop {α β : Type} (f : α → List β) (m : Nat) (hm : ∀ x, (f x).length = m) (l : List α) (j : Nat) : (l.flatMap f).drop (j * m) = (l.drop j).flatMap f := by
  induction l generalizing j with
  | nil => simp
  | cons a l ih =>
    cases j with
    | zero => simp
    | succ j =>
      rw [List.flatMap_cons, List.drop_succ_cons, List.drop_append, hm, List.drop_of_length_le (by rw [hm, Nat.succ_mul]; omega), show (j + 1) * m - m = j * m by rw [Nat.succ_mul]; omega, ih]; rfl

theorem own_eq (A : Option Addr) (n c m d : Nat) : (Value.slice A n c).ownBlock = (Value.slice A m d).ownBlock := by cases A <;> rfl

/-- xs[:j:j]. -/
theorem Row.cut3 {P : Program} {w : World} {t : TypeId} {T sz n : Nat} {xs : List Value} {A : Option Addr} {cap : Nat} (h : Row w T sz (.slice A n cap) n xs) {z : Value} {bytes : Nat} (ht : P.underlying t = some (.slice T))
    (hinfo : (P.info? T).map (fun i => (i.zero, i.size, i.bytes)) = some (some z, sz, bytes)) {k : Nat} (hk : k ≤ n) :
    (∀ W, (Instr.sliceAt t (.slice A n cap) none (some (.int .i64 (k : Nat))) (some (.int .i64 (k : Nat)))).run P W = .ok (.slice A k k) W) ∧
      Row w T sz (.slice A k k) k (xs.take (k * sz)) := by
  obtain ⟨i, hi, hz, hsize, hby⟩ := info_parts hinfo
  obtain ⟨h1, h2⟩ := h
  have hlen : (xs.take (k * sz)).length = k * sz := by rw [List.length_take, h1]; exact Nat.min_eq_left (Nat.mul_le_mul_right _ hk)
  rcases h2 with ⟨hv, h0⟩ | ⟨g, off, cap', cur, hv, hg, h3, h4, h5, h6⟩
  · injection hv with e1 e2 e3
    subst e1 e3 h0
    obtain rfl : k = 0 := by omega
    refine ⟨fun W => ?_, hlen, .inl ⟨rfl, rfl⟩⟩
    simp [Instr.sliceAt, Instr.slice, run_underlying ht, Instr.sliceBounds, run_sliceBound, sizeOf, typeInfo, hi, hsize, Result.andThen]
  · injection hv with e1 e2 e3
    subst e1 e3
    have hkc : k ≤ cap := by omega
    refine ⟨fun W => ?_, hlen, .inr ⟨g, off, k, cur, rfl, hg, Nat.le_refl _, by omega, ?_, ?_⟩⟩
    · have hadd : (⟨g, off, none⟩ : Addr).add 0 = ⟨g, off, none⟩ := by simp [add_eq]
      simp [Instr.sliceAt, Instr.slice, run_underlying ht, Instr.sliceBounds, run_sliceBound, sizeOf, typeInfo, hi, hsize, hkc, Result.andThen, hadd]
    · have := Nat.mul_le_mul_right sz hkc
      omega
    · rw [← h6, List.take_take, Nat.min_eq_left (Nat.mul_le_mul_right _ hk)]

theorem ents_one {l : List Ck.Ref} : ∀ u ∈ l.flatMap entCs, u.oneCell' = true := by
  intro u hu
  obtain ⟨r, _, hr⟩ := List.mem_flatMap.1 hu
  simp [entCs] at hr
  rcases hr with rfl | rfl <;> rfl

set_option maxHeartbeats 1000000 in
theorem at_8_0 (g : Nat) (w : World) :
    Calls Try.prog 68 #[.pointer (some ⟨g, 0, none⟩), .int .i64 8, .int .i64 0] w fun e w' => e = .returned (.tuple #[.int .i64 0, .int .i64 0, .bool false]) ∧ w = w' := by
  go_enter Try.func68, Try.ntmps68
  go_wp2_with fail
  go_ret3
  exact ⟨rfl, rfl⟩
set_option maxHeartbeats 1000000 in
theorem at_0_4 (g : Nat) (w : World) :
    Calls Try.prog 68 #[.pointer (some ⟨g, 0, none⟩), .int .i64 0, .int .i64 4] w fun e w' => e = .returned (.tuple #[.int .i64 0, .int .i64 0, .bool false]) ∧ w = w' := by
  go_enter Try.func68, Try.ntmps68
  go_wp2_with fail
  go_ret3
  exact ⟨rfl, rfl⟩

/-- What is left behind k slots lies in a slice of its own. -/
def LieAt (D : Nat → Ck.Ent) (w wr : World) (o : Value) (k : Nat) : Prop :=
  ∃ (lf : List Ck.Ref) (A : Option Addr) (cap : Nat), o = .slice A lf.length cap ∧ Ents wr (.slice A lf.length cap) lf ∧ Ck.Left D k lf ∧ lf.length ≤ 32 ∧ (∀ r ∈ lf, 0 ≤ r.1 ∧ r.1 < 18446744073709551616) ∧
    Fr No w wr ∧ ∀ q, (Value.slice A lf.length cap).ownBlock = some q → w.heap.size ≤ q

set_option maxRecDepth 100000 in
set_option maxHeartbeats 8000000 in
theorem lies_any (v : Value) (l : List Ck.Ref) (g : Nat) (w : World) (hd : DirL w g l) (hv : Ents w v l) (hh : ∀ r ∈ l, 0 ≤ r.1 ∧ r.1 < 18446744073709551616) :
    Calls Try.prog 25 #[.pointer (some ⟨g, 0, none⟩), v] w fun e w' => e = .returned (.bool true) ∧ Fr No w w' := by
  have hl32 := hd.len
  obtain ⟨D, hd, hl⟩ := hd
  obtain ⟨a1, c1, rfl⟩ := Row.form hv
  have HV := Lib.hid hv
  have HH := Lib.hid hh
  have HD := Lib.hid hd
  have HL := Lib.hid hl
  clear hv hh hd hl
  go_enter Try.func25, Try.ntmps25
  go_wp2_with (first | (at_builtin; refine wpList_append_row _ rfl _ _ 33 rfl 37 (.agg #[.int .u64 0, .int .i64 0]) 2 16 Try.underlying33 info_ent rfl (by decide) (.slice none 0 0) 0 [] rfl (Row.nil _ _ _) l.length (l.flatMap entCs) _ rfl (Row.src HV.out ents_one) (by unfold maxLen; omega) (by omega) ?_; intro A2 cap2 w2 hr2 hf2 _ ho2; rw [Nat.zero_add] at hr2 ho2 ⊢; rw [List.nil_append] at hr2))
  have hstart : LieAt D w w2 (.slice A2 l.length cap2) 0 := by
    refine ⟨l, A2, cap2, rfl, hr2, Ck.Left.start HL.out, hl32, HH.out, hf2.mono (fun k _ e => by cases e), fun q e => ?_⟩
    rcases ho2 with ho2 | ⟨q', ho2, h3⟩
    · rw [ho2] at e; cases e
    · rw [ho2] at e; injection e with e; subst e; exact h3
  have HST := Lib.hid hstart
  clear hstart hr2 hf2 ho2
  go_loopw [5, 6] (fun o v wr => ∃ b : Nat, b ≤ 8 ∧ v = .int .i64 b ∧ LieAt D w wr o (b * 4)) (fun _ v _ => 8 - (intOf v).toNat)
  case atStart => exact ⟨0, by omega, rfl, HST.out⟩
  case round =>
    obtain ⟨b, hb8, rfl, hlie⟩ := hrel
    have HLI := Lib.hid hlie
    clear hlie
    by_cases hb : b < 8
    · have db : decide (((b : Nat) : Int) < 8) = true := decide_eq_true (by omega)
      go_wp2_with fail
      go_loopw [5, 7] (fun o v wr => ∃ s : Nat, s ≤ 4 ∧ v = .int .i64 s ∧ LieAt D w wr o (b * 4 + s)) (fun _ v _ => 4 - (intOf v).toNat)
      case atStart => exact ⟨0, by omega, rfl, HLI.out⟩
      case round =>
        obtain ⟨s, hs4, rfl, hlie⟩ := hrel
        by_cases hs : s < 4
        · obtain ⟨lf, A, cap, rfl, he, hleft, hlf, hbd, hf, hq⟩ := hlie
          have hk32 : b * 4 + s < 32 := by omega
          have hat := at_in g D l.length wr (HD.out.no hf) b s hb hs
          obtain ⟨idv, hid⟩ : ∃ x, x = (D (b * 4 + s)).id := ⟨_, rfl⟩
          obtain ⟨tagv, htag⟩ : ∃ x, x = (D (b * 4 + s)).tag := ⟨_, rfl⟩
          rw [← hid, ← htag] at hat
          have i0 : ((b : Nat) : Int) < 8 := by omega
          have i1 : ((s : Nat) : Int) < 4 := by omega
          have ds : decide (((s : Nat) : Int) < 4) = true := decide_eq_true i1
          have HE := Lib.hid he
          have HBD := Lib.hid hbd
          have HQ := Lib.hid hq
          clear he hbd hq
          cases hh : (D (b * 4 + s)).has
          · rw [hh] at hat
            have hz := HL.out.2 (b * 4 + s) hk32 hh
            have hid0 : idv = 0 := by rw [hid, hz]; rfl
            have htag0 : tagv = 0 := by rw [htag, hz]; rfl
            have hleft' := hleft.skip hk32 hh
            clear hid htag hz hh hleft
            subst hid0
            subst htag0
            have HAT := Lib.hid hat
            have HLF := Lib.hid hleft'
            clear hat hleft'
            go_wp2_with (first | (go_at_call 68; refine HAT.out.mono ?_; rintro e w3 ⟨rfl, hf3⟩))
            go_roundw
            case rel => exact ⟨s + 1, by omega, by go_num, lf, A, cap, rfl, HE.out.no hf3, HLF.out, hlf, HBD.out, hf.no hf3, HQ.out⟩
            case measure => simp [intOf]; omega
          · rw [hh] at hat
            obtain ⟨hex, hall⟩ := hleft.take hk32 hh
            rw [show (b * 4 + s) / 4 = b by omega, ← hid, ← htag] at hex hall
            have HEX := Lib.hid hex
            have HALL := Lib.hid hall
            have tbd : 0 ≤ tagv ∧ tagv < 32768 := by
              obtain ⟨r, _, hf⟩ := hex
              have := (Ck.fitsB_iff.1 hf).2.1
              dsimp only at this
              rw [this]
              exact Ck.tg_bd r.1
            obtain ⟨tb0, tb1⟩ := tbd
            have HAT := Lib.hid hat
            clear hat hid htag hh hleft hex hall
            go_wp2_with (first | (go_at_call 68; refine HAT.out.mono ?_; rintro e w3 ⟨rfl, hf3⟩))
            have hf03 := hf.no hf3
            have HE3 := Lib.hid (HE.out.no hf3)
            clear HE
            go_loop [11, 12] (fun sm v => ∃ i : Nat, i ≤ lf.length ∧ v = .int .i64 i ∧ sm = .int .i64 (Ck.lastI (Ck.fitsB b idv tagv) lf i)) (fun _ v => lf.length - (intOf v).toNat)
            case atStart => exact ⟨0, by omega, rfl, rfl⟩
            case round =>
              obtain ⟨i, hi, rfl, rfl⟩ := hrel
              by_cases hlt : i < lf.length
              · obtain ⟨r, hr⟩ : ∃ r, lf[i]? = some r := ⟨_, List.getElem?_eq_getElem hlt⟩
                obtain ⟨rh, rid⟩ := r
                obtain ⟨b', off, c, hv, hc, hbl, hcell⟩ := HE3.out.cells (by omega)
                injection hv with q1 q2 q3
                subst q1 q3
                obtain ⟨k0, k1⟩ := hcell i _ hr
                obtain ⟨r0, r1⟩ := HBD.out _ (List.mem_of_getElem? hr)
                have hsucc := Ck.lastI_succ (f := Ck.fitsB b idv tagv) hr
                have hfit : Ck.fitsB b idv tagv (rh, rid) = (rid == idv && Ck.tg rh == tagv && ((b : Int) == Ck.fstB rh || (b : Int) == Ck.oth (Ck.fstB rh) tagv)) := rfl
                rw [hfit] at hsucc
                dsimp only at k0 k1 r0 r1
                have fb := Ck.fstB_bd rh
                have i2 : ((lf.length : Nat) : Int) ≤ 32 := by omega
                generalize hl1 : Ck.lastI (Ck.fitsB b idv tagv) lf i = last at *
                have HSU := Lib.hid hsucc
                clear hsucc hcell hr hfit hl1
                cases c1 : (rid == idv)
                · go_wp2_with (first | (go_at_call 61; refine (rfirst_any rh _ r0 r1).mono ?_; rintro e w' ⟨rfl, rfl⟩) | (go_at_call 63; refine (rtag_any rh _ r0 r1).mono ?_; rintro e w' ⟨rfl, rfl⟩) | (go_at_call 62; refine (rother_in (Ck.fstB rh) tagv _ fb.1 fb.2 tb0 tb1).mono ?_; rintro e w' ⟨rfl, rfl⟩))
                  go_round
                  case rel => exact ⟨i + 1, by omega, by go_num, by rw [HSU.out, c1]; rfl⟩
                  case measure => simp [intOf]; omega
                · cases c2 : (Ck.tg rh == tagv)
                  · go_wp2_with (first | (go_at_call 61; refine (rfirst_any rh _ r0 r1).mono ?_; rintro e w' ⟨rfl, rfl⟩) | (go_at_call 63; refine (rtag_any rh _ r0 r1).mono ?_; rintro e w' ⟨rfl, rfl⟩) | (go_at_call 62; refine (rother_in (Ck.fstB rh) tagv _ fb.1 fb.2 tb0 tb1).mono ?_; rintro e w' ⟨rfl, rfl⟩))
                    go_round
                    case rel => exact ⟨i + 1, by omega, by go_num, by rw [HSU.out, c1, c2]; rfl⟩
                    case measure => simp [intOf]; omega
                  · cases c3 : ((b : Int) == Ck.fstB rh)
                    · cases c4 : ((b : Int) == Ck.oth (Ck.fstB rh) tagv)
                      · go_wp2_with (first | (go_at_call 61; refine (rfirst_any rh _ r0 r1).mono ?_; rintro e w' ⟨rfl, rfl⟩) | (go_at_call 63; refine (rtag_any rh _ r0 r1).mono ?_; rintro e w' ⟨rfl, rfl⟩) | (go_at_call 62; refine (rother_in (Ck.fstB rh) tagv _ fb.1 fb.2 tb0 tb1).mono ?_; rintro e w' ⟨rfl, rfl⟩))
                        go_round
                        case rel => exact ⟨i + 1, by omega, by go_num, by rw [HSU.out, c1, c2, c3, c4]; rfl⟩
                        case measure => simp [intOf]; omega
                      · go_wp2_with (first | (go_at_call 61; refine (rfirst_any rh _ r0 r1).mono ?_; rintro e w' ⟨rfl, rfl⟩) | (go_at_call 63; refine (rtag_any rh _ r0 r1).mono ?_; rintro e w' ⟨rfl, rfl⟩) | (go_at_call 62; refine (rother_in (Ck.fstB rh) tagv _ fb.1 fb.2 tb0 tb1).mono ?_; rintro e w' ⟨rfl, rfl⟩))
                        go_round
                        case rel => exact ⟨i + 1, by omega, by go_num, by rw [HSU.out, c1, c2, c3, c4]; rfl⟩
                        case measure => simp [intOf]; omega
                    · go_wp2_with (first | (go_at_call 61; refine (rfirst_any rh _ r0 r1).mono ?_; rintro e w' ⟨rfl, rfl⟩) | (go_at_call 63; refine (rtag_any rh _ r0 r1).mono ?_; rintro e w' ⟨rfl, rfl⟩) | (go_at_call 62; refine (rother_in (Ck.fstB rh) tagv _ fb.1 fb.2 tb0 tb1).mono ?_; rintro e w' ⟨rfl, rfl⟩))
                      go_round
                      case rel => exact ⟨i + 1, by omega, by go_num, by rw [HSU.out, c1, c2, c3]; rfl⟩
                      case measure => simp [intOf]; omega
              · have hin : i = lf.length := by omega
                have hbd2 := Ck.lastI_bd (Ck.fitsB b idv tagv) lf i
                obtain ⟨j, hj⟩ : ∃ j : Nat, Ck.lastI (Ck.fitsB b idv tagv) lf i = (j : Int) := by
                  by_cases h : Ck.lastI (Ck.fitsB b idv tagv) lf i = -1
                  · exfalso
                    rw [hin] at h
                    obtain ⟨r, hr, hf⟩ := HEX.out
                    have := Ck.lastI_no h r hr
                    rw [this] at hf
                    cases hf
                  · exact ⟨(Ck.lastI (Ck.fitsB b idv tagv) lf i).toNat, by omega⟩
                obtain ⟨r, hr, hfr⟩ := Ck.lastI_at hj
                have hjl : j < lf.length := (List.getElem?_eq_some_iff.1 hr).1
                have hleft2 := HALL.out j r hr hfr
                rw [hj] at hbd2 ⊢
                obtain ⟨hs1, hrow1⟩ := Row.cut3 (P := Try.prog) (t := 33) HE3.out Try.underlying33 info_ent (k := j) (by omega)
                obtain ⟨A1, hs2, hrow2, hown2⟩ := Row.cut (P := Try.prog) (t := 33) HE3.out Try.underlying33 info_ent (by decide) (k := j + 1) (by omega)
                have hs2' : ∀ W, (Instr.sliceAt 33 (.slice A lf.length cap) (some (.int .i64 ((j : Int) + 1))) none none).run Try.prog W = .ok (.slice A1 (lf.length - (j + 1)) (cap - (j + 1))) W := fun W => hs2 W
                have hw : IntKind.i64.wrap ((j : Int) + 1) = (j : Int) + 1 := by rw [IntKind.wrap_i64]; omega
                have HL2 := Lib.hid hleft2
                have HR1 := Lib.hid hrow1
                have HR2 := Lib.hid hrow2
                have HIN := Lib.hid hin
                have i2 : ((lf.length : Nat) : Int) ≤ 32 := by omega
                have i3 : ((j : Nat) : Int) < 32 := by omega
                clear hj hr hfr hleft2 hrow1 hrow2 hs2 hown2 hin hbd2
                go_wp2_with fail
                refine wp_region_still_tail 8 (by kernel_rfl) (by kernel_rfl) ?_
                change wpStill _ _ (World.drew _) (fun a' => wpList _ _ _ _ a' (World.drew _)) _ _
                simp only [List.take_succ_cons, List.take_zero, List.drop_succ_cons, List.drop_zero]
                iterate 8 still_step
                refine wpStill_nil ?_
                go_wp2_with (at_builtin; refine wpList_append_row _ rfl _ _ 33 rfl 37 (.agg #[.int .u64 0, .int .i64 0]) 2 16 Try.underlying33 info_ent rfl (by decide) (.slice A j j) j ((lf.flatMap entCs).take (j * 2)) rfl (HR1.out.no ((Fr.refl _ _).drew)) (lf.length - (j + 1)) ((lf.flatMap entCs).drop ((j + 1) * 2)) _ rfl (Row.src (HR2.out.no ((Fr.refl _ _).drew)) (fun u hu => ents_one u (List.mem_of_mem_drop hu))) (by unfold maxLen; omega) (by omega) ?_; intro A3 cap3 w4 hr4 hf4 _ ho4)
                have e5 : j + (lf.length - (j + 1)) = (lf.take j ++ lf.drop (j + 1)).length := by simp; omega
                go_roundw
                case rel =>
                  refine ⟨s + 1, by omega, by go_num, lf.take j ++ lf.drop (j + 1), A3, cap3, by rw [e5], ?_, HL2.out, by rw [← e5]; omega, fun r hr => ?_, hf03.drew.from (hf4.mono fun q _ e => HQ.out q ((own_eq A _ _ _ _).trans e)), fun q e => ?_⟩
                  · unfold Ents
                    rw [← e5, List.flatMap_append, ← flat_take entCs 2 entCs_len, ← flat_drop entCs 2 entCs_len]
                    exact hr4
                  · rcases List.mem_append.1 hr with hr | hr
                    · exact HBD.out r (List.mem_of_mem_take hr)
                    · exact HBD.out r (List.mem_of_mem_drop hr)
                  · have e' : (Value.slice A3 (j + (lf.length - (j + 1))) cap3).ownBlock = some q := (own_eq A3 _ _ _ _).trans e
                    rcases ho4 with ho4 | ⟨q', ho4, h3⟩
                    · rw [ho4] at e'; exact HQ.out q ((own_eq A _ _ _ _).trans e')
                    · rw [ho4] at e'; injection e' with e'; subst e'; have := hf03.drew.size; omega
                case measure => simp [intOf]; omega
        · have hs4' : s = 4 := by omega
          go_wp2_with fail
          go_roundw
          case rel => exact ⟨b + 1, by omega, by go_num, by rw [show (b + 1) * 4 = b * 4 + s by omega]; exact hlie⟩
          case measure => simp [intOf]; omega
    · have hb8' : b = 8 := by omega
      obtain ⟨lf, A, cap, rfl, he, hleft, hlf, hbd, hf, hq⟩ := HLI.out
      rw [hb8'] at hleft
      obtain rfl := hleft.done
      have hlen := len_any g D l.length wr (HD.out.no hf)
      have HLEN := Lib.hid hlen
      clear hleft hlen he HLI
      go_wp2_with fail
      refine (at_8_0 g _).mono ?_
      rintro e w3 ⟨rfl, rfl⟩
      go_wp2_with fail
      refine (at_0_4 g _).mono ?_
      rintro e w3 ⟨rfl, rfl⟩
      go_wp2_with (first | (go_at_call 19; refine HLEN.out.mono ?_; rintro e w6 ⟨rfl, rfl⟩))
      go_ret
      exact ⟨by simp, hf⟩

end Go.Proofs.Ytjnidblfgdlgnaa
