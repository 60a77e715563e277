/- Walks: the references' Near, the law's own eq and find. -/
import Derived.Test.YtjnidblfgdlgnaaLawA
import Derived.Test.YtjnidblfgdlgnaaCkE
namespace Go.Proofs.Ytjnidblfgdlgnaa
set_option linter.unusedVariables false
set_option linter.unusedSimpArgs false
open Go.RowKit

/-- A cell of a row is written. -/
theorem Row.set {w : World} {T sz n c : Nat} {b off : Nat} {xs : List Value} (h : Row w T sz (.slice (some ⟨b, off, none⟩) n c) n xs) {j : Nat} (hj : j < n * sz) (u : Value) :
    Row (w.setCell ⟨b, off + j, none⟩ u) T sz (.slice (some ⟨b, off, none⟩) n c) n (xs.set j u) := by
  obtain ⟨h1, h2⟩ := h
  refine ⟨by rw [List.length_set]; exact h1, ?_⟩
  rcases h2 with ⟨hv, _⟩ | ⟨g, off', cap, cur, hv, hg, h3, h4, h5, h6⟩
  · cases hv
  · injection hv with e1 e2 e3
    injection e1 with e1
    injection e1 with e1 e4
    subst e1 e4 e3
    refine .inr ⟨b, off, c, cur.set! (off + j) u, rfl, ?_, h3, h4, by simpa using h5, ?_⟩
    · have hb : b < w.heap.size := (Array.getElem?_eq_some_iff.1 hg).1
      have := Blk.set (w := w) (b := b) (T := T) (cs := cur.toList) (by unfold Blk; simpa using hg) (off + j) u
      unfold Blk at this
      rw [this]
      congr 2
      apply Array.ext'
      simp
    · have hle : n * sz ≤ c * sz := Nat.mul_le_mul_right _ h3
      rw [← h6]
      apply List.ext_getElem?
      intro i
      simp only [List.getElem?_take, List.getElem?_drop, List.getElem?_set, Array.set!_eq_setIfInBounds, Array.toList_setIfInBounds, List.length_take, List.length_drop, Array.length_toList]
      by_cases hi : i < n * sz
      · simp only [hi, if_true]
        by_cases e : j = i
        · subst e
          rw [if_pos rfl, if_pos rfl, if_pos (by omega), if_pos (by omega)]
        · rw [if_neg e, if_neg (by omega)]
      · rw [if_neg hi, if_neg hi, if_neg (by omega)]

set_option maxHeartbeats 1000000 in
theorem near_any (a b : Int) (w : World) (ha0 : 0 ≤ a) (ha1 : a < 18446744073709551616) (hb0 : 0 ≤ b) (hb1 : b < 18446744073709551616) :
    Calls Try.prog 20 #[.int .u64 a, .int .u64 b] w fun e w' => e = .returned (.bool (Ck.near a b)) ∧ w = w' := by
  have fb := Ck.fstB_bd b
  have tb := Ck.tg_bd b
  unfold Ck.near
  cases h1 : (Ck.tg a == Ck.tg b)
  · go_enter Try.func20, Try.ntmps20
    go_wp2_with (first | (go_at_call 63; refine (rtag_any _ _ (by assumption) (by assumption)).mono ?_; rintro e w' ⟨rfl, rfl⟩) | (go_at_call 61; refine (rfirst_any _ _ (by assumption) (by assumption)).mono ?_; rintro e w' ⟨rfl, rfl⟩))
    go_ret
    exact ⟨rfl, rfl⟩
  · cases h2 : (Ck.fstB a == Ck.fstB b)
    · go_enter Try.func20, Try.ntmps20
      go_wp2_with (first | (go_at_call 63; refine (rtag_any _ _ (by assumption) (by assumption)).mono ?_; rintro e w' ⟨rfl, rfl⟩) | (go_at_call 61; refine (rfirst_any _ _ (by assumption) (by assumption)).mono ?_; rintro e w' ⟨rfl, rfl⟩) | (go_at_call 62; refine (rother_in _ _ _ fb.1 fb.2 tb.1 tb.2).mono ?_; rintro e w' ⟨rfl, rfl⟩))
      go_ret
      exact ⟨rfl, rfl⟩
    · go_enter Try.func20, Try.ntmps20
      go_wp2_with (first | (go_at_call 63; refine (rtag_any _ _ (by assumption) (by assumption)).mono ?_; rintro e w' ⟨rfl, rfl⟩) | (go_at_call 61; refine (rfirst_any _ _ (by assumption) (by assumption)).mono ?_; rintro e w' ⟨rfl, rfl⟩) | (go_at_call 62; refine (rother_in _ _ _ fb.1 fb.2 tb.1 tb.2).mono ?_; rintro e w' ⟨rfl, rfl⟩))
      go_ret
      exact ⟨rfl, rfl⟩

set_option maxHeartbeats 1000000 in
theorem eq17_any (v1 v2 : Value) (l1 l2 : List Int) (w : World) (h1 : Rd w v1 l1.length 1 (l1.map (Value.int .i64))) (h2 : Rd w v2 l2.length 1 (l2.map (Value.int .i64))) :
    Calls Try.prog 22 #[v1, v2] w fun e w' => e = .returned (.bool (decide (l1 = l2))) ∧ Fr No w w' := by
  obtain ⟨a1, c1, rfl, _⟩ := h1.form
  obtain ⟨a2, c2, rfl, _⟩ := h2.form
  have hm := h1.2.1
  unfold maxLen at hm
  have H1 := Lib.hid h1
  have H2 := Lib.hid h2
  clear h1 h2
  by_cases hl : l1.length = l2.length
  · have e0 : (((l1.length : Nat) : Int) != ((l2.length : Nat) : Int)) = false := by rw [hl]; simp
    have HL := Lib.hid hl
    clear hl
    go_enter Try.func22, Try.ntmps22
    go_wp2_with fail
    go_loopw [5] (fun v wr => ∃ i : Nat, i ≤ l1.length ∧ v = .int .i64 i ∧ l1.take i = l2.take i ∧ Fr No w wr) (fun v _ => l1.length - (intOf v).toNat)
    case atStart => exact ⟨0, by omega, rfl, rfl, Fr.refl _ _⟩
    case round =>
      obtain ⟨i, hi, rfl, htk, hf⟩ := hrel
      have HT := Lib.hid htk
      clear htk
      by_cases hlt : i < l1.length
      · have hlt2 : i < l2.length := by rw [← HL.out]; exact hlt
        obtain ⟨x1, hx1⟩ : ∃ x, l1[i]? = some x := ⟨_, List.getElem?_eq_getElem hlt⟩
        obtain ⟨x2, hx2⟩ : ∃ x, l2[i]? = some x := ⟨_, List.getElem?_eq_getElem hlt2⟩
        obtain ⟨b1, o1, c1', hv1, _, k1⟩ := (H1.out.no hf).addr (by omega)
        obtain ⟨b2, o2, c2', hv2, _, k2⟩ := (H2.out.no hf).addr (by omega)
        injection hv1 with q1 q2 q3
        subst q1 q3
        injection hv2 with q1 q2 q3
        subst q1 q3
        have d1 : wr.cell? ⟨b1, o1 + i, none⟩ = some (.int .i64 x1) := k1 i _ (by rw [List.getElem?_map, hx1]; rfl)
        have d2 : wr.cell? ⟨b2, o2 + i, none⟩ = some (.int .i64 x2) := k2 i _ (by rw [List.getElem?_map, hx2]; rfl)
        have HX1 := Lib.hid hx1
        have HX2 := Lib.hid hx2
        clear k1 k2 hx1 hx2
        have i2 : ((i : Nat) : Int) < ((l2.length : Nat) : Int) := by omega
        cases hx : (x1 != x2)
        · go_wp2_with fail
          go_quiet (fail)
          go_wp2_with fail
          go_roundw
          case rel => exact ⟨i + 1, by omega, by go_num, by rw [List.take_add_one, List.take_add_one, HX1.out, HX2.out, HT.out, show x1 = x2 by simpa using hx], hf.drewN _⟩
          case measure => simp [intOf]; omega
        · go_wp2_with fail
          go_quiet (fail)
          go_wp2_with fail
          go_ret
          refine ⟨?_, hf.drewN _⟩
          have : decide (l1 = l2) = false := decide_eq_false fun e => by
            have h3 := HX1.out
            rw [e, HX2.out] at h3
            injection h3 with h3
            subst h3
            simp at hx
          rw [this]; rfl
      · go_wp2_with fail
        go_ret
        refine ⟨?_, hf⟩
        have : l1 = l2 := by
          have := HT.out
          rwa [List.take_of_length_le (by omega), List.take_of_length_le (by rw [← HL.out]; omega)] at this
        rw [decide_eq_true this]; rfl
  · have e0 : (((l1.length : Nat) : Int) != ((l2.length : Nat) : Int)) = true := by simp; omega
    have HL := Lib.hid hl
    clear hl
    go_enter Try.func22, Try.ntmps22
    go_wp2_with fail
    go_ret
    refine ⟨?_, Fr.refl _ _⟩
    rw [decide_eq_false fun e => HL.out (by rw [e])]; rfl

theorem Row.at {w : World} {T sz n c : Nat} {b off : Nat} {xs : List Value} (h : Row w T sz (.slice (some ⟨b, off, none⟩) n c) n xs) (hn : 0 < n) :
    (∀ j u, xs[j]? = some u → w.cell? ⟨b, off + j, none⟩ = some u) ∧ ∀ j, w.frozen? ⟨b, off + j, none⟩ = false := by
  obtain ⟨g, o, cap, hv, _, _, h3, h4, _⟩ := h.addr hn
  injection hv with e1 e2 e3
  injection e1 with e1
  injection e1 with e1 e4
  subst e1 e4 e3
  exact ⟨h3, fun j => h4 _⟩

/-! ### entries in a slice -/
def entCs (r : Ck.Ref) : List Value := [.int .u64 r.1, .int .i64 r.2]
theorem entCs_len (r : Ck.Ref) : (entCs r).length = 2 := rfl
def Ents (w : World) (v : Value) (l : List Ck.Ref) : Prop := Row w 37 2 v l.length (l.flatMap entCs)
theorem info_ent : (Try.prog.info? 37).map (fun i => (i.zero, i.size, i.bytes)) = some (some (.agg #[.int .u64 0, .int .i64 0]), 2, 16) := by kernel_rfl

theorem ents_get {l : List Ck.Ref} {i j : Nat} {r : Ck.Ref} (h : l[i]? = some r) (hj : j < 2) : (l.flatMap entCs)[i * 2 + j]? = (entCs r)[j]? := by
  rw [getElem?_flat entCs 2 entCs_len hj, h]; rfl
theorem Ents.no {w w' : World} {v : Value} {l : List Ck.Ref} (h : Ents w v l) (hf : Fr No w w') : Ents w' v l := Row.no h hf
theorem Ents.cells {w : World} {v : Value} {l : List Ck.Ref} (h : Ents w v l) (hn : 0 < l.length) : ∃ b off c, v = .slice (some ⟨b, off, none⟩) l.length c ∧ l.length ≤ c ∧ b < w.heap.size ∧
    ∀ i r, l[i]? = some r → w.cell? ⟨b, off + i * 2, none⟩ = some (.int .u64 r.1) ∧ w.cell? ⟨b, off + i * 2 + 1, none⟩ = some (.int .i64 r.2) := by
  obtain ⟨b, off, c, hv, h1, h2, h3, h4, h5⟩ := Row.addr h hn
  refine ⟨b, off, c, hv, h1, h5, fun i r hr => ⟨?_, ?_⟩⟩
  · exact h3 (i * 2 + 0) _ (ents_get hr (by omega))
  · rw [Nat.add_assoc]; exact h3 (i * 2 + 1) _ (ents_get hr (by omega))

theorem Ents.at {w : World} {b off c : Nat} {l : List Ck.Ref} (h : Ents w (.slice (some ⟨b, off, none⟩) l.length c) l) {i : Nat} {r : Ck.Ref} (hr : l[i]? = some r) :
    w.cell? ⟨b, off + i * 2, none⟩ = some (.int .u64 r.1) ∧ w.cell? ⟨b, off + i * 2 + 1, none⟩ = some (.int .i64 r.2) := by
  have hl : 0 < l.length := by have := (List.getElem?_eq_some_iff.1 hr).1; omega
  obtain ⟨b', off', c', hv, _, _, h3⟩ := h.cells hl
  injection hv with e1 e2 e3
  injection e1 with e1
  injection e1 with e1 e4
  subst e1 e4 e3
  exact h3 i r hr

theorem take_set_drop {α : Type} (l : List α) (k : Nat) (x y : α) (hk : k ≤ l.length) : (l.take k ++ y :: l.drop k).set k x = l.take k ++ x :: l.drop k := by
  rw [List.set_append]
  simp [Nat.min_eq_left hk]

theorem shift_one (out : List Int) (k : Nat) (a y : Int) (ha : out[k]? = some a) : (out.take (k + 1) ++ y :: out.drop (k + 1)).set (k + 1) a = out.take k ++ a :: out.drop k := by
  have hk : k < out.length := (List.getElem?_eq_some_iff.1 ha).1
  rw [take_set_drop _ _ _ _ (by omega), List.take_add_one, ha, List.drop_eq_getElem_cons hk, (List.getElem?_eq_some_iff.1 ha).2]
  simp

set_option maxRecDepth 100000 in
set_option maxHeartbeats 4000000 in
theorem find17_any (v : Value) (l : List Ck.Ref) (h : Int) (w : World) (h0 : 0 ≤ h) (h1 : h < 18446744073709551616) (hv : Ents w v l) (hh : ∀ r ∈ l, 0 ≤ r.1 ∧ r.1 < 18446744073709551616) (hn : l.length ≤ 100) :
    Calls Try.prog 24 #[v, .int .u64 h] w fun e w' => NewInts w (Ck.foundL l h) e w' := by
  obtain ⟨a1, c1, rfl⟩ := Row.form hv
  have HV := Lib.hid hv
  have HH := Lib.hid hh
  clear hv hh
  have i0 : ((l.length : Nat) : Int) ≤ 100 := by omega
  go_enter Try.func24, Try.ntmps24
  go_wp2_with fail
  go_loopw [5, 6] (fun o v wr => ∃ i : Nat, i ≤ l.length ∧ v = .int .i64 i ∧ ∃ (out : List Int) (A : Option Addr) (cap : Nat), o = .slice A out.length cap ∧ Row wr 3 1 (.slice A out.length cap) out.length (out.map (Value.int .i64)) ∧
      out.Perm (Ck.nearIds l h i) ∧ out.Pairwise (fun a b => a ≤ b) ∧ out.length ≤ i ∧ Fr No w wr ∧ ∀ q, (Value.slice A out.length cap).ownBlock = some q → w.heap.size ≤ q) (fun _ v _ => l.length - (intOf v).toNat)
  case atStart => exact ⟨0, by omega, rfl, [], none, 0, rfl, Row.nil _ _ _, by simp [Ck.nearIds], List.Pairwise.nil, by simp, Fr.refl _ _, fun q e => by cases e⟩
  case round =>
    obtain ⟨i, hi, rfl, out, A, cap, rfl, hr, hp, hs, hol, hf, hq⟩ := hrel
    have HR := Lib.hid hr
    have HP := Lib.hid hp
    have HS := Lib.hid hs
    have HQ := Lib.hid hq
    clear hr hp hs hq
    by_cases hlt : i < l.length
    · obtain ⟨r, hr⟩ : ∃ r, l[i]? = some r := ⟨_, List.getElem?_eq_getElem hlt⟩
      obtain ⟨rh, rid⟩ := r
      obtain ⟨b, off, c, hv, hc, hbl, hcell⟩ := (HV.out.no hf).cells (by omega)
      injection hv with q1 q2 q3
      subst q1 q3
      obtain ⟨k0, k1⟩ := hcell i _ hr
      obtain ⟨r0, r1⟩ := HH.out _ (List.mem_of_getElem? hr)
      have hsucc := Ck.nearIds_succ (h := h) hr
      have HSU := Lib.hid hsucc
      have HG := Lib.hid hr
      clear hr hcell hsucc
      dsimp only at k0 k1 r0 r1
      cases hn : Ck.near h rh
      · go_wp2_with (first | (go_at_call 20; refine (near_any h rh _ h0 h1 r0 r1).mono ?_; rintro e w' ⟨rfl, rfl⟩))
        go_roundw
        case rel => exact ⟨i + 1, by omega, by go_num, out, A, cap, rfl, HR.out, by rw [HSU.out, hn]; simpa using HP.out, HS.out, by omega, hf, HQ.out⟩
        case measure => simp [intOf]; omega
      · have i1 : ((out.length : Nat) : Int) ≤ 100 := by omega
        go_wp2_with (first | (go_at_call 20; refine (near_any h rh _ h0 h1 r0 r1).mono ?_; rintro e w' ⟨rfl, rfl⟩) | (at_builtin; refine wpList_append_row _ rfl _ _ 41 rfl 3 (.int .i64 0) 1 8 Try.underlying41 info_int rfl (by decide) (.slice A out.length cap) out.length _ rfl (HR.out.no ((Fr.refl _ _).alloc _)) 1 [.int .i64 0] _ rfl (Src.new _ #[.int .i64 0] _ 1 1 (by simp [Value.oneCell']) rfl 1) (by unfold maxLen; omega) (by omega) ?_; intro A2 cap2 w2 hr2 hf2 _ ho2))
        have hown2 : ∀ q, (Value.slice A2 (out.length + 1) cap2).ownBlock = some q → w.heap.size ≤ q := by
          intro q e
          rcases ho2 with ho2 | ⟨q', ho2, h3⟩
          · rw [ho2] at e; exact HQ.out q e
          · rw [ho2] at e; injection e with e; subst e; have := hf.size; simp at h3; omega
        have hf02 : Fr No w w2 := (hf.alloc (.cells #[.int .i64 0] 3)).from (hf2.mono fun k _ e => HQ.out k e)
        obtain ⟨g2, off2, c2, hv2, hc2, _, _, _, hg2⟩ := Row.addr hr2 (by omega)
        injection hv2 with q1 q2 q3
        subst q1 q3
        have hNg : w.heap.size ≤ g2 := hown2 g2 rfl
        have HR2 := Lib.hid hr2
        clear hr2 hf2 ho2 HR HQ
        go_loopw [7] (fun v wx => ∃ k : Nat, k ≤ out.length ∧ v = .int .i64 k ∧ ∃ y : Int, Row wx 3 1 (.slice (some ⟨g2, off2, none⟩) (out.length + 1) cap2) (out.length + 1) ((out.take k ++ y :: out.drop k).map (Value.int .i64)) ∧ (∀ a ∈ out.drop k, rid < a) ∧ Fr No w wx) (fun v _ => (intOf v).toNat)
        case atStart => exact ⟨out.length, Nat.le_refl _, rfl, 0, by simpa using HR2.out, by simp, hf02⟩
        case round =>
          obtain ⟨k, hk, rfl, y, hr3, hbig, hf3⟩ := hrel
          obtain ⟨k0', k1'⟩ := (HV.out.no hf3).at HG.out
          obtain ⟨kc, kf⟩ := hr3.at (by omega)
          dsimp only at k0' k1'
          have HR3 := Lib.hid hr3
          have HB := Lib.hid hbig
          have HKC := Lib.hid kc
          clear hr3 hbig kc k0 k1
          have hlen' : (out.take k ++ rid :: out.drop k).length = out.length + 1 := by simp; omega
          have HLEN := Lib.hid hlen'
          clear hlen'
          have kfk := kf k
          have kcy : wr.cell? ⟨g2, off2 + k, none⟩ = some (.int .i64 y) := HKC.out k _ (by
            rw [List.getElem?_map, List.getElem?_append_right (by simp; omega)]; simp [Nat.min_eq_left hk])
          have fin : ∀ wz, Fr No wr wz → ∀ wy, wy = wz.setCell ⟨g2, off2 + k, none⟩ (.int .i64 rid) → Row wy 3 1 (.slice (some ⟨g2, off2, none⟩) (out.length + 1) cap2) (out.length + 1) ((out.take k ++ rid :: out.drop k).map (Value.int .i64)) ∧ Fr No w wy := by
            rintro wz hz wy rfl
            refine ⟨?_, ?_⟩
            · have := Row.set (HR3.out.no hz) (j := k) (by omega) (.int .i64 rid)
              rwa [← List.map_set, take_set_drop _ _ _ _ hk] at this
            · exact (hf3.no hz).from ((Fr.refl (From w.heap.size) wz).setCellFrom hNg _)
          have FIN := Lib.hid fin
          clear fin
          by_cases hk0 : k = 0
          · subst hk0
            have kfz : wr.frozen? ⟨g2, off2, none⟩ = false := kf 0
            have kcz : wr.cell? ⟨g2, off2, none⟩ = some (.int .i64 y) := kcy
            have hle : ∀ x ∈ out.take 0, x ≤ rid := fun x hx => by simp at hx
            have HLE := Lib.hid hle
            clear hle
            go_wp2_with fail
            go_quiet (fail)
            go_wp2_with fail
            go_roundw
            case rel =>
              refine ⟨i + 1, by omega, by go_num, out.take 0 ++ rid :: out.drop 0, some ⟨g2, off2, none⟩, cap2, by rw [HLEN.out], by rw [HLEN.out]; exact (FIN.out _ ((Fr.refl _ _).drewN _) _ rfl).1, ?_, Ck.put_rising HS.out HLE.out HB.out, by rw [HLEN.out]; omega, (FIN.out _ ((Fr.refl _ _).drewN _) _ rfl).2, fun q e => ?_⟩
              · rw [HSU.out, hn, if_pos rfl]
                refine List.perm_middle.trans ?_
                rw [List.take_append_drop]
                exact (HP.out.cons rid).trans (List.perm_append_singleton _ _).symm
              · injection e with e
                subst e
                exact hNg
            case measure => simp [intOf]; omega
          · obtain ⟨k, rfl⟩ : ∃ k', k = k' + 1 := ⟨k - 1, by omega⟩
            obtain ⟨a, ha⟩ : ∃ a, out[k]? = some a := ⟨_, List.getElem?_eq_getElem (by omega)⟩
            have kck : wr.cell? ⟨g2, off2 + k, none⟩ = some (.int .i64 a) := HKC.out k _ (by
              rw [List.getElem?_map, List.getElem?_append_left (by simp; omega), List.getElem?_take_of_lt (by omega), ha]; rfl)
            have HA := Lib.hid ha
            clear ha
            by_cases hgt : rid < a
            · go_wp2_with fail
              go_quiet (fail)
              go_wp2_with fail
              go_roundw
              case rel =>
                refine ⟨k, by omega, rfl, a, ?_, fun x hx => ?_, (hf3.drewN _).from ((Fr.refl (From w.heap.size) _).setCellFrom hNg _)⟩
                · have := Row.set (HR3.out.no ((Fr.refl No wr).drewN nq)) (j := k + 1) (by omega) (.int .i64 a)
                  rwa [← List.map_set, shift_one _ _ _ _ HA.out] at this
                · rw [List.drop_eq_getElem_cons (by omega), (List.getElem?_eq_some_iff.1 HA.out).2] at hx
                  rcases List.mem_cons.1 hx with rfl | hx
                  · exact hgt
                  · exact HB.out x hx
              case measure => simp [intOf]
            · have hle : ∀ x ∈ out.take (k + 1), x ≤ rid := Ck.take_le HS.out HA.out (by omega)
              have HLE := Lib.hid hle
              clear hle
              go_wp2_with fail
              go_quiet (fail)
              go_wp2_with fail
              go_roundw
              case rel =>
                refine ⟨i + 1, by omega, by go_num, out.take (k + 1) ++ rid :: out.drop (k + 1), some ⟨g2, off2, none⟩, cap2, by rw [HLEN.out], by rw [HLEN.out]; exact (FIN.out _ ((Fr.refl _ _).drewN _) _ rfl).1, ?_, Ck.put_rising HS.out HLE.out HB.out, by rw [HLEN.out]; omega, (FIN.out _ ((Fr.refl _ _).drewN _) _ rfl).2, fun q e => ?_⟩
                · rw [HSU.out, hn, if_pos rfl]
                  refine List.perm_middle.trans ?_
                  rw [List.take_append_drop]
                  exact (HP.out.cons rid).trans (List.perm_append_singleton _ _).symm
                · injection e with e
                  subst e
                  exact hNg
              case measure => simp [intOf]; omega
    · go_wp2_with fail
      go_ret
      have hin : i = l.length := by omega
      have e : Ck.foundL l h = out := by
        unfold Ck.foundL
        refine Ck.sortI_eq ?_ HS.out
        rw [← Ck.nearIds_all, ← hin]; exact HP.out.symm
      refine ⟨A, cap, by rw [e]; rfl, by rw [e]; exact HR.out, hf, fun q => by rw [e]; exact HQ.out q⟩

end Go.Proofs.Ytjnidblfgdlgnaa
