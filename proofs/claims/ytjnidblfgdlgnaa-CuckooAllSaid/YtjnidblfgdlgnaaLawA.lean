/- Walks: the references' First, Tag, Other, Room. -/
import Derived.Test.YtjnidblfgdlgnaaCkC
namespace Go.Proofs.Ytjnidblfgdlgnaa
set_option linter.unusedVariables false
set_option linter.unusedSimpArgs false
open Go.RowKit

set_option maxHeartbeats 400000 in
theorem rfirst_any (h : Int) (w : World) (h0 : 0 ≤ h) (h1 : h < 18446744073709551616) :
    Calls Try.prog 61 #[.int .u64 h] w fun e w' => e = .returned (.int .i64 (Ck.fstB h)) ∧ w = w' := by
  go_enter Try.func61, Try.ntmps61
  go_wp2
  go_ret
  exact ⟨rfl, rfl⟩

set_option maxHeartbeats 400000 in
theorem rtag_any (h : Int) (w : World) (h0 : 0 ≤ h) (h1 : h < 18446744073709551616) :
    Calls Try.prog 63 #[.int .u64 h] w fun e w' => e = .returned (.int .i64 (Ck.tg h)) ∧ w = w' := by
  go_enter Try.func63, Try.ntmps63
  go_wp2
  go_ret
  exact ⟨rfl, rfl⟩

set_option maxHeartbeats 400000 in
theorem rother_in (b t : Int) (w : World) (hb0 : 0 ≤ b) (hb1 : b < 8) (ht0 : 0 ≤ t) (ht1 : t < 32768) :
    Calls Try.prog 62 #[.int .i64 b, .int .i64 t] w fun e w' => e = .returned (.int .i64 (Ck.oth b t)) ∧ w = w' := by
  go_enter Try.func62, Try.ntmps62
  go_wp2
  go_ret
  exact ⟨by rw [← xor_nat b t hb0 hb1 ht0 ht1]; rfl, rfl⟩

theorem rfirst_nat (h : Int) (w : World) (h0 : 0 ≤ h) (h1 : h < 18446744073709551616) :
    Calls Try.prog 61 #[.int .u64 h] w fun e w' => e = .returned (.int .i64 (Ck.b0 h : Nat)) ∧ w = w' := by
  rw [Ck.b0_cast]; exact rfirst_any h w h0 h1
theorem rother_nat (h : Int) (w : World) :
    Calls Try.prog 62 #[.int .i64 (Ck.b0 h : Nat), .int .i64 (Ck.tg h)] w fun e w' => e = .returned (.int .i64 (Ck.b1 h : Nat)) ∧ w = w' := by
  rw [Ck.b1_cast, Ck.b0_cast]
  have hb := Ck.fstB_bd h
  have ht := Ck.tg_bd h
  exact rother_in _ _ w hb.1 hb.2 ht.1 ht.2

theorem bit_val : ∀ s : Fin 256, ∀ b : Fin 8, bits .and .i64 (((s.val : Nat) : Int) / 2 ^ b.val) 1 = if s.val.testBit b.val then 1 else 0 := by decide +kernel
theorem bit_on {s b : Nat} (hs : s < 256) (hb : b < 8) (h : s.testBit b = true) : bits .and .i64 ((s : Int) / 2 ^ b) 1 = 1 := by
  have := bit_val ⟨s, hs⟩ ⟨b, hb⟩
  rw [h] at this
  exact this
theorem bit_off {s b : Nat} (hs : s < 256) (hb : b < 8) (h : s.testBit b = false) : bits .and .i64 ((s : Int) / 2 ^ b) 1 = 0 := by
  have := bit_val ⟨s, hs⟩ ⟨b, hb⟩
  rw [h] at this
  exact this

theorem both_eq (s : Nat) (h : Int) : Ck.both s h = (s.testBit (Ck.b0 h) && s.testBit (Ck.b1 h)) := rfl

set_option maxRecDepth 100000 in
set_option maxHeartbeats 4000000 in
theorem room_any (v : Value) (hs : List Int) (w : World) (hr : Rd w v hs.length 1 (hs.map (Value.int .u64))) (hb : ∀ h ∈ hs, 0 ≤ h ∧ h < 18446744073709551616) (hn : hs.length ≤ 100) :
    Calls Try.prog 18 #[v] w fun e w' => e = .returned (.bool (Ck.roomB hs)) ∧ w = w' := by
  obtain ⟨a, c, rfl, _⟩ := hr.form
  have HR := Lib.hid hr
  have HB := Lib.hid hb
  clear hr hb
  go_enter Try.func18, Try.ntmps18
  go_wp2_with fail
  go_loop [3] (fun v => ∃ s : Nat, s ≤ 256 ∧ v = .int .i64 s ∧ ∀ t, t < s → Ck.cnt t hs ≤ 4 * Ck.pop t) (fun v => 256 - (intOf v).toNat)
  case atStart => exact ⟨0, by omega, rfl, fun t ht => by omega⟩
  case round =>
    obtain ⟨s, hs256, rfl, hall⟩ := hrel
    have HALL := Lib.hid hall
    clear hall
    by_cases hlt : s < 256
    · go_wp2_with fail
      go_loop [5, 6] (fun r v => ∃ b : Nat, b ≤ 8 ∧ v = .int .i64 b ∧ r = .int .i64 (4 * (List.range b).countP (fun x => s.testBit x) : Nat)) (fun _ v => 8 - (intOf v).toNat)
      case atStart => exact ⟨0, by omega, rfl, rfl⟩
      case round =>
        obtain ⟨b, hb8, rfl, rfl⟩ := hrel
        have hcl : (List.range b).countP (fun x => s.testBit x) ≤ b := by have := List.countP_le_length (p := fun x => s.testBit x) (l := List.range b); rwa [List.length_range] at this
        have hsucc : (List.range (b + 1)).countP (fun x => s.testBit x) = (List.range b).countP (fun x => s.testBit x) + if s.testBit b then 1 else 0 := by
          rw [List.range_succ, List.countP_append, List.countP_singleton]
        by_cases hlb : b < 8
        · cases htb : s.testBit b
          · have hbit := bit_off hlt hlb htb
            rw [htb] at hsucc
            have HS := Lib.hid hsucc
            clear hsucc htb
            generalize (List.range b).countP (fun x => s.testBit x) = cp at *
            go_wp2_with fail
            go_round
            case rel => exact ⟨b + 1, by omega, by go_num, by rw [HS.out]; go_num⟩
            case measure => simp [intOf]; omega
          · have hbit := bit_on hlt hlb htb
            rw [htb] at hsucc
            have HS := Lib.hid hsucc
            clear hsucc htb
            generalize (List.range b).countP (fun x => s.testBit x) = cp at *
            go_wp2_with fail
            go_round
            case rel => exact ⟨b + 1, by omega, by go_num, by rw [HS.out]; go_num⟩
            case measure => simp [intOf]; omega
        · have hb8' : b = 8 := by omega
          have hpop : (List.range b).countP (fun x => s.testBit x) = Ck.pop s := by rw [hb8']; rfl
          rw [hpop] at hcl
          have hpp : Ck.pop s ≤ 8 := by omega
          rw [hpop]
          clear hsucc hpop hb8' hcl
          go_wp2_with fail
          go_loop [4, 7] (fun c v => ∃ i : Nat, i ≤ hs.length ∧ v = .int .i64 i ∧ c = .int .i64 (((hs.take i).countP (Ck.both s) : Nat) : Int)) (fun _ v => hs.length - (intOf v).toNat)
          case atStart => exact ⟨0, by omega, rfl, rfl⟩
          case round =>
            obtain ⟨i, hi, rfl, rfl⟩ := hrel
            have hcl : (hs.take i).countP (Ck.both s) ≤ i := Nat.le_trans List.countP_le_length (by rw [List.length_take]; omega)
            by_cases hli : i < hs.length
            · obtain ⟨h, hh⟩ : ∃ h, hs[i]? = some h := ⟨_, List.getElem?_eq_getElem hli⟩
              obtain ⟨h0, h1⟩ := HB.out h (List.mem_of_getElem? hh)
              have hsucc : (hs.take (i + 1)).countP (Ck.both s) = (hs.take i).countP (Ck.both s) + if Ck.both s h then 1 else 0 := by
                rw [List.take_add_one, hh, List.countP_append]
                simp [List.countP_singleton]
              obtain ⟨bb, off, c2, hv, hc1, hcell⟩ := HR.out.addr (by omega)
              · injection hv with e1 e2 e3
                subst e1 e3
                have c0 : w.cell? ⟨bb, off + i, none⟩ = some (.int .u64 h) := hcell i _ (by rw [List.getElem?_map, hh]; rfl)
                clear hcell hh
                have h8 := Ck.b0_lt h
                have h9 := Ck.b1_lt h
                rw [both_eq] at hsucc
                have HS := Lib.hid hsucc
                clear hsucc
                generalize (hs.take i).countP (Ck.both s) = cp at *
                cases ht0 : s.testBit (Ck.b0 h)
                · have k0 := bit_off hlt h8 ht0
                  have HT := Lib.hid ht0
                  clear ht0
                  go_wp2_with (first | (go_at_call 61; refine (rfirst_nat _ _ h0 h1).mono ?_; rintro e w' ⟨rfl, rfl⟩) | (go_at_call 63; refine (rtag_any _ _ h0 h1).mono ?_; rintro e w' ⟨rfl, rfl⟩) | (go_at_call 62; refine (rother_nat h _).mono ?_; rintro e w' ⟨rfl, rfl⟩))
                  go_round
                  case rel => exact ⟨i + 1, by omega, by go_num, by rw [HS.out, HT.out]; go_num⟩
                  case measure => simp [intOf]; omega
                · have k0 := bit_on hlt h8 ht0
                  have HT := Lib.hid ht0
                  clear ht0
                  cases ht1 : s.testBit (Ck.b1 h)
                  · have k1 := bit_off hlt h9 ht1
                    have HT1 := Lib.hid ht1
                    clear ht1
                    go_wp2_with (first | (go_at_call 61; refine (rfirst_nat _ _ h0 h1).mono ?_; rintro e w' ⟨rfl, rfl⟩) | (go_at_call 63; refine (rtag_any _ _ h0 h1).mono ?_; rintro e w' ⟨rfl, rfl⟩) | (go_at_call 62; refine (rother_nat h _).mono ?_; rintro e w' ⟨rfl, rfl⟩))
                    go_round
                    case rel => exact ⟨i + 1, by omega, by go_num, by rw [HS.out, HT.out, HT1.out]; go_num⟩
                    case measure => simp [intOf]; omega
                  · have k1 := bit_on hlt h9 ht1
                    have HT1 := Lib.hid ht1
                    clear ht1
                    go_wp2_with (first | (go_at_call 61; refine (rfirst_nat _ _ h0 h1).mono ?_; rintro e w' ⟨rfl, rfl⟩) | (go_at_call 63; refine (rtag_any _ _ h0 h1).mono ?_; rintro e w' ⟨rfl, rfl⟩) | (go_at_call 62; refine (rother_nat h _).mono ?_; rintro e w' ⟨rfl, rfl⟩))
                    go_round
                    case rel => exact ⟨i + 1, by omega, by go_num, by rw [HS.out, HT.out, HT1.out]; go_num⟩
                    case measure => simp [intOf]; omega
            · have hin : (hs.take i).countP (Ck.both s) = Ck.cnt s hs := by rw [List.take_of_length_le (by omega)]; rfl
              rw [hin] at hcl ⊢
              clear hin
              generalize hcp : Ck.cnt s hs = cp at *
              generalize hpo : Ck.pop s = po at *
              have HCP := Lib.hid hcp
              have HPO := Lib.hid hpo
              clear hcp hpo
              by_cases hgt : 4 * po < cp
              · go_wp2_with fail
                go_ret
                refine ⟨?_, rfl⟩
                have : Ck.roomB hs = false := Ck.roomB_no fun hr => by have := hr s hlt; rw [HCP.out, HPO.out] at this; omega
                rw [this]; rfl
              · go_wp2_with fail
                go_round
                case rel => exact ⟨s + 1, by omega, by go_num, fun t ht => by
                  by_cases e : t = s
                  · rw [e, HCP.out, HPO.out]; omega
                  · exact HALL.out t (by omega)⟩
                case measure => simp [intOf]; omega
    · go_wp2_with fail
      go_ret
      have : Ck.roomB hs = true := (Ck.roomB_iff hs).2 fun t ht => HALL.out t (by omega)
      exact ⟨by rw [this]; rfl, rfl⟩

end Go.Proofs.Ytjnidblfgdlgnaa
