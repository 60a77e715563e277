/- The walk of CuckooOrder, whole. -/
import Derived.Test.YtjnidblfgdlgnaaLawD
import Derived.DataShut
namespace Go.Proofs.Ytjnidblfgdlgnaa
set_option linter.unusedVariables false
set_option linter.unusedSimpArgs false
open Go.RowKit

set_option maxHeartbeats 1000000 in
theorem order_out (turn : Int) (a : Option Addr) (m c : Nat) (w : World) (hmc : m ≤ c) (h : turn < 0 ∨ m = 0) :
    Calls Try.prog 3 #[.slice a m c, .int .i64 turn] w fun e w' => e = .returned (.bool true) ∧ Fr No w w' := by
  by_cases h0 : m = 0
  · subst h0
    clear h
    go_enter Try.func3, Try.ntmps3
    go_wp2_with (first | (go_at_call 15; refine (begun17_any _).mono ?_; rintro e w1 ⟨rfl, hf0⟩))
    go_ret
    exact ⟨rfl, hf0⟩
  · have h1 : turn < 0 := by omega
    clear h
    have i3 : (((m : Nat) : Int) == 0) = false := by simp; omega
    by_cases h34 : 34 < ((m : Nat) : Int)
    · have hc34 : 34 ≤ c := by omega
      go_enter Try.func3, Try.ntmps3
      go_wp2_with (first | (go_at_call 15; refine (begun17_any _).mono ?_; rintro e w1 ⟨rfl, hf0⟩))
      go_ret
      exact ⟨rfl, hf0⟩
    · go_enter Try.func3, Try.ntmps3
      go_wp2_with (first | (go_at_call 15; refine (begun17_any _).mono ?_; rintro e w1 ⟨rfl, hf0⟩))
      go_ret
      exact ⟨rfl, hf0⟩

theorem u64_bd {z : Int} (h : (Lit.int .u64 z).wf = true) : 0 ≤ z ∧ z < 18446744073709551616 := by
  obtain ⟨h1, h2⟩ := (Lit.wf_int_iff .u64 z).1 h
  rw [show IntKind.u64.min = 0 from rfl] at h1
  rw [show IntKind.u64.max = 18446744073709551615 from rfl] at h2
  omega

theorem cuckooOrder_walk (w : World) (v : Value) (zs : List Int) (h : RdInts .u64 w v zs) (turn : Int) (_wt : (Lit.int .i64 turn).wf = true) :
    Calls Try.prog 3 #[v, .int .i64 turn] w fun e w' => e = .returned (.bool true) ∧ Below w.heap.size w w' := by
  obtain ⟨hr, hb⟩ := h
  obtain ⟨a, c, rfl, hc⟩ := hr.form
  by_cases h1 : turn < 0 ∨ zs.length = 0
  · exact (order_out turn a zs.length c w hc h1).mono fun _ _ ⟨h1, h2⟩ => ⟨h1, h2.below⟩
  · obtain ⟨T, rfl⟩ := Int.eq_ofNat_of_zero_le (show 0 ≤ turn by omega)
    by_cases h2 : 34 < zs.length
    · exact (order_long T c a zs zs.length w hr rfl hc h2 fun x hx => u64_bd (hb x hx)).mono fun _ _ ⟨h1, h2⟩ => ⟨h1, h2.below⟩
    · exact (order_short zs.length T c a zs w hr rfl (by omega) (by omega) (fun x hx => u64_bd (hb x hx)) (by
        have := (Lit.wf_int_iff .i64 (T : Int)).1 _wt
        rw [show IntKind.i64.max = 9223372036854775807 from rfl] at this
        omega)).mono fun _ _ ⟨h1, h2⟩ => ⟨h1, h2.below⟩

end Go.Proofs.Ytjnidblfgdlgnaa
