/- The walk of CuckooAll, whole. -/
import Derived.Test.YtjnidblfgdlgnaaLawG
import Derived.DataShut
namespace Go.Proofs.Ytjnidblfgdlgnaa
set_option linter.unusedVariables false
set_option linter.unusedSimpArgs false
open Go.RowKit Go.ChangeShapes Go.WideShapes Go.Deep

def RdOps (w : World) (v : Value) (os : List OpV) : Prop := Rd w v os.length 4 (os.flatMap opCs) ∧ ∀ o ∈ os, (Lit.int .u64 o.h).wf = true

set_option maxRecDepth 100000 in
theorem rd_ops {H : Type} {enc : TypeId × Value → H} {W : World} {sp : Nat → Bool} {held : Bool} {r : Reach} {b0 : Nat} {v : Value} {d : DataW H} {p : List MemPlace}
    (hv : Value.okWide Try.prog W r b0 32 v) (h : DataW.Trod enc Try.prog W 0 sp held 32 v d p) : ∃ os, RdOps W v os := by
  obtain ⟨A, len, cap, rfl⟩ := okWide_slice Try.underlying32 hv
  exact rd_slice opCs (fun o => (Lit.int .u64 o.h).wf = true) (sz := 4) (by omega) Try.underlying32 (by kernel_rfl) (fun n cs y hy => by
    obtain ⟨v0, v1, v2, v3, y0, y1, y2, y3, m, rfl, h0, h1, h2, h3⟩ := el4 Try.underlying35 (by kernel_rfl) (by kernel_rfl) hy
    obtain ⟨z0, e0, _, w0⟩ := DataW.trod_int Try.underlying3 h0
    obtain ⟨z1, e1, _, w1⟩ := DataW.trod_int Try.underlying3 h1
    obtain ⟨z2, e2, _, w2⟩ := DataW.trod_int Try.underlying3 h2
    obtain ⟨z3, e3, _, w3⟩ := DataW.trod_int Try.underlying27 h3
    injection e0 with e0; injection e1 with e1; injection e2 with e2; injection e3 with e3
    subst e0 e1 e2 e3
    exact ⟨⟨z0, z1, z2, z3⟩, rfl, w3⟩) opCs_len h

theorem u64_in {z : Int} (h : (Lit.int .u64 z).wf = true) : 0 ≤ z ∧ z < 18446744073709551616 := by
  obtain ⟨h1, h2⟩ := (Lit.wf_int_iff .u64 z).1 h
  rw [show IntKind.u64.min = 0 from rfl] at h1
  rw [show IntKind.u64.max = 18446744073709551615 from rfl] at h2
  omega

theorem cuckooAll_walk (w : World) (v : Value) (os : List OpV) (h : RdOps w v os) :
    Calls Try.prog 5 #[v] w fun e w' => e = .returned (.bool true) ∧ Below w.heap.size w w' := by
  obtain ⟨hr, hb⟩ := h
  obtain ⟨a, c, rfl, hc⟩ := hr.form
  exact (all_in os.length c a os w hr rfl fun o ho => u64_in (hb o ho)).mono fun _ _ ⟨h1, h2⟩ => ⟨h1, h2.below⟩

end Go.Proofs.Ytjnidblfgdlgnaa
