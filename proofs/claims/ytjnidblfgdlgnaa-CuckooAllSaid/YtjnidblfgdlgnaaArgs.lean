/- What comes in as an argument: slices, whatever their elements, read as cells. No program in sight. -/
import Derived.Test.YtjnidblfgdlgnaaBase
import Derived.ProofKit
import Derived.OpenShut
import Derived.Deep.Slices
import Derived.Deep.Fields
import Derived.ChangeSame
namespace Go.Proofs.Ytjnidblfgdlgnaa
set_option linter.unusedVariables false
set_option linter.unusedSimpArgs false
open Go.RowKit Go.ChangeShapes Go.WideShapes Go.Deep

section
variable {H : Type} {enc : TypeId × Value → H} {P : Program} {W : World} {base : Nat} {sp : Nat → Bool} {held : Bool}

/-- A slice of elements that read, each, as sz cells f x. -/
theorem rd_slice {α : Type} (f : α → List Value) (ok : α → Prop) {t e : TypeId} {sz : Nat} (hsz : 0 < sz) (ht : P.underlying t = some (.slice e)) (hc : P.cellsOf e = sz)
    (hel : ∀ (n : Nat) (cs : List Value) (y : DataW H × List MemPlace), DataW.trod enc P W base sp held n e cs = some y → ∃ x, cs = f x ∧ ok x) (hf : ∀ x, (f x).length = sz)
    {A : Option Addr} {len cap : Nat} {d : DataW H} {p : List MemPlace} (h : DataW.Trod enc P W base sp held t (.slice A len cap) d p) :
    ∃ xs : List α, Rd W (.slice A len cap) xs.length sz (xs.flatMap f) ∧ ∀ x ∈ xs, ok x := by
  obtain ⟨fuel, h⟩ := h
  rcases open_slice ht h with ⟨hcs, _⟩ | ⟨a, len', cap', m, n, D, Pl, hcs, hb, hl, hm, hmm, hx, hi⟩
  · simp [Value.cells] at hcs
    obtain ⟨rfl, rfl, rfl⟩ := hcs
    exact ⟨[], ⟨by simp, by simp [maxLen], .inl ⟨rfl, none, 0, rfl⟩⟩, fun x hx => by cases hx⟩
  · simp [Value.cells] at hcs
    obtain ⟨rfl, rfl, rfl⟩ := hcs
    have hlm : len ≤ m := by rw [hmm]; split <;> omega
    have key : ∀ k, k ≤ len → ∃ xs : List α, xs.length = k ∧ (∀ x ∈ xs, ok x) ∧ ∀ i x, xs[i]? = some x → ∀ j, j < sz → W.cell? ((a.add (i * sz)).add j) = (f x)[j]? := by
      intro k
      induction k with
      | zero => intro _; exact ⟨[], rfl, (fun x hx => by cases hx), fun i x hx => by simp at hx⟩
      | succ k ih =>
        intro hk
        obtain ⟨xs, h1, h2, h3⟩ := ih (by omega)
        obtain ⟨cs', hcells, htrod⟩ := hi k (by omega)
        obtain ⟨x, rfl, hok⟩ := hel n cs' _ htrod
        rw [hc] at hcells
        obtain ⟨_, _, hat⟩ := World.cells?_some hcells
        refine ⟨xs ++ [x], by simp [h1], fun y hy => ?_, fun i y hy j hj => ?_⟩
        · rcases List.mem_append.1 hy with hy | hy
          · exact h2 y hy
          · rw [List.mem_singleton.1 hy]; exact hok
        · by_cases hik : i < k
          · rw [List.getElem?_append_left (by omega)] at hy
            exact h3 i y hy j hj
          · rw [List.getElem?_append_right (by omega)] at hy
            have : i = k := by have := (List.getElem?_eq_some_iff.1 hy).1; simp at this; omega
            subst this
            simp [h1] at hy
            subst hy
            exact hat j hj
    obtain ⟨xs, h1, h2, h3⟩ := key len (Nat.le_refl _)
    subst h1
    refine ⟨xs, ⟨length_flat f sz hf xs, by omega, ?_⟩, h2⟩
    by_cases h0 : xs.length = 0
    · exact .inl ⟨h0, some a, cap, by rw [h0]⟩
    · refine .inr ?_
      obtain ⟨x0, hx0⟩ : ∃ x, xs[0]? = some x := ⟨_, List.getElem?_eq_getElem (by omega)⟩
      have hc0 := h3 0 x0 hx0 0 hsz
      have hz : ∃ u, (f x0)[0]? = some u := ⟨_, List.getElem?_eq_getElem (by rw [hf]; exact hsz)⟩
      obtain ⟨u, hu⟩ := hz
      rw [hu, Nat.zero_mul] at hc0
      have haa : (a.add 0).add 0 = a := by simp [Addr.add]
      rw [haa] at hc0
      obtain ⟨b, off, spot⟩ := a
      have hs : spot = none := by
        cases spot with
        | none => rfl
        | some s => simp [World.cell?] at hc0; split at hc0 <;> simp at hc0
      subst hs
      refine ⟨b, off, cap, rfl, hl, hm, fun _ => World.block_lt_of_cell? W _ hc0, fun j v hv => ?_⟩
      have hj : j < xs.length * sz := by have := (List.getElem?_eq_some_iff.1 hv).1; rwa [length_flat f sz hf] at this
      have e : j = j / sz * sz + j % sz := by rw [Nat.mul_comm]; exact (Nat.div_add_mod j sz).symm
      have hjm := Nat.mod_lt j hsz
      have hi2 : j / sz < xs.length := (Nat.div_lt_iff_lt_mul hsz).2 hj
      rw [e, getElem?_flat f sz hf hjm, List.getElem?_eq_getElem hi2, Option.bind_some] at hv
      have := h3 (j / sz) _ (List.getElem?_eq_getElem hi2) (j % sz) hjm
      rw [hv, add_eq, add_eq, Nat.add_assoc, ← e] at this
      exact this

/-- A slice of numbers that came in. -/
def RdInts (k : IntKind) (w : World) (v : Value) (zs : List Int) : Prop := Rd w v zs.length 1 (zs.map (Value.int k)) ∧ ∀ z ∈ zs, (Lit.int k z).wf = true

theorem rd_ints {k : IntKind} {t e : TypeId} (ht : P.underlying t = some (.slice e)) (he : P.underlying e = some (.int k)) (hc : P.cellsOf e = 1)
    {A : Option Addr} {len cap : Nat} {d : DataW H} {p : List MemPlace} (h : DataW.Trod enc P W base sp held t (.slice A len cap) d p) :
    ∃ zs, RdInts k W (.slice A len cap) zs := by
  obtain ⟨xs, h1, h2⟩ := rd_slice (fun z : Int => [Value.int k z]) (fun z => (Lit.int k z).wf = true) (sz := 1) (by omega) ht hc (fun n cs y hy => by
    obtain ⟨z, rfl, _, hw⟩ := DataW.trod_int he hy
    exact ⟨z, rfl, hw⟩) (fun _ => rfl) h
  refine ⟨xs, ?_, h2⟩
  have e : xs.flatMap (fun z : Int => [Value.int k z]) = xs.map (Value.int k) := by
    clear h1 h2
    induction xs with
    | nil => rfl
    | cons a xs ih => rw [List.flatMap_cons, ih]; rfl
  rwa [e] at h1

/-- An element of four fields, a cell each. -/
theorem el4 {e : TypeId} {f0 f1 f2 f3 : Field} (hs : P.underlying e = some (.struct #[f0, f1, f2, f3])) (hone : oneCellFields P #[f0, f1, f2, f3] = true) (hC : P.cellsOf e = 4)
    {n : Nat} {cs : List Value} {y : DataW H × List MemPlace} (h : DataW.trod enc P W base sp held n e cs = some y) :
    ∃ (v0 v1 v2 v3 : Value) (y0 y1 y2 y3 : DataW H × List MemPlace) (m : Nat), cs = [v0, v1, v2, v3] ∧
      DataW.trod enc P W base sp held m f0.type [v0] = some y0 ∧ DataW.trod enc P W base sp held m f1.type [v1] = some y1 ∧ DataW.trod enc P W base sp held m f2.type [v2] = some y2 ∧ DataW.trod enc P W base sp held m f3.type [v3] = some y3 := by
  obtain ⟨xs, m, _, _, hl, hlen, hg⟩ := DataW.trod_struct hs h
  rw [hC] at hl
  obtain ⟨o0, k0⟩ := hone_of hone 0 f0 rfl
  obtain ⟨o1, k1⟩ := hone_of hone 1 f1 rfl
  obtain ⟨o2, k2⟩ := hone_of hone 2 f2 rfl
  obtain ⟨o3, k3⟩ := hone_of hone 3 f3 rfl
  match cs, hl with
  | [c0, c1, c2, c3], _ =>
    match xs, hlen with
    | [y0, y1, y2, y3], _ =>
      exact ⟨c0, c1, c2, c3, y0, y1, y2, y3, m, rfl, by simpa [o0, k0] using hg 0 f0 rfl, by simpa [o1, k1] using hg 1 f1 rfl, by simpa [o2, k2] using hg 2 f2 rfl, by simpa [o3, k3] using hg 3 f3 rfl⟩
end

/-- A slice that is read, cut at its length. -/
theorem Rd.take {w : World} {A : Option Addr} {n c sz m : Nat} {xs : List Value} (h : Rd w (.slice A n c) n sz xs) (hm : m ≤ n) : Rd w (.slice A m c) m sz (xs.take (m * sz)) := by
  obtain ⟨h1, h2, h3⟩ := h
  refine ⟨by rw [List.length_take, h1]; exact Nat.min_eq_left (Nat.mul_le_mul_right _ hm), by omega, ?_⟩
  rcases h3 with ⟨hn, a, c', hv⟩ | ⟨b, off, c', hv, q1, q2, q3, q4⟩
  · obtain rfl : m = 0 := by omega
    exact .inl ⟨rfl, A, c, rfl⟩
  · injection hv with e1 e2 e3
    subst e1 e3
    refine .inr ⟨b, off, c, rfl, by omega, q2, fun hp => q3 (by rw [List.length_take] at hp; omega), fun j u hu => ?_⟩
    rw [List.getElem?_take] at hu
    split at hu
    · exact q4 j u hu
    · cases hu
end Go.Proofs.Ytjnidblfgdlgnaa
