/- Set in the words of what is there. -/
import Derived.Test.YtjnidblfgdlgnaaCkC
namespace Go.Proofs.Ytjnidblfgdlgnaa
set_option linter.unusedVariables false
set_option linter.unusedSimpArgs false
open Go.RowKit
namespace Ck

def meant (h old : Int) (r : Ref) : Bool := r.2 == old && near h r.1
def setB (l : List Ref) (h old id : Int) : Bool := mayB id && l.any (meant h old)
def setL (l : List Ref) (h old id : Int) : List Ref := if mayB id then l.map fun r => if meant h old r then (r.1, id) else r else l

theorem mem_occ {D : Nat → Ent} {p : Place} (h : p ∈ occ D) : ∃ k, k < 32 ∧ (D k).has = true ∧ p = (((k / 4 : Nat) : Int), (D k).id, (D k).tag) := by
  obtain ⟨k, hk, hp⟩ := List.mem_flatMap.1 h
  unfold place at hp
  split at hp
  · rename_i hh
    exact ⟨k, List.mem_range.1 hk, hh, List.mem_singleton.1 hp⟩
  · cases hp

theorem exists_sq {h : Int} {k : Nat} (hk : k < 32) (hb : k / 4 = b0 h ∨ k / 4 = b1 h) : ∃ j, j < 8 ∧ sq h j = k := by
  have hm : k ∈ (List.range 32).filter fun k => k / 4 == b0 h || k / 4 == b1 h := List.mem_filter.2 ⟨List.mem_range.2 hk, by simpa using hb⟩
  obtain ⟨j, hj, e⟩ := List.mem_map.1 ((sq_perm h).symm.subset hm)
  exact ⟨j, List.mem_range.1 hj, e⟩

/-- Who is meant by h under an old number lies in a slot that is looked at. -/
theorem hit_of_meant {D : Nat → Ent} {l : List Ref} (hl : Lays D l) {h old id : Int} (hm : mayB id = true) {r : Ref} (hr : r ∈ l) (he : meant h old r = true) : ∃ j, j < 8 ∧ SetHit D h old id j = true := by
  obtain ⟨qs, h1, h2, h3⟩ := hl.1
  obtain ⟨q, hq, rfl⟩ := List.mem_map.1 (h2.symm.subset hr)
  have hp : q.1 ∈ occ D := h1.subset (List.mem_map.2 ⟨q, hq, rfl⟩)
  obtain ⟨k, hk, hh, e⟩ := mem_occ hp
  have hf := h3 q hq
  simp only [meant, Bool.and_eq_true, beq_iff_eq] at he
  have hn := near_of_fits (h := h) hf
  rw [he.2, e] at hn
  unfold nearP at hn
  simp only [Bool.and_eq_true, Bool.or_eq_true, beq_iff_eq] at hn
  have c0 := b0_cast h
  have c1 := b1_cast h
  obtain ⟨j, hj, es⟩ := exists_sq (h := h) hk (by omega)
  refine ⟨j, hj, ?_⟩
  unfold SetHit hit
  rw [es, hh, hm]
  have hid := hf.1
  rw [e] at hid
  simp only [hn.1, BEq.rfl, Bool.and_true, Bool.true_and, beq_iff_eq]
  rw [← he.1, ← hid]

theorem map_none (l : List Ref) (f : Ref → Bool) (g : Ref → Ref) (h : ∀ r ∈ l, f r = false) : (l.map fun r => if f r then g r else r) = l := by
  induction l with
  | nil => rfl
  | cons a l ih => rw [List.map_cons, h a List.mem_cons_self, ih fun r hr => h r (List.mem_cons_of_mem _ hr)]; rfl

theorem lays_set {D : Nat → Ent} {l : List Ref} (hl : Lays D l) {h old id : Int} {j : Nat} (hh : SetHit D h old id j = true) (hone : l.countP (meant h old) ≤ 1) :
    Lays (upd D (sq h j) ⟨true, id, (D (sq h j)).tag⟩) (setL l h old id) ∧ l.any (meant h old) = true := by
  have hk := sq_lt h j
  unfold SetHit hit at hh
  simp only [Bool.and_eq_true, beq_iff_eq] at hh
  obtain ⟨⟨⟨hhas, htag⟩, hid⟩, hm⟩ := hh
  have p1 := occ_split D hk
  rw [place_has hhas] at p1
  obtain ⟨r, l', hr, hf, hmat⟩ := Matched.unL (hl.1.left p1)
  have p2 := occ_upd D hk ⟨true, id, (D (sq h j)).tag⟩
  rw [place_has rfl] at p2
  have hb : ((sq h j / 4 : Nat) : Int) = fstB h ∨ ((sq h j / 4 : Nat) : Int) = oth (fstB h) (tg h) := by
    have c0 := b0_cast h
    have c1 := b1_cast h
    unfold sq bN
    split <;> omega
  have hmeant : meant h old r = true := by
    unfold meant
    rw [← near_of_fits (h := h) hf, ← hf.1]
    unfold nearP
    simp only [hid, htag, BEq.rfl, Bool.true_and, Bool.or_eq_true, beq_iff_eq]
    exact hb
  have hrest : ∀ x ∈ l', meant h old x = false := by
    rw [hr.countP_eq, List.countP_cons, hmeant] at hone
    simp only [if_true] at hone
    have h0 : l'.countP (meant h old) = 0 := by omega
    intro x hx
    have := List.countP_eq_zero.1 h0 x hx
    simpa using this
  have hset : (setL l h old id).Perm ((r.1, id) :: l') := by
    unfold setL
    rw [hm, if_pos rfl]
    refine (hr.map _).trans ?_
    rw [List.map_cons, hmeant, if_pos rfl, map_none _ _ _ hrest]
  refine ⟨⟨((hmat.cons (p := (((sq h j / 4 : Nat) : Int), id, (D (sq h j)).tag)) (r := (r.1, id)) ⟨rfl, hf.2.1, hf.2.2⟩).left p2.symm).right hset.symm, fun i hi hf2 => ?_⟩, ?_⟩
  · by_cases hik : i = sq h j
    · subst hik; rw [upd_same] at hf2; cases hf2
    · rw [upd_ne _ _ hik] at hf2 ⊢; exact hl.2 i hi hf2
  · rw [List.any_eq_true]
    exact ⟨r, hr.symm.subset List.mem_cons_self, hmeant⟩

theorem setL_len (l : List Ref) (h old id : Int) : (setL l h old id).length = l.length := by
  unfold setL; split <;> simp

end Ck

theorem set_dir (g : Nat) (l : List Ck.Ref) (h old id : Int) (w : World) (h0 : 0 ≤ h) (h1 : h < 18446744073709551616) (hd : DirL w g l) (hone : l.countP (Ck.meant h old) ≤ 1) :
    Calls Try.prog 21 #[.pointer (some ⟨g, 0, none⟩), .int .u64 h, .int .i64 old, .int .i64 id] w fun e w' => e = .returned (.bool (Ck.setB l h old id)) ∧ DirL w' g (Ck.setL l h old id) ∧ Fr (At1 g) w w' := by
  obtain ⟨D, h2, h3⟩ := hd
  refine (set_any g D _ h old id w h0 h1 h2).mono ?_
  rintro e w' (⟨j, hj, hh, hno, rfl, hd', hf⟩ | ⟨hno, rfl, hf⟩)
  · obtain ⟨q1, q2⟩ := Ck.lays_set h3 hh hone
    have hm : mayB id = true := by
      unfold SetHit at hh
      simp only [Bool.and_eq_true] at hh
      exact hh.2
    refine ⟨by unfold Ck.setB; rw [hm, q2]; rfl, ⟨_, by rw [Ck.setL_len]; exact hd', q1⟩, hf⟩
  · cases hm : mayB id
    · have e : Ck.setL l h old id = l := by unfold Ck.setL; rw [hm]; rfl
      refine ⟨by unfold Ck.setB; rw [hm]; rfl, ?_, hf.mono fun _ _ x => x.elim⟩
      rw [e]
      exact ⟨D, h2.no hf, h3⟩
    · have hn : ∀ r ∈ l, Ck.meant h old r = false := fun r hr => by
        cases he : Ck.meant h old r
        · rfl
        · obtain ⟨j, hj, hh⟩ := Ck.hit_of_meant (id := id) h3 hm hr he
          rw [hno j hj] at hh; cases hh
      have ha : l.any (Ck.meant h old) = false := by
        rw [List.any_eq_false]
        intro r hr
        rw [hn r hr]; exact Bool.false_ne_true
      have e : Ck.setL l h old id = l := by unfold Ck.setL; rw [hm, if_pos rfl]; exact Ck.map_none _ _ _ hn
      refine ⟨by unfold Ck.setB; rw [ha, Bool.and_false], ?_, hf.mono fun _ _ x => x.elim⟩
      rw [e]
      exact ⟨D, h2.no hf, h3⟩

end Go.Proofs.Ytjnidblfgdlgnaa
