/- Plain facts for layer 17's laws: orders of laying; which entry is struck out where several fit a place; numbers kept rising. No program in sight. -/
import Derived.Test.YtjnidblfgdlgnaaCkD
namespace Go.Proofs.Ytjnidblfgdlgnaa
set_option linter.unusedVariables false
set_option linter.unusedSimpArgs false
open Go.RowKit
namespace Ck

/-! ### orders -/
def kk (n t j : Nat) : Nat := (n - 1 - j + t) % n
def refA (hs : List Int) (i : Nat) : List Ref := (List.range i).map fun (j : Nat) => ((hs.getD j 0, (j : Int)) : Ref)
def refB (hs : List Int) (t i : Nat) : List Ref := (List.range i).map fun (j : Nat) => ((hs.getD (kk hs.length t j) 0, ((kk hs.length t j : Nat) : Int)) : Ref)

theorem refA_succ (hs : List Int) (i : Nat) : refA hs (i + 1) = refA hs i ++ [(hs.getD i 0, (i : Int))] := by
  unfold refA; rw [List.range_succ, List.map_append]; rfl
theorem refB_succ (hs : List Int) (t i : Nat) : refB hs t (i + 1) = refB hs t i ++ [(hs.getD (kk hs.length t i) 0, ((kk hs.length t i : Nat) : Int))] := by
  unfold refB; rw [List.range_succ, List.map_append]; rfl

theorem kk_lt {n t j : Nat} (h : 0 < n) : kk n t j < n := Nat.mod_lt _ h

theorem kk_perm (n t : Nat) (ht : t < n) : ((List.range n).map (kk n t)).Perm (List.range n) := by
  have e1 : (List.range n).map (kk n t) = (List.range t).reverse ++ ((List.range (n - t)).map (t + ·)).reverse := by
    apply List.ext_getElem
    · simp; omega
    · intro i h1 h2
      have hi : i < n := by simpa using h1
      rw [List.getElem_append, List.getElem_map, List.getElem_range]
      unfold kk
      split
      · rename_i hlt
        have hlt' : i < t := by simpa using hlt
        rw [List.getElem_reverse, List.getElem_range, List.length_range]
        rw [show n - 1 - i + t = (t - 1 - i) + n by omega, Nat.add_mod_right, Nat.mod_eq_of_lt (by omega)]
      · rename_i hlt
        have hlt' : ¬ i < t := by simpa using hlt
        rw [List.getElem_reverse, List.getElem_map, List.getElem_range]
        simp only [List.length_map, List.length_range, List.length_reverse]
        rw [Nat.mod_eq_of_lt (by omega)]
        omega
  rw [e1]
  refine ((List.reverse_perm _).append (List.reverse_perm _)).trans ?_
  have e2 : List.range n = List.range t ++ (List.range (n - t)).map (t + ·) := by
    rw [← List.range_add, show t + (n - t) = n by omega]
  rw [← e2]

theorem map_getD (hs : List Int) : (List.range hs.length).map (fun j => hs.getD j 0) = hs := by
  apply List.ext_getElem
  · simp
  · intro i h1 h2
    simp [List.getElem?_eq_getElem h2]

theorem refA_fst (hs : List Int) : (refA hs hs.length).map Prod.fst = hs := by
  unfold refA
  rw [List.map_map]
  exact map_getD hs

theorem refB_fst (hs : List Int) (t : Nat) (ht : t < hs.length) : ((refB hs t hs.length).map Prod.fst).Perm hs := by
  have e : (refB hs t hs.length).map Prod.fst = ((List.range hs.length).map (kk hs.length t)).map fun j => hs.getD j 0 := by
    unfold refB
    rw [List.map_map, List.map_map]; rfl
  rw [e]
  have := (kk_perm hs.length t ht).map fun j => hs.getD j 0
  rwa [map_getD] at this

theorem room_nil : Room [] := fun set _ => by simp [cnt]

theorem ord_A (hs : List Int) (hn : hs.length ≤ 100) : okAll [] (refA hs hs.length) = roomB hs ∧ (roomB hs = true → (insAll [] (refA hs hs.length)).length = hs.length) := by
  have := okAll_room (refA hs hs.length) [] room_nil (fun r hr => by
    unfold refA at hr
    obtain ⟨j, hj, rfl⟩ := List.mem_map.1 hr
    have := List.mem_range.1 hj
    exact decide_eq_true ⟨by omega, by omega⟩)
  rw [refA_fst, List.map_nil, List.nil_append] at this
  refine ⟨this.1, fun h => ?_⟩
  rw [this.2 (by rw [this.1]; exact h)]
  simp [refA]

theorem ord_B (hs : List Int) (t : Nat) (ht : t < hs.length) (hn : hs.length ≤ 100) : okAll [] (refB hs t hs.length) = roomB hs ∧ (roomB hs = true → (insAll [] (refB hs t hs.length)).length = hs.length) := by
  have := okAll_room (refB hs t hs.length) [] room_nil (fun r hr => by
    unfold refB at hr
    obtain ⟨j, hj, rfl⟩ := List.mem_map.1 hr
    have := kk_lt (t := t) (j := j) (show 0 < hs.length by omega)
    exact decide_eq_true ⟨by omega, by omega⟩)
  have hp := refB_fst hs t ht
  rw [List.map_nil, List.nil_append, roomB_congr ⟨fun h => Room.perm h hp, fun h => Room.perm h hp.symm⟩] at this
  refine ⟨this.1, fun h => ?_⟩
  rw [this.2 (by rw [this.1]; exact h)]
  simp [refB]

/-! ### which one is struck out -/
def fitsB (b id t : Int) (r : Ref) : Bool := r.2 == id && tg r.1 == t && (b == fstB r.1 || b == oth (fstB r.1) t)

theorem fitsB_iff {b id t : Int} {r : Ref} : fitsB b id t r = true ↔ Fits (b, id, t) r := by
  unfold fitsB Fits
  simp only [Bool.and_eq_true, Bool.or_eq_true, beq_iff_eq]
  constructor
  · rintro ⟨⟨h1, h2⟩, h3⟩
    exact ⟨h1.symm, h2.symm, by rw [h2]; exact h3⟩
  · rintro ⟨h1, h2, h3⟩
    exact ⟨⟨h1.symm, h2.symm⟩, by rw [h2]; exact h3⟩

/-- Who fits a place with another one fits that one's other places. -/
theorem Fits.cross {p p' : Place} {r r' : Ref} (h1 : Fits p r) (h2 : Fits p r') (h3 : Fits p' r') : Fits p' r := by
  obtain ⟨a1, a2, a3⟩ := h1
  obtain ⟨b1, b2, b3⟩ := h2
  obtain ⟨c1, c2, c3⟩ := h3
  have ht : tg r.1 = tg r'.1 := by rw [← a2, b2]
  refine ⟨by rw [c1, ← b1, a1], by rw [c2, ht], ?_⟩
  have q := fstB_bd r.1
  have q' := fstB_bd r'.1
  have t' := tg_bd r'.1
  rw [ht] at a3 ⊢
  have key : fstB r.1 = fstB r'.1 ∨ fstB r.1 = oth (fstB r'.1) (tg r'.1) := by
    rcases a3 with a3 | a3
    · rw [← a3]; exact b3
    · have e : oth p.1 (tg r'.1) = fstB r.1 := by rw [a3]; exact oth_oth q.1 q.2 t'.1 t'.2
      rcases b3 with b3 | b3
      · rw [← e, b3]; exact .inr rfl
      · rw [← e, b3, oth_oth q'.1 q'.2 t'.1 t'.2]; exact .inl rfl
  rcases key with key | key
  · rw [key]; exact c3
  · rw [key, oth_oth q'.1 q'.2 t'.1 t'.2]; exact c3.symm

theorem Matched.strike {ps : List Place} {l : List Ref} {p : Place} {r' : Ref} {l' : List Ref} (h : Matched (p :: ps) l) (hl : l.Perm (r' :: l')) (hf : Fits p r') : Matched ps l' := by
  obtain ⟨r, l1, h1, h2, h3⟩ := h.unL
  have hp : (r :: l1).Perm (r' :: l') := h1.symm.trans hl
  by_cases e : r = r'
  · subst e; exact h3.right hp.cons_inv
  · have hm : r' ∈ l1 := by
      have : r' ∈ r :: l1 := hp.symm.subset List.mem_cons_self
      rcases List.mem_cons.1 this with x | x
      · exact absurd x.symm e
      · exact x
    obtain ⟨s, t, rfl⟩ := List.append_of_mem hm
    have hst : (s ++ r' :: t).Perm (r' :: (s ++ t)) := List.perm_middle
    obtain ⟨p', ps', k1, k2, k3⟩ := (h3.right hst).unR
    have hl' : l'.Perm (r :: (s ++ t)) := by
      have : (r' :: l').Perm (r' :: (r :: (s ++ t))) := hp.symm.trans ((hst.cons r).trans (List.Perm.swap _ _ _))
      exact this.cons_inv
    exact ((k3.cons (h2.cross hf k2)).left k1.symm).right hl'.symm

theorem perm_erase {l : List Ref} {i : Nat} {r : Ref} (h : l[i]? = some r) : l.Perm (r :: (l.take i ++ l.drop (i + 1))) := by
  have hi : i < l.length := (List.getElem?_eq_some_iff.1 h).1
  have e : l = l.take i ++ r :: l.drop (i + 1) := by
    rw [← (List.getElem?_eq_some_iff.1 h).2, List.getElem_cons_drop, List.take_append_drop]
  exact (List.Perm.of_eq e).trans List.perm_middle

/-- What is left behind k slots. -/
def Left (D : Nat → Ent) (k : Nat) (l : List Ref) : Prop := Matched ((List.range' k (32 - k)).flatMap fun i => place i (D i)) l

theorem Left.start {D : Nat → Ent} {l : List Ref} (h : Lays D l) : Left D 0 l := by
  have := h.1
  unfold occ occOn at this
  rw [List.range_eq_range'] at this
  exact this
theorem left_cons (D : Nat → Ent) {k : Nat} (hk : k < 32) : (List.range' k (32 - k)).flatMap (fun i => place i (D i)) = place k (D k) ++ (List.range' (k + 1) (32 - (k + 1))).flatMap fun i => place i (D i) := by
  rw [show 32 - k = (32 - (k + 1)) + 1 by omega, List.range'_succ, List.flatMap_cons]
theorem Left.skip {D : Nat → Ent} {l : List Ref} {k : Nat} (hk : k < 32) (h : Left D k l) (hh : (D k).has = false) : Left D (k + 1) l := by
  unfold Left at h ⊢
  rw [left_cons D hk] at h
  have : place k (D k) = [] := by unfold place; rw [hh]; rfl
  rwa [this] at h
theorem Left.take {D : Nat → Ent} {l : List Ref} {k : Nat} (hk : k < 32) (h : Left D k l) (hh : (D k).has = true) :
    (∃ r ∈ l, fitsB ((k / 4 : Nat) : Int) (D k).id (D k).tag r = true) ∧ ∀ i r, l[i]? = some r → fitsB ((k / 4 : Nat) : Int) (D k).id (D k).tag r = true → Left D (k + 1) (l.take i ++ l.drop (i + 1)) := by
  unfold Left at h ⊢
  rw [left_cons D hk, place_has hh] at h
  refine ⟨?_, fun i r hr hf => Matched.strike h (perm_erase hr) (fitsB_iff.1 hf)⟩
  obtain ⟨r, l', h1, h2, _⟩ := Matched.unL h
  exact ⟨r, h1.symm.subset List.mem_cons_self, fitsB_iff.2 h2⟩
theorem Left.done {D : Nat → Ent} {l : List Ref} (h : Left D 32 l) : l = [] := Matched.nilL h

/-! ### the last one that -/
/-- The last place below k at which f holds; -1. -/
def lastI (f : Ref → Bool) (l : List Ref) : Nat → Int
  | 0 => -1
  | k + 1 => if (l[k]?.map f).getD false then k else lastI f l k

theorem lastI_succ {f : Ref → Bool} {l : List Ref} {k : Nat} {r : Ref} (h : l[k]? = some r) : lastI f l (k + 1) = if f r then (k : Int) else lastI f l k := by
  simp [lastI, h]
theorem lastI_bd (f : Ref → Bool) (l : List Ref) (k : Nat) : -1 ≤ lastI f l k ∧ lastI f l k < k := by
  induction k with
  | zero => simp [lastI]
  | succ k ih => unfold lastI; split <;> omega
theorem lastI_at {f : Ref → Bool} {l : List Ref} {k i : Nat} (h : lastI f l k = i) : ∃ r, l[i]? = some r ∧ f r = true := by
  induction k with
  | zero => simp [lastI] at h
  | succ k ih =>
    unfold lastI at h
    split at h
    · rename_i hf
      have : k = i := by omega
      subst this
      cases hl : l[k]? with
      | none => rw [hl] at hf; simp at hf
      | some r => rw [hl] at hf; exact ⟨r, rfl, by simpa using hf⟩
    · exact ih h
theorem lastI_no {f : Ref → Bool} {l : List Ref} (h : lastI f l l.length = -1) : ∀ r ∈ l, f r = false := by
  have key : ∀ k, lastI f l k = -1 → ∀ i r, i < k → l[i]? = some r → f r = false := by
    intro k
    induction k with
    | zero => intro _ i r hi; omega
    | succ k ih =>
      intro h i r hi hr
      unfold lastI at h
      split at h
      · omega
      · rename_i hf
        by_cases e : i = k
        · subst e
          rw [hr] at hf
          simpa using hf
        · exact ih h i r (by omega) hr
  intro r hr
  obtain ⟨i, hi⟩ := List.getElem?_of_mem hr
  exact key _ h i r (List.getElem?_eq_some_iff.1 hi).1 hi

/-- One alone is meant: giving it another number is setting it. -/
theorem setL_one {l : List Ref} {h old id : Int} {i : Nat} {r : Ref} (hm : mayB id = true) (hc : l.countP (meant h old) ≤ 1) (hi : l[i]? = some r) (hr : meant h old r = true) : setL l h old id = l.set i (r.1, id) := by
  unfold setL
  rw [if_pos hm]
  have hlt : i < l.length := (List.getElem?_eq_some_iff.1 hi).1
  have e : l = l.take i ++ r :: l.drop (i + 1) := by
    rw [← (List.getElem?_eq_some_iff.1 hi).2, List.getElem_cons_drop, List.take_append_drop]
  have hlen : (l.take i).length = i := by rw [List.length_take]; omega
  generalize hA : l.take i = A at e hlen
  generalize hB : l.drop (i + 1) = B at e
  subst e
  rw [List.countP_append, List.countP_cons, hr] at hc
  simp only [if_true] at hc
  have hA0 : ∀ x ∈ A, meant h old x = false := fun x hx => by
    have := List.countP_eq_zero.1 (show A.countP (meant h old) = 0 by omega) x hx
    simpa using this
  have hB0 : ∀ x ∈ B, meant h old x = false := fun x hx => by
    have := List.countP_eq_zero.1 (show B.countP (meant h old) = 0 by omega) x hx
    simpa using this
  rw [List.map_append, List.map_cons, hr, if_pos rfl, map_none _ _ _ hA0, map_none _ _ _ hB0]
  subst hlen
  simp

theorem setL_zero {l : List Ref} {h old id : Int} (hn : ∀ r ∈ l, meant h old r = false) : setL l h old id = l := by
  unfold setL
  split
  · exact map_none _ _ _ hn
  · rfl
theorem setB_eq {l : List Ref} {h old id : Int} {i : Nat} {r : Ref} (hi : l[i]? = some r) (hr : meant h old r = true) : setB l h old id = mayB id := by
  unfold setB
  have : l.any (meant h old) = true := List.any_eq_true.2 ⟨r, List.mem_of_getElem? hi, hr⟩
  rw [this, Bool.and_true]
theorem setB_no {l : List Ref} {h old id : Int} (hn : ∀ r ∈ l, meant h old r = false) : setB l h old id = false := by
  unfold setB
  have : l.any (meant h old) = false := by rw [List.any_eq_false]; intro r hr; rw [hn r hr]; exact Bool.false_ne_true
  rw [this, Bool.and_false]

/-! ### numbers kept rising -/
/-- A number is put between: those before are not above it, those behind are. -/
theorem put_rising {out : List Int} {x : Int} {k : Nat} (hs : out.Pairwise (fun a b => a ≤ b)) (h1 : ∀ a ∈ out.take k, a ≤ x) (h2 : ∀ a ∈ out.drop k, x < a) : (out.take k ++ x :: out.drop k).Pairwise (fun a b => a ≤ b) := by
  rw [← List.take_append_drop k out] at hs
  rw [List.pairwise_append] at hs ⊢
  refine ⟨hs.1, List.pairwise_cons.2 ⟨fun a ha => Int.le_of_lt (h2 a ha), hs.2.1⟩, fun a ha b hb => ?_⟩
  rcases List.mem_cons.1 hb with rfl | hb
  · exact h1 a ha
  · exact hs.2.2 a ha b hb
theorem take_le {out : List Int} {x a : Int} {k : Nat} (hs : out.Pairwise (fun a b => a ≤ b)) (hk : out[k]? = some a) (ha : a ≤ x) : ∀ b ∈ out.take (k + 1), b ≤ x := by
  intro b hb
  rw [List.take_add_one, hk] at hb
  rcases List.mem_append.1 hb with hb | hb
  · have hlt : k < out.length := (List.getElem?_eq_some_iff.1 hk).1
    rw [← List.take_append_drop k out, List.pairwise_append] at hs
    have hm : a ∈ out.drop k := by
      rw [List.drop_eq_getElem_cons hlt, (List.getElem?_eq_some_iff.1 hk).2]; exact List.mem_cons_self
    exact Int.le_trans (hs.2.2 b hb a hm) ha
  · simp at hb; omega

def nearIds (l : List Ref) (h : Int) (i : Nat) : List Int := ((l.take i).filter fun r => near h r.1).map Prod.snd
theorem nearIds_succ {l : List Ref} {h : Int} {i : Nat} {r : Ref} (hr : l[i]? = some r) : nearIds l h (i + 1) = nearIds l h i ++ if near h r.1 then [r.2] else [] := by
  unfold nearIds
  rw [List.take_add_one, hr, List.filter_append, List.map_append]
  simp only [Option.toList_some, List.filter_cons, List.filter_nil]
  split <;> rfl
theorem nearIds_all {l : List Ref} {h : Int} : nearIds l h l.length = (l.filter fun r => near h r.1).map Prod.snd := by
  unfold nearIds; rw [List.take_length]

end Ck
end Go.Proofs.Ytjnidblfgdlgnaa
