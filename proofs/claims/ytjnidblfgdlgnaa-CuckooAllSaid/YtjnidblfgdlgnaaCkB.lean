/- Plain facts on the search for a free slot: which buckets are reached, by which moves; walking the moves back. No program in sight. -/
import Derived.Test.YtjnidblfgdlgnaaCk
namespace Go.Proofs.Ytjnidblfgdlgnaa
set_option linter.unusedVariables false
set_option linter.unusedSimpArgs false
namespace Ck

abbrev Fs := List (Int × Int × Int)
def keys (fs : Fs) : List Int := fs.map fun f => f.1
def addF (fs : Fs) (k : Int) (st : Int × Int) : Fs := if k ∈ keys fs then fs else fs ++ [(k, st)]
def addS (D : Nat → Ent) (b : Int) (fs : Fs) : Nat → Fs
  | 0 => fs
  | s + 1 => addF (addS D b fs s) (oth b (D (b.toNat * 4 + s)).tag) (b, (s : Nat))

def Tags (D : Nat → Ent) : Prop := ∀ k, k < 32 → (D k).has = true → 0 ≤ (D k).tag ∧ (D k).tag < 32768

/-- How bucket f.1 was reached: it is one of the hash's own, or an entry of an elder bucket can move to it. -/
def Link (D : Nat → Ent) (h : Int) (fs : Fs) (j : Nat) (f : Int × Int × Int) : Prop :=
  (f.2.1 = -1 ∧ (f.1 = fstB h ∨ f.1 = oth (fstB h) (tg h))) ∨
  ((∃ j' f', j' < j ∧ fs[j']? = some f' ∧ f'.1 = f.2.1) ∧ 0 ≤ f.2.2 ∧ f.2.2 < 4 ∧ f.1 = oth f.2.1 (D (f.2.1.toNat * 4 + f.2.2.toNat)).tag ∧ (D (f.2.1.toNat * 4 + f.2.2.toNat)).has = true)

structure Pre (D : Nat → Ent) (h : Int) (fs : Fs) : Prop where
  nodup : (keys fs).Nodup
  range : ∀ f ∈ fs, 0 ≤ f.1 ∧ f.1 < 8
  root0 : fstB h ∈ keys fs
  root1 : oth (fstB h) (tg h) ∈ keys fs
  link : ∀ j f, fs[j]? = some f → Link D h fs j f

def Done (D : Nat → Ent) (fs : Fs) (i : Nat) : Prop := ∀ j f, j < i → fs[j]? = some f → ∀ s, s < 4 → (D (f.1.toNat * 4 + s)).has = true ∧ oth f.1 (D (f.1.toNat * 4 + s)).tag ∈ keys fs

theorem mem_keys {fs : Fs} {k : Int} : k ∈ keys fs ↔ ∃ (j : Nat) (f : Int × Int × Int), fs[j]? = some f ∧ f.1 = k := by
  unfold keys
  constructor
  · intro h
    obtain ⟨f, hf, rfl⟩ := List.mem_map.1 h
    obtain ⟨j, hj⟩ := List.getElem?_of_mem hf
    exact ⟨j, f, hj, rfl⟩
  · rintro ⟨j, f, hj, rfl⟩
    exact List.mem_map.2 ⟨f, List.mem_of_getElem? hj, rfl⟩

theorem pre_init (D : Nat → Ent) (h : Int) : Pre D h [(fstB h, -1, 0), (oth (fstB h) (tg h), -1, 0)] := by
  have hb := fstB_bd h
  have ht := tg_bd h
  have ho := oth_bd hb.1 hb.2 ht.1 ht.2
  have hne := oth_ne hb.1 hb.2 ht.1 ht.2
  refine ⟨?_, ?_, by simp [keys], by simp [keys], ?_⟩
  · simp only [keys, List.map_cons, List.map_nil, List.nodup_cons, List.mem_singleton, List.not_mem_nil, not_false_iff, List.nodup_nil, and_true]
    exact fun e => hne e.symm
  · intro f hf
    simp only [List.mem_cons, List.not_mem_nil, or_false] at hf
    rcases hf with rfl | rfl
    · exact hb
    · exact ho
  · intro j f hj
    rcases j with _ | _ | j
    · simp at hj; subst hj; exact .inl ⟨rfl, .inl rfl⟩
    · simp at hj; subst hj; exact .inl ⟨rfl, .inr rfl⟩
    · simp at hj

theorem addF_prefix (fs : Fs) (k : Int) (st : Int × Int) {j : Nat} {f : Int × Int × Int} (h : fs[j]? = some f) : (addF fs k st)[j]? = some f := by
  unfold addF
  split
  · exact h
  · rw [List.getElem?_append_left (List.getElem?_eq_some_iff.1 h).1]; exact h
theorem addF_keys (fs : Fs) (k : Int) (st : Int × Int) {x : Int} (h : x ∈ keys fs) : x ∈ keys (addF fs k st) := by
  obtain ⟨j, f, hj, hf⟩ := mem_keys.1 h
  exact mem_keys.2 ⟨j, f, addF_prefix fs k st hj, hf⟩
theorem addF_mem (fs : Fs) (k : Int) (st : Int × Int) : k ∈ keys (addF fs k st) := by
  unfold addF
  split
  · assumption
  · simp [keys]
theorem addS_prefix (D : Nat → Ent) (b : Int) (fs : Fs) (s : Nat) {j : Nat} {f : Int × Int × Int} (h : fs[j]? = some f) : (addS D b fs s)[j]? = some f := by
  induction s with
  | zero => exact h
  | succ s ih => exact addF_prefix _ _ _ ih
theorem addS_keys (D : Nat → Ent) (b : Int) (fs : Fs) (s : Nat) {x : Int} (h : x ∈ keys fs) : x ∈ keys (addS D b fs s) := by
  obtain ⟨j, f, hj, hf⟩ := mem_keys.1 h
  exact mem_keys.2 ⟨j, f, addS_prefix D b fs s hj, hf⟩
theorem addS_mem (D : Nat → Ent) (b : Int) (fs : Fs) (s : Nat) : ∀ s', s' < s → oth b (D (b.toNat * 4 + s')).tag ∈ keys (addS D b fs s) := by
  induction s with
  | zero => intro s' h; omega
  | succ s ih =>
    intro s' hs
    by_cases e : s' = s
    · subst e; exact addF_mem _ _ _
    · exact addF_keys _ _ _ (ih s' (by omega))

theorem Pre.add {D : Nat → Ent} {h : Int} {fs : Fs} (hp : Pre D h fs) (ht : Tags D) {b : Int} {s : Nat} (hs : s < 4) (hb : b ∈ keys fs) (hh : (D (b.toNat * 4 + s)).has = true) :
    Pre D h (addF fs (oth b (D (b.toNat * 4 + s)).tag) (b, (s : Nat))) := by
  obtain ⟨jb, fb, hjb, rfl⟩ := mem_keys.1 hb
  have hbr := hp.range fb (List.mem_of_getElem? hjb)
  have htg := ht (fb.1.toNat * 4 + s) (by omega) hh
  have hob := oth_bd hbr.1 hbr.2 htg.1 htg.2
  unfold addF
  split
  · exact hp
  · rename_i hnk
    refine ⟨?_, ?_, ?_, ?_, ?_⟩
    · unfold keys at hnk ⊢
      rw [List.map_append, List.nodup_append]
      refine ⟨hp.nodup, by simp, fun a ha b' hb' e => ?_⟩
      simp at hb'
      subst hb'
      subst e
      exact hnk ha
    · intro f hf
      rcases List.mem_append.1 hf with hf | hf
      · exact hp.range f hf
      · simp at hf; subst hf; exact hob
    · unfold keys; rw [List.map_append]; exact List.mem_append_left _ hp.root0
    · unfold keys; rw [List.map_append]; exact List.mem_append_left _ hp.root1
    · intro j f hj
      by_cases hlt : j < fs.length
      · rw [List.getElem?_append_left hlt] at hj
        rcases hp.link j f hj with l | ⟨⟨j', f', h1, h2, h3⟩, r⟩
        · exact .inl l
        · exact .inr ⟨⟨j', f', h1, by rw [List.getElem?_append_left (by omega)]; exact h2, h3⟩, r⟩
      · rw [List.getElem?_append_right (by omega)] at hj
        have : j = fs.length := by
          have := (List.getElem?_eq_some_iff.1 hj).1
          simp at this; omega
        subst this
        simp at hj
        subst hj
        have hjl := (List.getElem?_eq_some_iff.1 hjb).1
        exact .inr ⟨⟨jb, fb, hjl, by rw [List.getElem?_append_left hjl]; exact hjb, rfl⟩, by show (0 : Int) ≤ ((s : Nat) : Int); omega, by show ((s : Nat) : Int) < 4; omega, by simp, by simpa using hh⟩

theorem Pre.adds {D : Nat → Ent} {h : Int} {fs : Fs} (hp : Pre D h fs) (ht : Tags D) {b : Int} (hb : b ∈ keys fs) (hh : ∀ s, s < 4 → (D (b.toNat * 4 + s)).has = true) (s : Nat) (hs : s ≤ 4) :
    Pre D h (addS D b fs s) := by
  induction s with
  | zero => exact hp
  | succ s ih => exact (ih (by omega)).add ht (by omega) (addS_keys D b fs s hb) (hh s (by omega))

theorem Done.step {D : Nat → Ent} {fs : Fs} {i : Nat} (hd : Done D fs i) {f : Int × Int × Int} (hf : fs[i]? = some f) (hh : ∀ s, s < 4 → (D (f.1.toNat * 4 + s)).has = true) :
    Done D (addS D f.1 fs 4) (i + 1) := by
  intro j g hj hg s hs
  have hil := (List.getElem?_eq_some_iff.1 hf).1
  have hj2 : fs[j]? = some g := by
    obtain ⟨g', hg'⟩ : ∃ g', fs[j]? = some g' := ⟨_, List.getElem?_eq_getElem (by omega)⟩
    rw [addS_prefix D f.1 fs 4 hg'] at hg
    rw [hg', hg]
  by_cases e : j = i
  · subst e
    rw [hf] at hj2
    injection hj2 with e2
    subst e2
    exact ⟨hh s hs, addS_mem D _ fs 4 s hs⟩
  · have := hd j g (by omega) hj2 s hs
    exact ⟨this.1, addS_keys D _ fs 4 this.2⟩

theorem nodup_le : ∀ (n : Nat) (l : List Nat), l.Nodup → (∀ x ∈ l, x < n) → l.length ≤ n
  | 0, l, _, h => by
    cases l with
    | nil => exact Nat.le_refl _
    | cons a l => exact absurd (h a List.mem_cons_self) (Nat.not_lt_zero _)
  | n + 1, l, hn, h => by
    have h1 := nodup_le n (l.erase n) (hn.erase n) (fun x hx => by
      have h2 := h x (List.mem_of_mem_erase hx)
      have h3 : x ≠ n := fun e => by rw [e] at hx; exact (List.Nodup.mem_erase_iff hn |>.1 hx).1 rfl
      omega)
    have := List.length_erase (a := n) (l := l)
    rw [this] at h1
    split at h1 <;> omega

theorem Pre.len {D : Nat → Ent} {h : Int} {fs : Fs} (hp : Pre D h fs) : fs.length ≤ 8 := by
  have h1 : ((keys fs).map Int.toNat).Nodup := by
    unfold List.Nodup
    rw [List.pairwise_map]
    refine List.Pairwise.imp_of_mem ?_ hp.nodup
    intro a b ha hb hne e
    obtain ⟨_, f, hf, rfl⟩ := mem_keys.1 ha
    obtain ⟨_, f', hf', rfl⟩ := mem_keys.1 hb
    have r1 := hp.range f (List.mem_of_getElem? hf)
    have r2 := hp.range f' (List.mem_of_getElem? hf')
    omega
  have h2 := nodup_le 8 _ h1 (fun x hx => by
    obtain ⟨k, hk, rfl⟩ := List.mem_map.1 hx
    obtain ⟨_, f, hf, rfl⟩ := mem_keys.1 hk
    have r1 := hp.range f (List.mem_of_getElem? hf)
    omega)
  simpa [keys] using h2

theorem Lays.tags {D : Nat → Ent} {l : List Ref} (h : Lays D l) : Tags D := by
  intro k hk hh
  have hm : (((k / 4 : Nat) : Int), (D k).id, (D k).tag) ∈ occ D := by
    unfold occ occOn
    exact List.mem_flatMap.2 ⟨k, List.mem_range.2 hk, by rw [place_has hh]; exact List.mem_singleton.2 rfl⟩
  obtain ⟨qs, h1, h2, h3⟩ := h.1
  obtain ⟨q, hq, e⟩ := List.mem_map.1 (h1.symm.subset hm)
  have hf := (h3 q hq).2.1
  rw [e] at hf
  have := tg_bd q.2.1
  dsimp only at hf
  omega

/-- Nothing is left to look at: there is no room. -/
theorem Pre.closed {D : Nat → Ent} {h : Int} {fs : Fs} {l : List Ref} (hp : Pre D h fs) (hd : Done D fs fs.length) (hl : Lays D l) : ¬ Room (l.map Prod.fst ++ [h]) := by
  have key : ∀ k, k < 32 → decide (((k / 4 : Nat) : Int) ∈ keys fs) = true → (D k).has = true ∧ oth ((k / 4 : Nat) : Int) (D k).tag ∈ keys fs := by
    intro k hk hm
    obtain ⟨j, f, hj, hf⟩ := mem_keys.1 (of_decide_eq_true hm)
    have := hd j f (List.getElem?_eq_some_iff.1 hj).1 hj (k % 4) (by omega)
    rw [hf, Int.toNat_natCast, show k / 4 * 4 + k % 4 = k by omega] at this
    exact this
  have ht := hl.tags
  have hb := fstB_bd h
  have hg := tg_bd h
  have ho := oth_bd hb.1 hb.2 hg.1 hg.2
  refine hl.noRoom (fun b => decide ((b : Int) ∈ keys fs)) h (fun k hk hm => (key k hk hm).1) (fun k hk hm => ?_) ?_ ?_
  · have h1 := key k hk hm
    have h2 := ht k hk h1.1
    have h3 := oth_bd (b := ((k / 4 : Nat) : Int)) (by omega) (by omega) h2.1 h2.2
    refine decide_eq_true ?_
    rw [Int.toNat_of_nonneg h3.1]
    exact h1.2
  · refine decide_eq_true ?_
    rw [Int.toNat_of_nonneg hb.1]
    exact hp.root0
  · refine decide_eq_true ?_
    rw [Int.toNat_of_nonneg ho.1]
    exact hp.root1

/-! ### the moves walked back -/

/-- Bucket f.1 = key j has the hole (slot k); D' is D but in buckets behind j. -/
structure Back (D D' : Nat → Ent) (h : Int) (fs : Fs) (l : List Ref) (j : Nat) (b s : Nat) : Prop where
  pre : Pre D h fs
  at_ : ∃ f, fs[j]? = some f ∧ f.1 = (b : Int)
  slot : s < 4
  hole : Hole D' (b * 4 + s) l
  same : ∀ j' f', j' < j → fs[j']? = some f' → ∀ x, x < 4 → D' (f'.1.toNat * 4 + x) = D (f'.1.toNat * 4 + x)

theorem Back.start {D : Nat → Ent} {h : Int} {fs : Fs} {l : List Ref} (hp : Pre D h fs) (hl : Lays D l) {b s : Nat} (hb : (b : Int) ∈ keys fs) (hs : s < 4) (hf : (D (b * 4 + s)).has = false) :
    ∃ j, Back D D h fs l j b s := by
  obtain ⟨j, f, hj, e⟩ := mem_keys.1 hb
  have := hp.range f (List.mem_of_getElem? hj)
  exact ⟨j, hp, ⟨f, hj, e⟩, hs, hl.hole (by omega) hf, fun _ _ _ _ _ _ => rfl⟩

theorem Back.lt {D D' : Nat → Ent} {h : Int} {fs : Fs} {l : List Ref} {j b s : Nat} (hB : Back D D' h fs l j b s) : b < 8 := by
  obtain ⟨f, hf, e⟩ := hB.at_
  have := hB.pre.range f (List.mem_of_getElem? hf)
  omega

/-- What the search noted of bucket b. -/
theorem Back.note {D D' : Nat → Ent} {h : Int} {fs : Fs} {l : List Ref} {j b s : Nat} (hB : Back D D' h fs l j b s) : ∃ st, fs.lookup (b : Int) = some st ∧ ∃ f, fs[j]? = some f ∧ f.1 = (b : Int) ∧ f.2 = st := by
  obtain ⟨f, hf, e⟩ := hB.at_
  refine ⟨f.2, ?_, f, hf, e, rfl⟩
  have hn := hB.pre.nodup
  clear hB
  induction fs generalizing j with
  | nil => simp at hf
  | cons g fs ih =>
    unfold keys at hn
    rw [List.map_cons, List.nodup_cons] at hn
    cases j with
    | zero => simp at hf; subst hf; simp [List.lookup, ← e]
    | succ j =>
      simp at hf
      have hne : g.1 ≠ (b : Int) := fun eg => hn.1 (List.mem_map.2 ⟨f, List.mem_of_getElem? hf, by rw [e, eg]⟩)
      have hne2 : ((b : Int) == g.1) = false := by simpa using fun x : (b : Int) = g.1 => hne x.symm
      obtain ⟨g1, g2⟩ := g
      simp only [List.lookup, hne2]
      exact ih hf hn.2

theorem Back.root {D D' : Nat → Ent} {h : Int} {fs : Fs} {l : List Ref} {j b s : Nat} (hB : Back D D' h fs l j b s) {st : Int × Int} (hst : fs.lookup (b : Int) = some st) (hneg : st.1 < 0) (id : Int) :
    Lays (upd D' (b * 4 + s) ⟨true, id, tg h⟩) (l ++ [(h, id)]) := by
  obtain ⟨st', h1, f, hf, e, e2⟩ := hB.note
  rw [hst] at h1
  injection h1 with h1
  subst h1
  have hb := hB.lt
  have hs := hB.slot
  refine hB.hole.fill (by omega) ?_
  rw [show (b * 4 + s) / 4 = b by omega, ← e]
  rcases hB.pre.link j f hf with ⟨_, hr⟩ | ⟨⟨j', f', _, hf', e'⟩, _⟩
  · exact hr
  · have := hB.pre.range f' (List.mem_of_getElem? hf')
    rw [e', e2] at this
    omega

theorem Back.step {D D' : Nat → Ent} {h : Int} {fs : Fs} {l : List Ref} {j b s : Nat} (hB : Back D D' h fs l j b s) {st : Int × Int} (hst : fs.lookup (b : Int) = some st) (hpos : 0 ≤ st.1) :
    0 ≤ st.2 ∧ st.1 < 8 ∧ st.2 < 4 ∧ ∃ j', j' < j ∧ Back D (upd D' (b * 4 + s) (D' (st.1.toNat * 4 + st.2.toNat))) h fs l j' st.1.toNat st.2.toNat := by
  obtain ⟨st', h1, f, hf, e, e2⟩ := hB.note
  rw [hst] at h1
  injection h1 with h1
  subst h1
  have hb := hB.lt
  have hs := hB.slot
  rcases hB.pre.link j f hf with ⟨hneg, _⟩ | ⟨⟨j', f', hj', hf', e'⟩, q1, q2, q3, q4⟩
  · rw [e2] at hneg; omega
  · rw [e2] at e' q1 q2 q3 q4
    have hr' := hB.pre.range f' (List.mem_of_getElem? hf')
    rw [e'] at hr'
    have hn := hB.pre.nodup
    have hkj : (keys fs)[j]? = some (b : Int) := by unfold keys; rw [List.getElem?_map, hf, Option.map_some, e]
    have hinj : ∀ j'' f'', j'' < j → fs[j'']? = some f'' → f''.1 ≠ (b : Int) := by
      intro j'' f'' hlt hf'' eq
      have hk2 : (keys fs)[j'']? = some (b : Int) := by unfold keys; rw [List.getElem?_map, hf'', Option.map_some, eq]
      have h1 := List.pairwise_iff_getElem.1 hn
      obtain ⟨a1, a2⟩ := List.getElem?_eq_some_iff.1 hk2
      obtain ⟨b1, b2⟩ := List.getElem?_eq_some_iff.1 hkj
      exact h1 j'' j a1 b1 hlt (a2.trans b2.symm)
    have hsame := hB.same j' f' hj' hf' st.2.toNat (by omega)
    rw [e'] at hsame
    have hne : st.1.toNat ≠ b := fun eq => hinj j' f' hj' hf' (by rw [e']; omega)
    have hx : st.1.toNat * 4 + st.2.toNat ≠ b * 4 + s := by omega
    refine ⟨q1, hr'.2, q2, j', hj', hB.pre, ⟨f', hf', by rw [e']; omega⟩, by omega, ?_, ?_⟩
    · refine hB.hole.move (by omega) (by omega) hx (by rw [hsame]; exact q4) ?_
      rw [show (b * 4 + s) / 4 = b by omega, show (st.1.toNat * 4 + st.2.toNat) / 4 = st.1.toNat by omega, hsame, ← e, q3, Int.toNat_of_nonneg hpos]
    · intro j3 f3 hj3 hf3 x hx4
      have hr3 := hB.pre.range f3 (List.mem_of_getElem? hf3)
      have hne3 := hinj j3 f3 (by omega) hf3
      rw [upd_ne _ _ (by omega)]
      exact hB.same j3 f3 (by omega) hf3 x hx4

end Ck
end Go.Proofs.Ytjnidblfgdlgnaa
