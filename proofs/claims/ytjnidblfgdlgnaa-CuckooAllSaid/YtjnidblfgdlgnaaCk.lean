/- Plain facts on cuckoo hashing: a layout of 32 slots in 8 buckets, what it holds, and when one entry more can be laid (Hall's condition). No program in sight. -/
namespace Go.Proofs.Ytjnidblfgdlgnaa
set_option linter.unusedVariables false
set_option linter.unusedSimpArgs false
namespace Ck

structure Ent where
  has : Bool
  id : Int
  tag : Int

def zero : Ent := ⟨false, 0, 0⟩

def fstB (h : Int) : Int := h % 8
def tg (h : Int) : Int := h / 256 % 32768
def oth (b t : Int) : Int := if 0 ≤ b ∧ b < 8 ∧ 0 ≤ t ∧ t < 32768 then ((b.toNat ^^^ (1 + t.toNat % 7) : Nat) : Int) else -1

theorem fstB_bd (h : Int) : 0 ≤ fstB h ∧ fstB h < 8 := by unfold fstB; omega
theorem tg_bd (h : Int) : 0 ≤ tg h ∧ tg h < 32768 := by unfold tg; omega

theorem oth_eq {b t : Int} (h0 : 0 ≤ b) (h1 : b < 8) (h2 : 0 ≤ t) (h3 : t < 32768) : oth b t = ((b.toNat ^^^ (1 + t.toNat % 7) : Nat) : Int) := by
  unfold oth; rw [if_pos ⟨h0, h1, h2, h3⟩]

theorem xor_lt (a c : Nat) (ha : a < 8) (hc : c < 8) : a ^^^ c < 8 := Nat.xor_lt_two_pow (n := 3) ha hc

theorem oth_bd {b t : Int} (h0 : 0 ≤ b) (h1 : b < 8) (h2 : 0 ≤ t) (h3 : t < 32768) : 0 ≤ oth b t ∧ oth b t < 8 := by
  rw [oth_eq h0 h1 h2 h3]
  have := xor_lt b.toNat (1 + t.toNat % 7) (by omega) (by omega)
  omega

theorem oth_oth {b t : Int} (h0 : 0 ≤ b) (h1 : b < 8) (h2 : 0 ≤ t) (h3 : t < 32768) : oth (oth b t) t = b := by
  have hb := oth_bd h0 h1 h2 h3
  rw [oth_eq hb.1 hb.2 h2 h3, oth_eq h0 h1 h2 h3, Int.toNat_natCast, Nat.xor_assoc, Nat.xor_self, Nat.xor_zero]
  omega

theorem oth_ne {b t : Int} (h0 : 0 ≤ b) (h1 : b < 8) (h2 : 0 ≤ t) (h3 : t < 32768) : oth b t ≠ b := by
  intro h
  rw [oth_eq h0 h1 h2 h3] at h
  have h4 : b.toNat ^^^ (1 + t.toNat % 7) = b.toNat := by omega
  have h5 : b.toNat ^^^ (b.toNat ^^^ (1 + t.toNat % 7)) = 0 := by rw [h4, Nat.xor_self]
  rw [← Nat.xor_assoc, Nat.xor_self, Nat.zero_xor] at h5
  omega

abbrev Place := Int × Int × Int
abbrev Ref := Int × Int

def place (k : Nat) (e : Ent) : List Place := if e.has then [(((k / 4 : Nat) : Int), e.id, e.tag)] else []
def occOn (ks : List Nat) (D : Nat → Ent) : List Place := ks.flatMap fun k => place k (D k)
def occ (D : Nat → Ent) : List Place := occOn (List.range 32) D
def upd (D : Nat → Ent) (k : Nat) (e : Ent) : Nat → Ent := fun i => if i = k then e else D i

theorem upd_same (D : Nat → Ent) (k : Nat) (e : Ent) : upd D k e k = e := if_pos rfl
theorem upd_ne (D : Nat → Ent) {k i : Nat} (e : Ent) (h : i ≠ k) : upd D k e i = D i := if_neg h
theorem upd_upd (D : Nat → Ent) (k : Nat) (e f : Ent) : upd (upd D k e) k f = upd D k f := by
  funext i; unfold upd; split <;> rfl
theorem upd_comm (D : Nat → Ent) {k j : Nat} (e f : Ent) (h : k ≠ j) : upd (upd D k e) j f = upd (upd D j f) k e := by
  funext i
  unfold upd
  by_cases h1 : i = j
  · subst h1; rw [if_pos rfl, if_neg (fun e => h e.symm), if_pos rfl]
  · rw [if_neg h1]
    by_cases h2 : i = k
    · rw [if_pos h2, if_pos h2]
    · rw [if_neg h2, if_neg h2, if_neg h1]
theorem upd_self (D : Nat → Ent) (k : Nat) {e : Ent} (h : D k = e) : upd D k e = D := by
  funext i; unfold upd; split
  · rename_i hi; rw [hi, h]
  · rfl

theorem occ_split (D : Nat → Ent) {k : Nat} (hk : k < 32) : (occ D).Perm (place k (D k) ++ occOn ((List.range 32).erase k) D) := by
  have h : (List.range 32).Perm (k :: (List.range 32).erase k) := List.perm_cons_erase (List.mem_range.2 hk)
  exact h.flatMap_right (fun k => place k (D k))

theorem occOn_congr {ks : List Nat} {D E : Nat → Ent} (h : ∀ k ∈ ks, D k = E k) : occOn ks D = occOn ks E := by
  unfold occOn
  induction ks with
  | nil => rfl
  | cons a ks ih =>
    rw [List.flatMap_cons, List.flatMap_cons, h a (List.mem_cons_self), ih (fun k hk => h k (List.mem_cons_of_mem _ hk))]

theorem not_mem_erase (k : Nat) : k ∉ (List.range 32).erase k := by
  intro h
  exact (List.Nodup.mem_erase_iff (List.nodup_range) |>.1 h).1 rfl

theorem occOn_upd (D : Nat → Ent) (k : Nat) (e : Ent) : occOn ((List.range 32).erase k) (upd D k e) = occOn ((List.range 32).erase k) D :=
  occOn_congr fun i hi => upd_ne D e fun h => not_mem_erase k (h ▸ hi)

theorem occ_upd (D : Nat → Ent) {k : Nat} (hk : k < 32) (e : Ent) : (occ (upd D k e)).Perm (place k e ++ occOn ((List.range 32).erase k) D) := by
  have h := occ_split (upd D k e) hk
  rw [upd_same, occOn_upd] at h
  exact h

theorem occ_hole (D : Nat → Ent) {k : Nat} (hk : k < 32) : (occ (upd D k zero)).Perm (occOn ((List.range 32).erase k) D) := occ_upd D hk zero

/-! ### which entry lies where -/

def Fits (p : Place) (r : Ref) : Prop := p.2.1 = r.2 ∧ p.2.2 = tg r.1 ∧ (p.1 = fstB r.1 ∨ p.1 = oth (fstB r.1) (tg r.1))

def Matched (ps : List Place) (l : List Ref) : Prop :=
  ∃ qs : List (Place × Ref), (qs.map Prod.fst).Perm ps ∧ (qs.map Prod.snd).Perm l ∧ ∀ q ∈ qs, Fits q.1 q.2

theorem Matched.nil : Matched [] [] := ⟨[], List.Perm.refl _, List.Perm.refl _, fun _ h => by cases h⟩
theorem Matched.left {ps ps' : List Place} {l : List Ref} (h : Matched ps l) (hp : ps.Perm ps') : Matched ps' l := by
  obtain ⟨qs, h1, h2, h3⟩ := h; exact ⟨qs, h1.trans hp, h2, h3⟩
theorem Matched.right {ps : List Place} {l l' : List Ref} (h : Matched ps l) (hp : l.Perm l') : Matched ps l' := by
  obtain ⟨qs, h1, h2, h3⟩ := h; exact ⟨qs, h1, h2.trans hp, h3⟩
theorem Matched.cons {ps : List Place} {l : List Ref} {p : Place} {r : Ref} (h : Matched ps l) (hf : Fits p r) : Matched (p :: ps) (r :: l) := by
  obtain ⟨qs, h1, h2, h3⟩ := h
  exact ⟨(p, r) :: qs, h1.cons p, h2.cons r, fun q hq => by
    rcases List.mem_cons.1 hq with rfl | hq
    · exact hf
    · exact h3 q hq⟩

theorem perm_map_cons {α β : Type} {f : α → β} {qs : List α} {a : β} {ps : List β} (h : (qs.map f).Perm (a :: ps)) :
    ∃ q qs', qs.Perm (q :: qs') ∧ f q = a ∧ (qs'.map f).Perm ps := by
  have hm : a ∈ qs.map f := h.symm.subset (List.mem_cons_self)
  obtain ⟨q, hq, rfl⟩ := List.mem_map.1 hm
  obtain ⟨s, t, rfl⟩ := List.append_of_mem hq
  refine ⟨q, s ++ t, List.perm_middle, rfl, ?_⟩
  have h2 : ((s ++ q :: t).map f).Perm (f q :: (s ++ t).map f) := (List.perm_middle (a := q) (l₁ := s) (l₂ := t)).map f
  exact (h2.symm.trans h).cons_inv

theorem Matched.unL {ps : List Place} {l : List Ref} {p : Place} (h : Matched (p :: ps) l) :
    ∃ r l', l.Perm (r :: l') ∧ Fits p r ∧ Matched ps l' := by
  obtain ⟨qs, h1, h2, h3⟩ := h
  obtain ⟨q, qs', hq, rfl, hp⟩ := perm_map_cons h1
  refine ⟨q.2, qs'.map Prod.snd, (h2.symm.trans (hq.map Prod.snd)), h3 q (hq.symm.subset List.mem_cons_self), qs', hp, List.Perm.refl _, fun x hx => h3 x (hq.symm.subset (List.mem_cons_of_mem _ hx))⟩

theorem Matched.unR {ps : List Place} {l : List Ref} {r : Ref} (h : Matched ps (r :: l)) :
    ∃ p ps', ps.Perm (p :: ps') ∧ Fits p r ∧ Matched ps' l := by
  obtain ⟨qs, h1, h2, h3⟩ := h
  obtain ⟨q, qs', hq, rfl, hp⟩ := perm_map_cons h2
  refine ⟨q.1, qs'.map Prod.fst, (h1.symm.trans (hq.map Prod.fst)), h3 q (hq.symm.subset List.mem_cons_self), qs', List.Perm.refl _, hp, fun x hx => h3 x (hq.symm.subset (List.mem_cons_of_mem _ hx))⟩

theorem Matched.move {ps : List Place} {l : List Ref} {p p' : Place} (h : Matched (p :: ps) l) (hf : ∀ r, Fits p r → Fits p' r) : Matched (p' :: ps) l := by
  obtain ⟨r, l', hl, hr, hm⟩ := h.unL
  exact (hm.cons (hf r hr)).right hl.symm

theorem Matched.length {ps : List Place} {l : List Ref} (h : Matched ps l) : ps.length = l.length := by
  obtain ⟨qs, h1, h2, _⟩ := h
  rw [← h1.length_eq, ← h2.length_eq, List.length_map, List.length_map]

theorem Matched.nilL {l : List Ref} (h : Matched [] l) : l = [] := by
  have := h.length
  exact List.eq_nil_of_length_eq_zero this.symm

/-- As many refs are told by g as places by f, at least, where f's places lead to g's refs. -/
theorem countP_mono_map (f : Place → Bool) (g : Ref → Bool) (qs : List (Place × Ref)) (hfg : ∀ q ∈ qs, f q.1 = true → g q.2 = true) :
    (qs.map Prod.fst).countP f ≤ (qs.map Prod.snd).countP g := by
  induction qs with
  | nil => exact Nat.le_refl _
  | cons q qs ih =>
    have h := ih (fun x hx => hfg x (List.mem_cons_of_mem _ hx))
    have hq := hfg q (List.mem_cons_self)
    rw [List.map_cons, List.map_cons, List.countP_cons, List.countP_cons]
    cases hf : f q.1
    · simp only [Bool.false_eq_true, if_false]; omega
    · simp only [hq hf, if_true]; omega

theorem Matched.count_le {ps : List Place} {l : List Ref} (h : Matched ps l) (f : Place → Bool) (g : Ref → Bool)
    (hfg : ∀ p r, p ∈ ps → Fits p r → f p = true → g r = true) : ps.countP f ≤ l.countP g := by
  obtain ⟨qs, h1, h2, h3⟩ := h
  rw [← h1.countP_eq f, ← h2.countP_eq g]
  exact countP_mono_map f g qs fun q hq hf => hfg q.1 q.2 (h1.subset (List.mem_map.2 ⟨q, hq, rfl⟩)) (h3 q hq) hf

theorem countP_mono_map' (f : Place → Bool) (g : Ref → Bool) (qs : List (Place × Ref)) (hfg : ∀ q ∈ qs, g q.2 = true → f q.1 = true) :
    (qs.map Prod.snd).countP g ≤ (qs.map Prod.fst).countP f := by
  induction qs with
  | nil => exact Nat.le_refl _
  | cons q qs ih =>
    have h := ih (fun x hx => hfg x (List.mem_cons_of_mem _ hx))
    have hq := hfg q (List.mem_cons_self)
    rw [List.map_cons, List.map_cons, List.countP_cons, List.countP_cons]
    cases hg : g q.2
    · simp only [Bool.false_eq_true, if_false]; omega
    · simp only [hq hg, if_true]; omega

theorem Matched.count_ge {ps : List Place} {l : List Ref} (h : Matched ps l) (f : Place → Bool) (g : Ref → Bool)
    (hfg : ∀ p r, p ∈ ps → Fits p r → g r = true → f p = true) : l.countP g ≤ ps.countP f := by
  obtain ⟨qs, h1, h2, h3⟩ := h
  rw [← h1.countP_eq f, ← h2.countP_eq g]
  exact countP_mono_map' f g qs fun q hq hf => hfg q.1 q.2 (h1.subset (List.mem_map.2 ⟨q, hq, rfl⟩)) (h3 q hq) hf

/-! ### layouts -/

def Clean (D : Nat → Ent) : Prop := ∀ k, k < 32 → (D k).has = false → D k = zero
def Lays (D : Nat → Ent) (l : List Ref) : Prop := Matched (occ D) l ∧ Clean D
def Hole (D : Nat → Ent) (k : Nat) (l : List Ref) : Prop := Matched (occ (upd D k zero)) l ∧ Clean (upd D k zero)

theorem lays_empty : Lays (fun _ => zero) [] := ⟨Matched.nil, fun _ _ _ => rfl⟩

theorem Lays.hole {D : Nat → Ent} {l : List Ref} (h : Lays D l) {k : Nat} (hk : k < 32) (hf : (D k).has = false) : Hole D k l := by
  have e : upd D k zero = D := upd_self D k (h.2 k hk hf)
  unfold Hole
  rw [e]
  exact h

theorem place_has {k : Nat} {e : Ent} (h : e.has = true) : place k e = [(((k / 4 : Nat) : Int), e.id, e.tag)] := if_pos h

/-- An entry of slot x is laid into the hole, in its other bucket: now x is the hole. -/
theorem Hole.move {D : Nat → Ent} {l : List Ref} {k x : Nat} (h : Hole D k l) (hk : k < 32) (hx : x < 32) (hne : x ≠ k)
    (hh : (D x).has = true) (ho : ((k / 4 : Nat) : Int) = oth ((x / 4 : Nat) : Int) (D x).tag) : Hole (upd D k (D x)) x l := by
  obtain ⟨hm, hc⟩ := h
  have e1 : upd (upd D k (D x)) x zero = upd (upd D x zero) k (D x) := upd_comm D _ _ (fun e => hne e.symm)
  have p1 : (occ (upd D k zero)).Perm (place x (D x) ++ occOn ((List.range 32).erase x) (upd D k zero)) := by
    have := occ_split (upd D k zero) hx
    rw [upd_ne D zero hne] at this
    exact this
  have p2 : (occ (upd (upd D k zero) x zero)).Perm (occOn ((List.range 32).erase x) (upd D k zero)) := occ_hole _ hx
  have p3 : (occ (upd (upd D x zero) k (D x))).Perm (place k (D x) ++ occOn ((List.range 32).erase k) (upd D x zero)) := occ_upd _ hk _
  have p4 : (occ (upd (upd D x zero) k zero)).Perm (occOn ((List.range 32).erase k) (upd D x zero)) := occ_hole _ hk
  have e2 : upd (upd D k zero) x zero = upd (upd D x zero) k zero := upd_comm D _ _ (fun e => hne e.symm)
  rw [place_has hh] at p1 p3
  have m1 := hm.left (p1.trans ((p2.symm.trans (e2 ▸ p4)).append_left _))
  have m2 : Matched ((((k / 4 : Nat) : Int), (D x).id, (D x).tag) :: occOn ((List.range 32).erase k) (upd D x zero)) l := by
    refine Matched.move m1 ?_
    rintro r ⟨h1, h2, h3⟩
    refine ⟨h1, h2, ?_⟩
    dsimp only at h2 h3 ⊢
    rw [ho, h2]
    have hb := fstB_bd r.1
    have ht := tg_bd r.1
    rcases h3 with h3 | h3
    · right; rw [h3]
    · left; rw [h3, oth_oth hb.1 hb.2 ht.1 ht.2]
  refine ⟨?_, ?_⟩
  · rw [e1]; exact m2.left p3.symm
  · intro i hi hf
    rw [e1] at hf ⊢
    by_cases hik : i = k
    · subst hik; rw [upd_same] at hf; rw [hh] at hf; cases hf
    · rw [upd_ne _ _ hik] at hf ⊢
      by_cases hix : i = x
      · subst hix; exact upd_same _ _ _
      · rw [upd_ne _ _ hix] at hf ⊢
        have := hc i hi (by rw [upd_ne _ _ hik]; exact hf)
        rwa [upd_ne _ _ hik] at this

/-- The new entry is laid into the hole. -/
theorem Hole.fill {D : Nat → Ent} {l : List Ref} {k : Nat} (h : Hole D k l) (hk : k < 32) {hs id : Int}
    (ho : ((k / 4 : Nat) : Int) = fstB hs ∨ ((k / 4 : Nat) : Int) = oth (fstB hs) (tg hs)) : Lays (upd D k ⟨true, id, tg hs⟩) (l ++ [(hs, id)]) := by
  obtain ⟨hm, hc⟩ := h
  have p1 := occ_upd D hk ⟨true, id, tg hs⟩
  rw [place_has rfl] at p1
  have m1 : Matched ((((k / 4 : Nat) : Int), id, tg hs) :: occOn ((List.range 32).erase k) D) ((hs, id) :: l) := (hm.left (occ_hole D hk)).cons ⟨rfl, rfl, ho⟩
  refine ⟨(m1.left p1.symm).right (List.perm_append_singleton _ _).symm, fun i hi hf => ?_⟩
  by_cases hik : i = k
  · subst hik; rw [upd_same] at hf; cases hf
  · rw [upd_ne _ _ hik] at hf ⊢
    have := hc i hi (by rw [upd_ne _ _ hik]; exact hf)
    rwa [upd_ne _ _ hik] at this

/-! ### room -/

def both (set : Nat) (h : Int) : Bool := set.testBit (fstB h).toNat && set.testBit (oth (fstB h) (tg h)).toNat
def cnt (set : Nat) (hs : List Int) : Nat := hs.countP (both set)
def pop (set : Nat) : Nat := (List.range 8).countP fun b => set.testBit b
def Room (hs : List Int) : Prop := ∀ set, set < 256 → cnt set hs ≤ 4 * pop set

theorem sum32 (f : Nat → Bool) : (List.range 32).countP (fun k => f (k / 4)) = 4 * (List.range 8).countP f := by
  simp only [List.range, List.range.loop, List.countP_cons, List.countP_nil, show (0:Nat)/4 = 0 from rfl, show (1:Nat)/4 = 0 from rfl, show (2:Nat)/4 = 0 from rfl, show (3:Nat)/4 = 0 from rfl,
    show (4:Nat)/4 = 1 from rfl, show (5:Nat)/4 = 1 from rfl, show (6:Nat)/4 = 1 from rfl, show (7:Nat)/4 = 1 from rfl, show (8:Nat)/4 = 2 from rfl, show (9:Nat)/4 = 2 from rfl, show (10:Nat)/4 = 2 from rfl, show (11:Nat)/4 = 2 from rfl,
    show (12:Nat)/4 = 3 from rfl, show (13:Nat)/4 = 3 from rfl, show (14:Nat)/4 = 3 from rfl, show (15:Nat)/4 = 3 from rfl, show (16:Nat)/4 = 4 from rfl, show (17:Nat)/4 = 4 from rfl, show (18:Nat)/4 = 4 from rfl, show (19:Nat)/4 = 4 from rfl,
    show (20:Nat)/4 = 5 from rfl, show (21:Nat)/4 = 5 from rfl, show (22:Nat)/4 = 5 from rfl, show (23:Nat)/4 = 5 from rfl, show (24:Nat)/4 = 6 from rfl, show (25:Nat)/4 = 6 from rfl, show (26:Nat)/4 = 6 from rfl, show (27:Nat)/4 = 6 from rfl,
    show (28:Nat)/4 = 7 from rfl, show (29:Nat)/4 = 7 from rfl, show (30:Nat)/4 = 7 from rfl, show (31:Nat)/4 = 7 from rfl]
  omega

theorem countP_place_le (f : Place → Bool) (k : Nat) (e : Ent) (g : Bool) (h : f (((k / 4 : Nat) : Int), e.id, e.tag) = g) : (place k e).countP f ≤ if g then 1 else 0 := by
  unfold place
  split
  · rw [List.countP_singleton, h]
    exact Nat.le_refl _
  · simp

theorem countP_occOn_le (f : Place → Bool) (g : Nat → Bool) (ks : List Nat) (D : Nat → Ent) (h : ∀ k id tag, f (((k / 4 : Nat) : Int), id, tag) = g (k / 4)) :
    (occOn ks D).countP f ≤ ks.countP fun k => g (k / 4) := by
  induction ks with
  | nil => exact Nat.le_refl _
  | cons k ks ih =>
    have e : occOn (k :: ks) D = place k (D k) ++ occOn ks D := rfl
    rw [e, List.countP_append, List.countP_cons]
    have := countP_place_le f k (D k) (g (k / 4)) (h _ _ _)
    omega

theorem countP_occOn_eq (f : Place → Bool) (g : Nat → Bool) (ks : List Nat) (D : Nat → Ent) (h : ∀ k id tag, f (((k / 4 : Nat) : Int), id, tag) = g (k / 4))
    (hfull : ∀ k ∈ ks, g (k / 4) = true → (D k).has = true) : (occOn ks D).countP f = ks.countP fun k => g (k / 4) := by
  induction ks with
  | nil => rfl
  | cons k ks ih =>
    have e : occOn (k :: ks) D = place k (D k) ++ occOn ks D := rfl
    rw [e, List.countP_append, List.countP_cons, ih (fun x hx => hfull x (List.mem_cons_of_mem _ hx)), Nat.add_comm]
    congr 1
    cases hg : g (k / 4)
    · have := countP_place_le f k (D k) false (by rw [h, hg])
      simp only [Bool.false_eq_true, if_false] at this ⊢
      omega
    · rw [place_has (hfull k List.mem_cons_self hg), List.countP_singleton, h, hg]

theorem Lays.room {D : Nat → Ent} {l : List Ref} (h : Lays D l) : Room (l.map Prod.fst) := by
  intro set _
  have h1 := h.1.count_ge (fun p => set.testBit p.1.toNat) (fun r => both set r.1) (by
    rintro p r _ ⟨_, h2, h3⟩ hg
    simp only [both, Bool.and_eq_true] at hg
    rcases h3 with h3 | h3
    · simp only [h3]; exact hg.1
    · simp only [h3]; exact hg.2)
  have h2 := countP_occOn_le (fun p => set.testBit p.1.toNat) (fun b => set.testBit b) (List.range 32) D (fun k id tag => by show set.testBit (((k / 4 : Nat) : Int)).toNat = _; rw [Int.toNat_natCast])
  rw [sum32] at h2
  have e : cnt set (l.map Prod.fst) = l.countP fun r => both set r.1 := by unfold cnt; rw [List.countP_map]; rfl
  rw [e]
  exact Nat.le_trans h1 h2

theorem exists_set : ∀ b0 b1 b2 b3 b4 b5 b6 b7 : Bool, ∃ set, set < 256 ∧ Nat.testBit set 0 = b0 ∧ Nat.testBit set 1 = b1 ∧ Nat.testBit set 2 = b2 ∧ Nat.testBit set 3 = b3 ∧
    Nat.testBit set 4 = b4 ∧ Nat.testBit set 5 = b5 ∧ Nat.testBit set 6 = b6 ∧ Nat.testBit set 7 = b7 := by
  intro b0 b1 b2 b3 b4 b5 b6 b7
  refine ⟨b0.toNat + 2 * b1.toNat + 4 * b2.toNat + 8 * b3.toNat + 16 * b4.toNat + 32 * b5.toNat + 64 * b6.toNat + 128 * b7.toNat, ?_⟩
  revert b0 b1 b2 b3 b4 b5 b6 b7
  decide +kernel

theorem set_of (R : Nat → Bool) : ∃ set, set < 256 ∧ ∀ b, b < 8 → Nat.testBit set b = R b := by
  obtain ⟨set, h, h0, h1, h2, h3, h4, h5, h6, h7⟩ := exists_set (R 0) (R 1) (R 2) (R 3) (R 4) (R 5) (R 6) (R 7)
  refine ⟨set, h, fun b hb => ?_⟩
  rcases b with _ | _ | _ | _ | _ | _ | _ | _ | b
  · exact h0
  · exact h1
  · exact h2
  · exact h3
  · exact h4
  · exact h5
  · exact h6
  · exact h7
  · omega

/-- Buckets that are all full, out of which no entry of theirs can go, and both of h's are among them: there is no room. -/
theorem Lays.noRoom {D : Nat → Ent} {l : List Ref} (h : Lays D l) (R : Nat → Bool) (hs : Int)
    (hfull : ∀ k, k < 32 → R (k / 4) = true → (D k).has = true)
    (hclosed : ∀ k, k < 32 → R (k / 4) = true → R (oth ((k / 4 : Nat) : Int) (D k).tag).toNat = true)
    (h1 : R (fstB hs).toNat = true) (h2 : R (oth (fstB hs) (tg hs)).toNat = true) : ¬ Room (l.map Prod.fst ++ [hs]) := by
  intro hr
  obtain ⟨set, hset, hbit⟩ := set_of R
  have hle := hr set hset
  have hb := fstB_bd hs
  have ht := tg_bd hs
  have hob := oth_bd hb.1 hb.2 ht.1 ht.2
  have hboth : both set hs = true := by
    unfold both
    rw [hbit _ (by omega), hbit _ (by omega), h1, h2]; rfl
  have e1 : cnt set (l.map Prod.fst ++ [hs]) = (l.countP fun r => both set r.1) + 1 := by
    unfold cnt
    rw [List.countP_append, List.countP_singleton, hboth, if_pos rfl, List.countP_map]; rfl
  have hge := h.1.count_le (fun p => set.testBit p.1.toNat) (fun r => both set r.1) (by
    rintro p r hp ⟨_, q2, q3⟩ hf
    obtain ⟨k, hk, hpk⟩ := List.mem_flatMap.1 hp
    rw [List.mem_range] at hk
    unfold place at hpk
    split at hpk
    · rw [List.mem_singleton] at hpk
      subst hpk
      dsimp only at q2 q3 hf
      rw [Int.toNat_natCast, hbit _ (by omega)] at hf
      have hcl := hclosed k hk hf
      rw [q2] at hcl
      have gb := fstB_bd r.1
      have gt := tg_bd r.1
      have go := oth_bd gb.1 gb.2 gt.1 gt.2
      unfold both
      rw [hbit _ (by omega), hbit _ (by omega)]
      rcases q3 with q3 | q3
      · rw [q3] at hcl
        have : R (fstB r.1).toNat = true := by rw [← q3, Int.toNat_natCast]; exact hf
        rw [this, hcl]; rfl
      · rw [q3, oth_oth gb.1 gb.2 gt.1 gt.2] at hcl
        have : R (oth (fstB r.1) (tg r.1)).toNat = true := by rw [← q3, Int.toNat_natCast]; exact hf
        rw [this, hcl]; rfl
    · cases hpk)
  have heq := countP_occOn_eq (fun p => set.testBit p.1.toNat) (fun b => set.testBit b) (List.range 32) D (fun k id tag => by show set.testBit (((k / 4 : Nat) : Int)).toNat = _; rw [Int.toNat_natCast]) (by
    intro k hk hb
    rw [List.mem_range] at hk
    rw [hbit _ (by omega)] at hb
    exact hfull k hk hb)
  rw [sum32] at heq
  have e3 : (occ D).countP (fun p => set.testBit p.1.toNat) = 4 * pop set := heq
  rw [e1] at hle
  rw [e3] at hge
  omega

theorem Room.sublist {hs hs' : List Int} (h : Room hs) (hsub : hs'.Sublist hs) : Room hs' := fun set hset => Nat.le_trans (hsub.countP_le) (h set hset)
theorem Room.perm {hs hs' : List Int} (h : Room hs) (hp : hs.Perm hs') : Room hs' := fun set hset => by
  have := h set hset
  unfold cnt at this ⊢
  rwa [← hp.countP_eq]

/-! ### the slots that a hash may mean -/

def b0 (h : Int) : Nat := (fstB h).toNat
def b1 (h : Int) : Nat := (oth (fstB h) (tg h)).toNat
def bN (h : Int) (i : Nat) : Nat := if i = 0 then b0 h else b1 h
theorem b0_cast (h : Int) : ((b0 h : Nat) : Int) = fstB h := by have := fstB_bd h; unfold b0; omega
theorem b1_cast (h : Int) : ((b1 h : Nat) : Int) = oth (fstB h) (tg h) := by
  have h1 := fstB_bd h
  have h2 := tg_bd h
  have := oth_bd h1.1 h1.2 h2.1 h2.2
  unfold b1; omega
theorem b0_lt (h : Int) : b0 h < 8 := by have := fstB_bd h; unfold b0; omega
theorem b1_lt (h : Int) : b1 h < 8 := by
  have h1 := fstB_bd h
  have h2 := tg_bd h
  have := oth_bd h1.1 h1.2 h2.1 h2.2
  unfold b1; omega
theorem bN_lt (h : Int) (i : Nat) : bN h i < 8 := by unfold bN; split; exact b0_lt h; exact b1_lt h
/-- The j-th slot that is looked at. -/
def sq (h : Int) (j : Nat) : Nat := bN h (j / 4) * 4 + j % 4
theorem sq_lt (h : Int) (j : Nat) : sq h j < 32 := by have := bN_lt h (j / 4); unfold sq; omega
theorem sq_at (h : Int) {i s : Nat} (hs : s < 4) : sq h (i * 4 + s) = bN h i * 4 + s := by
  unfold sq
  rw [show (i * 4 + s) / 4 = i by omega, show (i * 4 + s) % 4 = s by omega]
def hit (D : Nat → Ent) (h : Int) (k : Nat) : Bool := (D k).has && ((D k).tag == tg h)
def ids (D : Nat → Ent) (h : Int) (m : Nat) : List Int := (List.range m).flatMap fun j => if hit D h (sq h j) then [(D (sq h j)).id] else []
theorem ids_zero (D : Nat → Ent) (h : Int) : ids D h 0 = [] := rfl
theorem ids_succ (D : Nat → Ent) (h : Int) (m : Nat) : ids D h (m + 1) = ids D h m ++ if hit D h (sq h m) then [(D (sq h m)).id] else [] := by
  unfold ids
  rw [List.range_succ, List.flatMap_append]
  simp
theorem ids_len (D : Nat → Ent) (h : Int) (m : Nat) : (ids D h m).length ≤ m := by
  induction m with
  | zero => exact Nat.le_refl _
  | succ m ih =>
    rw [ids_succ, List.length_append]
    split
    · simp; omega
    · simp; omega

end Ck
end Go.Proofs.Ytjnidblfgdlgnaa
