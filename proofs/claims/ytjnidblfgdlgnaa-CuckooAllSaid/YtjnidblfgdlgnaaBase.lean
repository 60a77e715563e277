/- Blocks of cells, frames (what a call may have written), rows (slices at any offset of their block), the law of append on them. No program in sight. -/
import Derived.WalkKit
import Derived.WalkSpells
import Derived.WalkLawsBesides
import Derived.Handy
import Derived.Lib.Hide
import Derived.StillTailTactics
import Derived.BigQuiet
import Derived.Deep.QuietTactic
import Derived.Deep.RegionHeld3
import Derived.Deep.RegionLaw
import Derived.Deep.DeepFit
namespace Go.Proofs.Ytjnidblfgdlgnaa
set_option linter.unusedVariables false
set_option linter.unusedSimpArgs false
open Go.RowKit

/-! ### frames -/

/-- Of the blocks that were there those in S alone may have turned. -/
structure Fr (S : Nat → Prop) (w w' : World) : Prop where
  os : w'.os = w.os
  tape : w'.tape = w.tape
  output : w'.output = w.output
  size : w.heap.size ≤ w'.heap.size
  block : ∀ k, k < w.heap.size → ¬ S k → w'.heap[k]? = w.heap[k]?

abbrev No : Nat → Prop := fun _ => False
abbrev At1 (b : Nat) : Nat → Prop := fun k => k = b

section
variable {S T : Nat → Prop} {w w' w'' : World}
theorem Fr.refl (S : Nat → Prop) (w : World) : Fr S w w := ⟨rfl, rfl, rfl, Nat.le_refl _, fun _ _ _ => rfl⟩
theorem Fr.mono (h : Fr S w w') (hs : ∀ k, k < w.heap.size → S k → T k) : Fr T w w' :=
  ⟨h.os, h.tape, h.output, h.size, fun k hk hn => h.block k hk fun hh => hn (hs k hk hh)⟩
theorem Fr.trans' (h : Fr S w w') (h' : Fr T w' w'') (hs : ∀ k, k < w.heap.size → T k → S k) : Fr S w w'' :=
  ⟨h'.os.trans h.os, h'.tape.trans h.tape, h'.output.trans h.output, Nat.le_trans h.size h'.size, fun k hk hn =>
    (h'.block k (Nat.lt_of_lt_of_le hk h.size) fun hh => hn (hs k hk hh)).trans (h.block k hk hn)⟩
theorem Fr.trans (h : Fr S w w') (h' : Fr S w' w'') : Fr S w w'' := h.trans' h' fun _ _ x => x
theorem Fr.no (h : Fr S w w') (h' : Fr No w' w'') : Fr S w w'' := h.trans' h' fun _ _ x => x.elim
theorem Fr.alloc (h : Fr S w w') (o : Obj) : Fr S w (w'.alloc o) :=
  h.no ⟨rfl, rfl, rfl, by simp, fun k hk _ => Below.heap_alloc w' o k hk⟩
theorem Fr.drew (h : Fr S w w') : Fr S w w'.drew := h.no ⟨rfl, rfl, rfl, Nat.le_refl _, fun _ _ _ => rfl⟩
theorem Fr.drewN (h : Fr S w w') (n : Nat) : Fr S w (w'.drewN n) := h.no ⟨rfl, rfl, rfl, Nat.le_refl _, fun _ _ _ => rfl⟩
theorem Fr.setCell (h : Fr S w w') {a : Addr} (ha : a.block < w.heap.size → S a.block) (v : Value) : Fr S w (w'.setCell a v) :=
  h.trans' (T := fun k => k = a.block) ⟨rfl, rfl, rfl, by simp [World.setCell], fun k _ hk => Below.heap_setCell _ _ _ _ hk⟩ fun k hk e => by subst e; exact ha hk
/-- The blocks from N on. -/
abbrev From (N : Nat) : Nat → Prop := fun k => N ≤ k
theorem Fr.from (h : Fr No w w') (h' : Fr (From w.heap.size) w' w'') : Fr No w w'' := h.trans' h' fun k hk hn => by have : w.heap.size ≤ k := hn; omega
theorem Fr.toFrom (h : Fr No w w') (N : Nat) : Fr (From N) w w' := h.mono fun _ _ x => x.elim
theorem Fr.setCellFrom {N : Nat} (h : Fr (From N) w w') {a : Addr} (ha : N ≤ a.block) (v : Value) : Fr (From N) w (w'.setCell a v) := h.setCell (fun _ => ha) v
theorem Fr.below (h : Fr No w w') : Below w.heap.size w w' := ⟨h.os, h.tape, h.output, h.size, fun k hk => h.block k hk fun x => x⟩
theorem Fr.of_below (h : Below w.heap.size w w') : Fr No w w' := ⟨h.os, h.tape, h.output, h.size, fun k hk _ => h.block k hk⟩
theorem Fr.of_grown {row : Option Nat} (h : w.grownBy w' row) : Fr (fun k => row = some k) w w' :=
  ⟨h.os, h.tape, h.output, h.size, fun k hk hn => h.block k hk fun e => hn e.symm⟩
theorem Fr.of_grown_none (h : w.grownBy w' none) : Fr No w w' := (Fr.of_grown h).mono fun _ _ e => by cases e
theorem Fr.cell (h : Fr S w w') {a : Addr} (hl : a.block < w.heap.size) (hn : ¬ S a.block) : w'.cell? a = w.cell? a := World.cell?_of_block (w := w) (h.block _ hl hn)
end

/-! ### blocks of cells -/

def Blk (w : World) (b : Nat) (T : TypeId) (cs : List Value) : Prop := w.heap[b]? = some (.cells cs.toArray T (0, 0))

section
variable {S : Nat → Prop} {w w' : World} {b : Nat} {T : TypeId} {cs : List Value}
theorem Blk.lt (h : Blk w b T cs) : b < w.heap.size := (Array.getElem?_eq_some_iff.1 h).1
theorem Blk.cell (h : Blk w b T cs) (j : Nat) {v : Value} (hv : cs[j]? = some v) : w.cell? ⟨b, j, none⟩ = some v := by
  rw [cell_of_row w b j _ _ _ h]; simpa using hv
theorem Blk.free (h : Blk w b T cs) (j : Nat) : w.frozen? ⟨b, j, none⟩ = false := frozen_of_row w b j _ _ h
theorem Blk.fr (h : Blk w b T cs) (hf : Fr S w w') (hn : ¬ S b) : Blk w' b T cs := (hf.block b h.lt hn).trans h
theorem Blk.alloc (h : Blk w b T cs) (o : Obj) : Blk (w.alloc o) b T cs := h.fr ((Fr.refl No w).alloc o) fun x => x
theorem Blk.drew (h : Blk w b T cs) : Blk w.drew b T cs := h
theorem Blk.drewN (h : Blk w b T cs) (n : Nat) : Blk (w.drewN n) b T cs := h
theorem Blk.new (w : World) (a : Array Value) (T : TypeId) : Blk (w.alloc (.cells a T)) w.heap.size T a.toList := heap_alloc_new w _
theorem Blk.set (h : Blk w b T cs) (j : Nat) (v : Value) : Blk (w.setCell ⟨b, j, none⟩ v) b T (cs.set j v) := by
  have h2 := heap_setCell_same w b j _ T v h
  unfold Blk
  rw [h2]
  simp
theorem Blk.far (h : Blk w b T cs) {a : Addr} (hn : b ≠ a.block) (v : Value) : Blk (w.setCell a v) b T cs := (Below.heap_setCell w a v b hn).trans h
theorem Blk.shape (h : Blk w b T cs) : w.shape? b = some (T, cs.length) := by
  unfold World.shape?
  rw [show w.heap[b]? = _ from h]
  simp
theorem Blk.cast {cs' : List Value} (h : Blk w b T cs) (e : cs = cs') : Blk w b T cs' := e ▸ h
end

/-! ### lists of records, laid flat -/

theorem getElem?_flat {α β : Type} (f : α → List β) (m : Nat) (hm : ∀ x, (f x).length = m) {j : Nat} (hj : j < m) :
    ∀ (l : List α) (i : Nat), (l.flatMap f)[i * m + j]? = l[i]?.bind fun x => (f x)[j]? := by
  intro l
  induction l with
  | nil => intro i; simp
  | cons a l ih =>
    intro i
    rw [List.flatMap_cons]
    cases i with
    | zero => rw [Nat.zero_mul, Nat.zero_add, List.getElem?_append_left (by rw [hm]; exact hj)]; simp
    | succ i =>
      rw [List.getElem?_append_right (by rw [hm, Nat.succ_mul]; omega), hm]
      rw [show (i + 1) * m + j - m = i * m + j by rw [Nat.succ_mul]; omega, ih i]
      simp

theorem length_flat {α β : Type} (f : α → List β) (m : Nat) (hm : ∀ x, (f x).length = m) (l : List α) : (l.flatMap f).length = l.length * m := by
  induction l with
  | nil => simp
  | cons a l ih => rw [List.flatMap_cons, List.length_append, hm, ih, List.length_cons, Nat.succ_mul, Nat.add_comm]

theorem flat_ext {α β : Type} (f : α → List β) (m : Nat) (hm : ∀ x, (f x).length = m) (h0 : 0 < m) (l : List α) (cs : List β) (hl : cs.length = l.length * m)
    (h : ∀ i j, i < l.length → j < m → cs[i * m + j]? = l[i]?.bind fun x => (f x)[j]?) : cs = l.flatMap f := by
  apply List.ext_getElem?
  intro p
  by_cases hp : p < l.length * m
  · have e : p = p / m * m + p % m := by rw [Nat.mul_comm]; exact (Nat.div_add_mod p m).symm
    have hj := Nat.mod_lt p h0
    have hi : p / m < l.length := (Nat.div_lt_iff_lt_mul h0).2 hp
    rw [e, h _ _ hi hj, getElem?_flat f m hm hj]
  · rw [List.getElem?_eq_none (by omega), List.getElem?_eq_none (by rw [length_flat f m hm]; omega)]

theorem getElem?_pair {α : Type} (a b : α) (j : Nat) : [a, b][j]? = if j = 0 then some a else if j = 1 then some b else none := by
  rcases j with _ | _ | j <;> simp

/-- Three cells stored, one behind the other: an element of three cells. -/
theorem flat_set3 {α β : Type} (f : α → List β) (hm : ∀ x, (f x).length = 3) (l : List α) (i : Nat) (x : α) (a b c : β) (hx : f x = [a, b, c]) (tail : List β) (hi : i < l.length) :
    (((l.flatMap f ++ tail).set (i * 3) a).set (i * 3 + 1) b).set (i * 3 + 2) c = (l.set i x).flatMap f ++ tail := by
  have hlen := length_flat f 3 hm l
  rw [List.set_append_left _ _ (by omega), List.set_append_left _ _ (by rw [List.length_set]; omega), List.set_append_left _ _ (by rw [List.length_set, List.length_set]; omega)]
  congr 1
  refine flat_ext f 3 hm (by omega) _ _ (by simp [hlen]) fun p j hp hj => ?_
  rw [List.length_set] at hp
  rw [List.getElem?_set, List.getElem?_set, List.getElem?_set, List.getElem?_set, getElem?_flat f 3 hm hj]
  simp only [List.length_set, hlen]
  by_cases hpi : i = p
  · subst hpi
    rw [if_pos rfl, if_pos hi, Option.bind_some, hx]
    rcases j with _ | _ | _ | j
    · rw [if_neg (by omega), if_neg (by omega), if_pos (by omega), if_pos (by omega)]; rfl
    · rw [if_neg (by omega), if_pos (by omega), if_pos (by omega)]; rfl
    · rw [if_pos (by omega), if_pos (by omega)]; rfl
    · omega
  · rw [if_neg hpi, if_neg (by omega), if_neg (by omega), if_neg (by omega)]

/-! ### rows: slices at any offset of their block -/

def Row (w : World) (T sz : Nat) (v : Value) (n : Nat) (xs : List Value) : Prop :=
  xs.length = n * sz ∧
  ((v = .slice none 0 0 ∧ n = 0) ∨
   ∃ g off cap cur, v = .slice (some ⟨g, off, none⟩) n cap ∧ w.heap[g]? = some (.cells cur T (0, 0)) ∧ n ≤ cap ∧ cap ≤ maxLen ∧ off + cap * sz ≤ cur.size ∧ (cur.toList.drop off).take (n * sz) = xs)

/-- What may be appended: a slice's cells, wherever they lie. -/
def Src (w : World) (x : Value) (m sz : Nat) (news : List Value) : Prop :=
  news.length = m * sz ∧ (∀ u ∈ news, u.oneCell' = true) ∧ ((x = .slice none 0 0 ∧ m = 0) ∨ ∃ ad c, x = .slice (some ad) m c ∧ ∀ j u, news[j]? = some u → w.cell? (ad.add j) = some u)

section
variable {S : Nat → Prop} {w w' : World} {T sz n : Nat} {v : Value} {xs : List Value}
theorem Row.nil (w : World) (T sz : Nat) : Row w T sz (.slice none 0 0) 0 [] := ⟨by simp, .inl ⟨rfl, rfl⟩⟩
theorem Row.lt (h : Row w T sz v n xs) : ∀ k, v.ownBlock = some k → k < w.heap.size := by
  intro k hk
  rcases h.2 with ⟨rfl, _⟩ | ⟨g, off, cap, cur, rfl, hg, _⟩
  · simp [Value.ownBlock] at hk
  · simp [Value.ownBlock] at hk
    subst hk
    exact (Array.getElem?_eq_some_iff.1 hg).1
theorem Row.fr (h : Row w T sz v n xs) (hf : Fr S w w') (hn : ∀ k, v.ownBlock = some k → ¬ S k) : Row w' T sz v n xs := by
  refine ⟨h.1, ?_⟩
  rcases h.2 with h2 | ⟨g, off, cap, cur, rfl, hg, r⟩
  · exact .inl h2
  · exact .inr ⟨g, off, cap, cur, rfl, (hf.block g (Array.getElem?_eq_some_iff.1 hg).1 (hn g rfl)).trans hg, r⟩
theorem Row.no (h : Row w T sz v n xs) (hf : Fr No w w') : Row w' T sz v n xs := h.fr hf fun _ _ x => x
theorem Row.alloc (h : Row w T sz v n xs) (o : Obj) : Row (w.alloc o) T sz v n xs := h.no ((Fr.refl No w).alloc o)
theorem Row.form (h : Row w T sz v n xs) : ∃ a c, v = .slice a n c := by
  rcases h.2 with ⟨rfl, rfl⟩ | ⟨g, off, cap, cur, rfl, _⟩
  · exact ⟨_, _, rfl⟩
  · exact ⟨_, _, rfl⟩
/-- Where there is an element the slice has an address, and its cells lie there. -/
theorem Row.addr (h : Row w T sz v n xs) (hn : 0 < n) : ∃ g off cap, v = .slice (some ⟨g, off, none⟩) n cap ∧ n ≤ cap ∧ cap ≤ maxLen ∧
    (∀ j u, xs[j]? = some u → w.cell? ⟨g, off + j, none⟩ = some u) ∧ (∀ j, w.frozen? ⟨g, j, none⟩ = false) ∧ g < w.heap.size := by
  rcases h.2 with ⟨_, h0⟩ | ⟨g, off, cap, cur, rfl, hg, h1, h2, h3, h4⟩
  · omega
  · refine ⟨g, off, cap, rfl, h1, h2, fun j u hu => ?_, fun j => frozen_of_row w g j _ _ hg, (Array.getElem?_eq_some_iff.1 hg).1⟩
    rw [cell_of_row w g _ _ _ _ hg]
    rw [← h4, List.getElem?_take] at hu
    split at hu
    · rw [List.getElem?_drop] at hu; simpa using hu
    · cases hu
theorem Row.le (h : Row w T sz v n xs) : n ≤ maxLen := by
  rcases h.2 with ⟨_, h0⟩ | ⟨g, off, cap, cur, rfl, hg, h1, h2, _⟩
  · omega
  · omega
theorem add_eq (g o j : Nat) : (⟨g, o, none⟩ : Addr).add j = ⟨g, o + j, none⟩ := by unfold Addr.add; split <;> simp_all
theorem Row.src (h : Row w T sz v n xs) (h1 : ∀ u ∈ xs, u.oneCell' = true) : Src w v n sz xs := by
  refine ⟨h.1, h1, ?_⟩
  rcases h.2 with h2 | ⟨g, off, cap, cur, rfl, hg, h3, h4, h5, h6⟩
  · exact .inl h2
  · refine .inr ⟨_, _, rfl, fun j u hu => ?_⟩
    rw [add_eq, cell_of_row w g _ _ _ _ hg]
    rw [← h6, List.getElem?_take] at hu
    split at hu
    · rw [List.getElem?_drop] at hu; simpa using hu
    · cases hu
theorem Src.new (w : World) (a : Array Value) (T : TypeId) (m sz : Nat) (h1 : ∀ u ∈ a.toList, u.oneCell' = true) (hm : a.size = m * sz) (c : Nat) :
    Src (w.alloc (.cells a T)) (.slice (some ⟨w.heap.size, 0, none⟩) m c) m sz a.toList := by
  refine ⟨by simpa using hm, h1, .inr ⟨_, _, rfl, fun j u hu => ?_⟩⟩
  rw [add_eq, Nat.zero_add, World.cell?_alloc_new]
  simpa using hu

theorem Row.take (h : Row w T sz v n xs) {m : Nat} {c : Nat} {a : Option Addr} (hv : v = .slice a n c) (hm : m ≤ n) : Row w T sz (.slice a m c) m (xs.take (m * sz)) := by
  refine ⟨by rw [List.length_take, h.1]; exact Nat.min_eq_left (Nat.mul_le_mul_right _ hm), ?_⟩
  rcases h.2 with ⟨rfl, h0⟩ | ⟨g, off, cap, cur, rfl, hg, h3, h4, h5, h6⟩
  · injection hv with e1 e2 e3
    subst e1 e3
    obtain rfl : m = 0 := by omega
    exact .inl ⟨rfl, rfl⟩
  · injection hv with e1 e2 e3
    subst e1 e3
    refine .inr ⟨g, off, cap, cur, rfl, hg, by omega, h4, h5, ?_⟩
    rw [← h6, List.take_take, Nat.min_eq_left (Nat.mul_le_mul_right _ hm)]
end

section
variable {S : Nat → Prop} {w w' : World} {T sz n : Nat} {v : Value} {xs : List Value}
theorem Row.cap (h : Row w T sz v n xs) : ∃ A c, v = .slice A n c ∧ n ≤ c := by
  rcases h.2 with ⟨rfl, rfl⟩ | ⟨g, off, cap, cur, rfl, hg, h3, _⟩
  · exact ⟨_, _, rfl, Nat.le_refl _⟩
  · exact ⟨_, _, rfl, h3⟩

/-- xs[k:]: what the operation gives, in whatever world; what the row is then. -/
theorem Row.cut {P : Program} {t : TypeId} {A : Option Addr} {cap : Nat} (h : Row w T sz (.slice A n cap) n xs) {z : Value} {bytes : Nat} (ht : P.underlying t = some (.slice T))
    (hinfo : (P.info? T).map (fun i => (i.zero, i.size, i.bytes)) = some (some z, sz, bytes)) (hsz : 0 < sz) {k : Nat} (hk : k ≤ n) :
    ∃ A1, (∀ W, (Instr.sliceAt t (.slice A n cap) (some (.int .i64 (k : Nat))) none none).run P W = .ok (.slice A1 (n - k) (cap - k)) W) ∧
      Row w T sz (.slice A1 (n - k) (cap - k)) (n - k) (xs.drop (k * sz)) ∧ (Value.slice A1 (n - k) (cap - k)).ownBlock = (Value.slice A n cap).ownBlock := by
  obtain ⟨i, hi, hz, hsize, hby⟩ := info_parts hinfo
  refine ⟨if cap = k then A else A.map (·.add (k * sz)), fun W => ?_, ?_, ?_⟩
  · simp [Instr.sliceAt, Instr.slice, run_underlying ht, Instr.sliceBounds, run_sliceBound, sizeOf, typeInfo, hi, hsize, hk, Result.andThen]
  · rcases h.2 with ⟨hv, h0⟩ | ⟨g, off, cap', cur, hv, hg, h3, h4, h5, h6⟩
    · injection hv with e1 e2 e3
      subst e1 e3 h0
      obtain rfl : k = 0 := by omega
      have hx : xs = [] := List.eq_nil_of_length_eq_zero (by simpa using h.1)
      subst hx
      simp only [Option.map_none, ite_self, Nat.sub_self, Nat.zero_mul, List.drop_nil]
      exact Row.nil w T sz
    · injection hv with e1 e2 e3
      subst e1 e3
      have hlen : (xs.drop (k * sz)).length = (n - k) * sz := by rw [List.length_drop, h.1, Nat.sub_mul]
      refine ⟨hlen, .inr ?_⟩
      by_cases hc : cap = k
      · have hnk : n - k = 0 := by omega
        have hl0 : (xs.drop (k * sz)).length = 0 := by rw [hlen, hnk, Nat.zero_mul]
        rw [if_pos hc, hnk]
        refine ⟨g, off, cap - k, cur, rfl, hg, by omega, by omega, ?_, ?_⟩
        · rw [hc, Nat.sub_self, Nat.zero_mul]
          have : 0 ≤ cap * sz := Nat.zero_le _
          omega
        · rw [Nat.zero_mul, List.take_zero]
          exact (List.eq_nil_of_length_eq_zero hl0).symm
      · rw [if_neg hc]
        have hmul : (cap - k) * sz + k * sz = cap * sz := by rw [← Nat.add_mul]; congr 1; omega
        refine ⟨g, off + k * sz, cap - k, cur, by simp [add_eq], hg, by omega, by omega, by omega, ?_⟩
        rw [← h6, List.drop_take, List.drop_drop, Nat.sub_mul]
  · split
    · cases A <;> rfl
    · cases A with
      | none => rfl
      | some a => simp only [Option.map_some, Value.ownBlock, Addr.add]; split <;> rfl
end

/-! ### append -/

theorem run_append_at {P : Program} (w : World) (t ty e : TypeId) (i : TypeInfo) (ht : P.underlying t = some (.slice e)) (hi : P.info? e = some i)
    (g off sLen sCap : Nat) (cur : Array Value) (hg : w.heap[g]? = some (.cells cur e (0, 0)))
    (a : Addr) (m c : Nat) (news : List Value) (hl : news.length = m * i.size) (hnews : ∀ j u, news[j]? = some u → w.cell? (a.add j) = some u) (h1 : ∀ u ∈ news, u.oneCell' = true)
    (hroom : sLen + m ≤ sCap) (hfit : off + sLen * i.size + news.length ≤ cur.size) :
    (Builtin.append_ #[t, t] ty #[.slice (some ⟨g, off, none⟩) sLen sCap, .slice (some a) m c]).run P w =
      .ok (.slice (some ⟨g, off, none⟩) (sLen + m) sCap) (w.setRow g (cur.toList.take (off + sLen * i.size) ++ news ++ cur.toList.drop (off + sLen * i.size + news.length)).toArray) := by
  have hf := run_firstCells_some (P := P) w i.size m a m c news hl hnews
  have hst := run_storeCells_at P g (off + sLen * i.size) e news 0 cur w hg (by simpa using hfit) h1
  simp only [Nat.add_zero] at hst
  simp [Builtin.append_, run_underlying ht, sizeOf, typeInfo, hi, Builtin.lenOf, hroom, hf, add_eq, hst]

theorem run_append_no {P : Program} (w : World) (t ty e : TypeId) (i : TypeInfo) (ht : P.underlying t = some (.slice e)) (hi : P.info? e = some i)
    (b : Option Addr) (sLen sCap : Nat) (hle : sLen ≤ sCap) (c : Nat) (a : Option Addr) :
    (Builtin.append_ #[t, t] ty #[.slice b sLen sCap, .slice a 0 c]).run P w = .ok (.slice b sLen sCap) w := by
  cases a <;> cases b <;> simp [Builtin.append_, run_underlying ht, sizeOf, typeInfo, hi, Builtin.lenOf, hle, Builtin.firstCells, loadCells, loadCellsFrom, storeCells]

section
variable {P : Program} (w : World)
theorem run_append_row (t ty e : TypeId) (z : Value) (size bytes : Nat) (ht : P.underlying t = some (.slice e))
    (hinfo : (P.info? e).map (fun i => (i.zero, i.size, i.bytes)) = some (some z, size, bytes)) (hzs : z.cells.size = size) (hsz : 0 < size)
    (v : Value) (n : Nat) (xs : List Value) (hrow : Row w e size v n xs)
    (x : Value) (m : Nat) (news : List Value) (hsrc : Src w x m size news)
    (h63 : n + m ≤ maxLen) (hbytes : (n + m) * bytes ≤ 140737488355328) :
    ∃ v' w', (Builtin.append_ #[t, t] ty #[v, x]).run P w = .ok v' w' ∧ Row w' e size v' (n + m) (xs ++ news) ∧ Fr (fun k => v.ownBlock = some k) w w' ∧
      (v' = .slice none 0 0 ↔ v = .slice none 0 0 ∧ m = 0) ∧ (v'.ownBlock = v.ownBlock ∨ ∃ k, v'.ownBlock = some k ∧ w.heap.size ≤ k) := by
  obtain ⟨i, hi, hz, hsize, hby⟩ := info_parts hinfo
  subst hsize
  subst hby
  obtain ⟨hl, h1, hx⟩ := hsrc
  have hsmall : n + m ≤ 9223372036854775807 := by simp only [maxLen] at h63; omega
  have hlen : (xs ++ news).length = (n + m) * i.size := by rw [List.length_append, hrow.1, hl, Nat.add_mul]
  by_cases hm : m = 0
  · subst hm
    have hn : news = [] := List.eq_nil_of_length_eq_zero (by simpa using hl)
    subst hn
    obtain ⟨a, c, rfl⟩ : ∃ a c, x = .slice a 0 c := by
      rcases hx with ⟨rfl, _⟩ | ⟨ad, c, rfl, _⟩ <;> exact ⟨_, _, rfl⟩
    have hle : ∃ b c, v = .slice b n c ∧ n ≤ c := by
      rcases hrow.2 with ⟨rfl, rfl⟩ | ⟨g, off, cap, cur, rfl, hg, h3, _⟩
      · exact ⟨_, _, rfl, Nat.le_refl _⟩
      · exact ⟨_, _, rfl, h3⟩
    obtain ⟨b, c', rfl, hle⟩ := hle
    exact ⟨_, w, run_append_no w t ty e i ht hi b n c' hle c a, by simpa using hrow, Fr.refl _ _, by simp, .inl rfl⟩
  obtain ⟨ad, c, rfl, hnews⟩ : ∃ ad c, x = .slice (some ad) m c ∧ ∀ j u, news[j]? = some u → w.cell? (ad.add j) = some u := by
    rcases hx with ⟨_, h0⟩ | h
    · exact absurd h0 hm
    · exact h
  have grown : ∀ (old : Nat), old < n + m → 
      Row (w.drew.alloc (.cells (xs.toArray ++ news.toArray ++ Builtin.zeroCells z.cells (grownCap w (n + m) old e - (n + m))) e)) e i.size
        (.slice (some ⟨w.heap.size, 0, none⟩) (n + m) (grownCap w (n + m) old e)) (n + m) (xs ++ news) ∧
      Fr (fun k => v.ownBlock = some k) w (w.drew.alloc (.cells (xs.toArray ++ news.toArray ++ Builtin.zeroCells z.cells (grownCap w (n + m) old e - (n + m))) e)) := by
    intro old ho
    have hge := grownCap_ge w (n + m) old e
    have hcm : grownCap w (n + m) old e ≤ maxLen := grownCap_le_maxLen w (n + m) old e h63
    refine ⟨⟨hlen, .inr ⟨w.heap.size, 0, _, _, rfl, heap_alloc_new w.drew _, hge, hcm, ?_, ?_⟩⟩, ((Fr.refl _ w).drew).alloc _⟩
    · simp only [Array.size_append, List.size_toArray, size_zeroCells, hzs, hrow.1, hl, ← Nat.add_mul, Nat.zero_add]
      refine Nat.le_of_eq ?_
      congr 1
      omega
    · simp only [Array.toList_append, List.append_assoc, List.drop_zero]
      rw [← List.append_assoc, ← hlen]
      exact List.take_left
  rcases hrow.2 with ⟨rfl, rfl⟩ | ⟨g, off, cap, cur, rfl, hg, hnc, hcm, hcs, htake⟩
  · have hx : xs = [] := List.eq_nil_of_length_eq_zero (by simpa using hrow.1)
    subst hx
    have hr := run_append_nil (P := P) w t ty e i z ht hi hz ad m c news hl hnews (by omega) (by omega) (by have hb := hbytes; simp only [Nat.zero_add] at hb; omega)
    have hgr := grown 0 (by omega)
    simp only [Nat.zero_add, List.nil_append, Array.empty_append] at hgr ⊢
    exact ⟨_, _, hr, hgr.1, hgr.2, by simp [hm], .inr ⟨_, rfl, Nat.le_refl _⟩⟩
  · by_cases hroom : n + m ≤ cap
    · have hmul : (n + m) * i.size ≤ cap * i.size := Nat.mul_le_mul_right _ hroom
      have hfit : off + n * i.size + news.length ≤ cur.size := by rw [hl]; rw [Nat.add_mul] at hmul; omega
      have hr := run_append_at (P := P) w t ty e i ht hi g off n cap cur hg ad m c news hl hnews h1 hroom hfit
      refine ⟨_, _, hr, ⟨hlen, .inr ⟨g, off, cap, _, rfl, setRow_heap w g cur _ e _ hg, hroom, hcm, ?_, ?_⟩⟩, ⟨rfl, rfl, rfl, by simp, fun k _ hk => setRow_other w g k _ (fun e => hk (by simp [Value.ownBlock, e]))⟩, by simp, .inl rfl⟩
      · simp only [List.size_toArray, List.length_append, List.length_take, List.length_drop, Array.length_toList]
        omega
      · have hlc : off ≤ cur.toList.length := by rw [Array.length_toList]; omega
        simp only []
        rw [List.take_add, htake, List.append_assoc, List.append_assoc]
        rw [List.drop_append_of_le_length (by rw [List.length_take]; omega), List.drop_take, Nat.sub_self, List.take_zero, List.nil_append, ← List.append_assoc, ← hlen]
        exact List.take_left
    · have holds : ∀ j u, xs[j]? = some u → w.cell? ((⟨g, off, none⟩ : Addr).add j) = some u := by
        intro j u hu
        rw [add_eq, cell_of_row w g _ _ _ _ hg]
        rw [← htake, List.getElem?_take] at hu
        split at hu
        · rw [List.getElem?_drop] at hu; simpa using hu
        · cases hu
      have hr := run_append_grow (P := P) w t ty e i z ht hi hz ⟨g, off, none⟩ n cap xs hrow.1 holds ad m c news hl hnews (by omega) (by omega) (growslice_fits (by omega) hbytes)
      have hgr := grown cap (by omega)
      exact ⟨_, _, hr, hgr.1, hgr.2, by simp, .inr ⟨_, rfl, Nat.le_refl _⟩⟩
end

theorem wpList_append_row {P : Program} (w : World) {ops : Array Oper} {rest : List Oper} {o : Oper} {a : Act} {Q : Exit → Act → World → Prop} (hgd : o.guard = none) (s x : Operand) (t : TypeId)
    (ho : o.op = .call { callee := .builtin .append, args := #[s, x], argTypes := #[t, t] })
    (e : TypeId) (z : Value) (size bytes : Nat) (ht : P.underlying t = some (.slice e))
    (hinfo : (P.info? e).map (fun i => (i.zero, i.size, i.bytes)) = some (some z, size, bytes)) (hzs : z.cells.size = size) (hsz : 0 < size)
    (v : Value) (n : Nat) (xs : List Value) (hs : a.eval s = v) (hrow : Row w e size v n xs)
    (m : Nat) (news : List Value) (xv : Value) (hx : a.eval x = xv) (hsrc : Src w xv m size news)
    (h63 : n + m ≤ maxLen) (hbytes : (n + m) * bytes ≤ 140737488355328)
    (h : ∀ A c w', Row w' e size (.slice A (n + m) c) (n + m) (xs ++ news) → Fr (fun k => v.ownBlock = some k) w w' → (Value.slice A (n + m) c = .slice none 0 0 ↔ v = .slice none 0 0 ∧ m = 0) →
      ((Value.slice A (n + m) c).ownBlock = v.ownBlock ∨ ∃ k, (Value.slice A (n + m) c).ownBlock = some k ∧ w.heap.size ≤ k) → wpList P ops Q rest (a.put o.dst (.slice A (n + m) c)) w') : wpList P ops Q (o :: rest) a w := by
  refine wpList_plain hgd fun K hK => ?_
  obtain ⟨v', w', hr, h2, h3, h4, h5⟩ := run_append_row (P := P) w t o.type e z size bytes ht hinfo hzs hsz v n xs hrow xv m news hsrc h63 hbytes
  unfold Oper.wp execOp
  simp only [ho, resolve, invoke, builtin, Sem.run_bind, Sem.run_pure, Result.andThen_ok, List.map_toArray, List.map_cons, List.map_nil, hs, hx, hr]
  obtain ⟨A, c, rfl⟩ := h2.form
  exact hK _ _ (h A c w' h2 h3 h4 h5)

/-- The same as one step of a region that draws its order. -/
theorem step_append_row {P : Program} {ops : Array Oper} {o : Oper} {a : Act} {w : World} {K : Act → World → Prop} {Q : Exit → Act → World → Prop} {E : Prop} (hgd : o.guard = none) (s x : Operand) (t : TypeId)
    (ho : o.op = .call { callee := .builtin .append, args := #[s, x], argTypes := #[t, t] })
    (e : TypeId) (z : Value) (size bytes : Nat) (ht : P.underlying t = some (.slice e))
    (hinfo : (P.info? e).map (fun i => (i.zero, i.size, i.bytes)) = some (some z, size, bytes)) (hzs : z.cells.size = size) (hsz : 0 < size)
    (v : Value) (n : Nat) (xs : List Value) (hs : a.eval s = v) (hrow : Row w e size v n xs)
    (m : Nat) (news : List Value) (xv : Value) (hx : a.eval x = xv) (hsrc : Src w xv m size news)
    (h63 : n + m ≤ maxLen) (hbytes : (n + m) * bytes ≤ 140737488355328)
    (h : ∀ A c w', Row w' e size (.slice A (n + m) c) (n + m) (xs ++ news) → Fr (fun k => v.ownBlock = some k) w w' → (Value.slice A (n + m) c = .slice none 0 0 ↔ v = .slice none 0 0 ∧ m = 0) →
      ((Value.slice A (n + m) c).ownBlock = v.ownBlock ∨ ∃ k, (Value.slice A (n + m) c).ownBlock = some k ∧ w.heap.size ≤ k) → K (a.put o.dst (.slice A (n + m) c)) w') : if Region.wanted o (yielded ops a.tmps) = true then Oper.wp P o a w K Q else E := by
  have hw : Region.wanted o (yielded ops a.tmps) = true := by simp [Region.wanted, hgd]
  rw [if_pos hw]
  obtain ⟨v', w', hr, h2, h3, h4, h5⟩ := run_append_row (P := P) w t o.type e z size bytes ht hinfo hzs hsz v n xs hrow xv m news hsrc h63 hbytes
  unfold Oper.wp execOp
  simp only [ho, resolve, invoke, builtin, Sem.run_bind, Sem.run_pure, Result.andThen_ok, List.map_toArray, List.map_cons, List.map_nil, hs, hx, hr]
  obtain ⟨A, c, rfl⟩ := h2.form
  exact h A c w' h2 h3 h4 h5

/-- A contract that leaves the world alone, inside a region that draws (behind none, behind some draws). -/
theorem quietL {P : Program} {f : FuncId} {args : Array Value} {w : World} {n : Nat} {v : Value}
    (h : Calls P f args (w.drewN n) fun e w' => e = .returned v ∧ w.drewN n = w') : Calls P f args (w.drewN n) fun e w'' => e = .returned v ∧ ∃ m, w'' = w.drewN m :=
  h.mono fun _ _ ⟨he, hm⟩ => ⟨he, n, hm.symm⟩
theorem quietA {P : Program} {f : FuncId} {args : Array Value} {w : World} {a n : Nat} {v : Value}
    (h : Calls P f args (w.drewN (a + n)) fun e w' => e = .returned v ∧ w.drewN (a + n) = w') : Calls P f args (w.drewN (a + n)) fun e w'' => e = .returned v ∧ ∃ m, w'' = w.drewN (a + m) :=
  h.mono fun _ _ ⟨he, hm⟩ => ⟨he, n, hm.symm⟩
theorem stillC {P : Program} {f : FuncId} {args : Array Value} {w : World} {v : Value}
    (h : Calls P f args w fun e w' => e = .returned v ∧ w = w') : Calls P f args w fun e w'' => e = .returned v ∧ w'' = w :=
  h.mono fun _ _ ⟨he, hm⟩ => ⟨he, hm.symm⟩

/-- A box of one variable: a captured local, a local whose address is taken. -/
def Box (w : World) (b : Nat) (T : TypeId) (v : Value) : Prop := Blk w b T [v]
section
variable {S : Nat → Prop} {w w' : World} {b : Nat} {T : TypeId} {v : Value}
theorem Box.cell (h : Box w b T v) : w.cell? ⟨b, 0, none⟩ = some v := Blk.cell h 0 rfl
theorem Box.free (h : Box w b T v) : w.frozen? ⟨b, 0, none⟩ = false := Blk.free h 0
theorem Box.fr (h : Box w b T v) (hf : Fr S w w') (hn : ¬ S b) : Box w' b T v := Blk.fr h hf hn
theorem Box.no (h : Box w b T v) (hf : Fr No w w') : Box w' b T v := Blk.fr h hf fun x => x
theorem Box.lt (h : Box w b T v) : b < w.heap.size := Blk.lt h
theorem Box.set (h : Box w b T v) (u : Value) : Box (w.setCell ⟨b, 0, none⟩ u) b T u := Blk.set h 0 u
theorem Box.far (h : Box w b T v) {a : Addr} (hn : b ≠ a.block) (u : Value) : Box (w.setCell a u) b T v := Blk.far h hn u
end

theorem oneCell_ints (k : IntKind) (zs : List Int) : ∀ u ∈ zs.map (Value.int k), u.oneCell' = true := by
  intro u hu
  obtain ⟨_, _, rfl⟩ := List.mem_map.1 hu
  rfl

/-- A slice that is read: its cells, wherever they lie. -/
def Rd (w : World) (v : Value) (n sz : Nat) (xs : List Value) : Prop :=
  xs.length = n * sz ∧ n ≤ maxLen ∧ ((n = 0 ∧ ∃ a c, v = .slice a 0 c) ∨ ∃ b off c, v = .slice (some ⟨b, off, none⟩) n c ∧ n ≤ c ∧ c ≤ maxLen ∧ (0 < xs.length → b < w.heap.size) ∧ ∀ j u, xs[j]? = some u → w.cell? ⟨b, off + j, none⟩ = some u)

section
variable {S : Nat → Prop} {w w' : World} {v : Value} {n sz : Nat} {xs : List Value}
theorem Rd.no (h : Rd w v n sz xs) (hf : Fr No w w') : Rd w' v n sz xs := by
  obtain ⟨h1, h2, h3⟩ := h
  refine ⟨h1, h2, ?_⟩
  rcases h3 with h3 | ⟨b, off, c, hv, q1, q2, q3, q4⟩
  · exact .inl h3
  · refine .inr ⟨b, off, c, hv, q1, q2, fun h => Nat.lt_of_lt_of_le (q3 h) hf.size, fun j u hu => ?_⟩
    rw [hf.cell (q3 (List.length_pos_iff.2 (fun e => by rw [e] at hu; simp at hu))) (fun x => x)]
    exact q4 j u hu
theorem Rd.form (h : Rd w v n sz xs) : ∃ a c, v = .slice a n c ∧ n ≤ c := by
  rcases h.2.2 with ⟨h1, a, c, h2⟩ | ⟨b, off, c, h1, h3, _⟩
  · exact ⟨a, c, by rw [h2, h1], by omega⟩
  · exact ⟨_, _, h1, h3⟩
theorem Rd.addr (h : Rd w v n sz xs) (hn : 0 < n) : ∃ b off c, v = .slice (some ⟨b, off, none⟩) n c ∧ n ≤ c ∧ (∀ j u, xs[j]? = some u → w.cell? ⟨b, off + j, none⟩ = some u) := by
  rcases h.2.2 with ⟨h2, _⟩ | ⟨b, off, c, h1, h3, _, _, h4⟩
  · omega
  · exact ⟨b, off, c, h1, h3, h4⟩
theorem Row.rd {T : Nat} (h : Row w T sz v n xs) : Rd w v n sz xs := by
  refine ⟨h.1, h.le, ?_⟩
  rcases h.2 with ⟨h1, h2⟩ | ⟨g, off, cap, cur, hv, hg, h3, h4, h5, h6⟩
  · exact .inl ⟨h2, none, 0, h1⟩
  · refine .inr ⟨g, off, cap, hv, h3, h4, fun _ => (Array.getElem?_eq_some_iff.1 hg).1, fun j u hu => ?_⟩
    rw [cell_of_row w g _ _ _ _ hg]
    rw [← h6, List.getElem?_take] at hu
    split at hu
    · rw [List.getElem?_drop] at hu; simpa using hu
    · cases hu
end

end Go.Proofs.Ytjnidblfgdlgnaa
