/- Walks: slices.Sort of numbers, in the words of rows; Find; Set. -/
import Derived.Test.YtjnidblfgdlgnaaCkWd
import Derived.Test.YtjnidblfgdlgnaaCkWg
import Derived.Test.YtjnidblfgdlgnaaShelf
namespace Go.Proofs.Ytjnidblfgdlgnaa
set_option linter.unusedVariables false
set_option linter.unusedSimpArgs false
open Go.RowKit

/-- Behind the shelf's sort: the block's cells are the sorted ones, all else is as it was. -/
theorem row_sorted {α : Type} [Inhabited α] (enc : α → Value) {w : World} {T g off n cap : Nat} {cur : Array Value} {l l' : List α} (hl : l.length = n) (hl' : l'.length = n) (hg : w.heap[g]? = some (.cells cur T (0, 0))) (h1 : n ≤ cap) (h2 : cap ≤ maxLen) (h3 : off + cap * 1 ≤ cur.size)
    (m : Nat) (os : Array Obj) : Row (Sort.grow (Sort.putRow enc (Sort.ahead w m) g off l'.toArray) os) T 1 (.slice (some ⟨g, off, none⟩) n cap) n (l'.map enc) ∧
      Fr (At1 g) w (Sort.grow (Sort.putRow enc (Sort.ahead w m) g off l'.toArray) os) := by
  have hlt : g < w.heap.size := (Array.getElem?_eq_some_iff.1 hg).1
  have hb : (Sort.grow (Sort.putRow enc (Sort.ahead w m) g off l'.toArray) os).heap[g]? = some (.cells (Sort.putCells enc off l'.toArray cur) T (0, 0)) := by
    have e : (Sort.grow (Sort.putRow enc (Sort.ahead w m) g off l'.toArray) os).heap = w.heap.modify g (Sort.onCells (Sort.putCells enc off l'.toArray)) ++ os := rfl
    rw [e, Array.getElem?_append_left (by simpa using hlt), Array.getElem?_modify, if_pos rfl, hg]
    rfl
  refine ⟨⟨by simp [hl'], .inr ⟨g, off, cap, _, rfl, hb, h1, h2, ?_, ?_⟩⟩, ⟨rfl, rfl, rfl, ?_, ?_⟩⟩
  · unfold Sort.putCells; simpa using h3
  · apply List.ext_getElem?
    intro j
    rw [Nat.mul_one, List.getElem?_take]
    by_cases hj : j < n
    · rw [if_pos hj, List.getElem?_drop, List.getElem?_map]
      unfold Sort.putCells
      rw [Array.getElem?_toList, Array.getElem?_mapIdx]
      have hc : off + j < cur.size := by omega
      rw [Array.getElem?_eq_getElem hc, Option.map_some]
      have hj' : j < l'.length := by omega
      rw [if_pos (by simp; omega), List.getElem?_eq_getElem hj', Option.map_some]
      congr 2
      rw [show off + j - off = j by omega]
      simp [hj']
    · rw [if_neg hj, List.getElem?_eq_none (by simp; omega)]
  · show w.heap.size ≤ (w.heap.modify g (Sort.onCells (Sort.putCells enc off l'.toArray)) ++ os).size
    simp
  · intro k hk hne
    show (w.heap.modify g (Sort.onCells (Sort.putCells enc off l'.toArray)) ++ os)[k]? = _
    rw [Array.getElem?_append_left (by simpa using hk), Array.getElem?_modify, if_neg (fun e => hne e.symm)]

def sortI (l : List Int) : List Int := l.mergeSort fun x y => decide (x ≤ y)

theorem sort_int_any (A : Option Addr) (n cap : Nat) (l : List Int) (w : World) (hn : l.length = n) (hbig : l.length < 4611686018427387904) (hr : Row w 3 1 (.slice A n cap) n (l.map (Value.int .i64))) :
    Calls Try.prog 67 #[.slice A n cap] w fun e w' => e = .returned (.tuple #[]) ∧ Row w' 3 1 (.slice A n cap) n ((sortI l).map (Value.int .i64)) ∧ Fr (fun k => (Value.slice A n cap).ownBlock = some k) w w' := by
  by_cases h0 : n = 0
  · subst h0
    obtain rfl : l = [] := List.eq_nil_of_length_eq_zero hn
    refine (Try.slices_Sort_int_none A cap w).mono ?_
    rintro e w' ⟨he, rfl⟩
    exact ⟨he, by simpa [sortI] using hr, Fr.refl _ _⟩
  · rcases hr.2 with ⟨_, h⟩ | ⟨g, off, cap', cur, hv, hg, h1, h2, h3, h4⟩
    · exact absurd h h0
    · injection hv with e1 e2 e3
      subst e1 e3
      subst hn
      refine (Try.slices_Sort_int g off cap l w ?_ (Array.getElem?_eq_some_iff.1 hg).1 hbig).mono ?_
      · intro j hj
        have hj' : j < l.length := by simpa using hj
        refine ⟨?_, frozen_of_row w g _ _ _ hg⟩
        rw [cell_of_row w g _ _ _ _ hg]
        have := congrArg (fun x => x[j]?) h4
        simp only [List.getElem?_take, Nat.mul_one, hj', if_true, List.getElem?_drop, List.getElem?_map] at this
        rw [Array.getElem?_toList] at this
        rw [this, List.getElem?_eq_getElem hj']
        simp [hj']
      · rintro e w' ⟨he, m, os, rfl⟩
        obtain ⟨r1, r2⟩ := row_sorted (Value.int .i64) (l := l) (l' := sortI l) rfl (by simp [sortI]) hg h1 h2 h3 m os
        exact ⟨he, r1, r2.mono fun k _ e => by have : k = g := e; subst this; rfl⟩

def findI (D : Nat → Ck.Ent) (h : Int) : List Int := sortI (Ck.ids D h 8)
theorem findI_len (D : Nat → Ck.Ent) (h : Int) : (findI D h).length = (Ck.ids D h 8).length := by unfold findI sortI; rw [List.length_mergeSort]

/-- A slice of numbers comes back, in new memory. -/
def NewInts (w : World) (l : List Int) (e : Ending) (w' : World) : Prop :=
  ∃ A cap, e = .returned (.slice A l.length cap) ∧ Row w' 3 1 (.slice A l.length cap) l.length (l.map (Value.int .i64)) ∧ Fr No w w' ∧ ∀ q, (Value.slice A l.length cap).ownBlock = some q → w.heap.size ≤ q

set_option maxHeartbeats 1000000 in
theorem find_any (g : Nat) (D : Nat → Ck.Ent) (n : Int) (h : Int) (w : World) (h0 : 0 ≤ h) (h1 : h < 18446744073709551616) (hd : DirAt tDir w g D n) :
    Calls Try.prog 23 #[.pointer (some ⟨g, 0, none⟩), .int .u64 h] w fun e w' => NewInts w (findI D h) e w' := by
  have hgl := hd.lt
  have hlen := findI_len D h
  have hl8 := Ck.ids_len D h 8
  have HL := Lib.hid hlen
  clear hlen
  go_enter Try.func23, Try.ntmps23
  go_wp2_with fail
  have hb0 : Box (w.alloc (.cells #[.slice none 0 0] 41)) w.heap.size 41 (.slice none 0 0) := Blk.new w _ _
  refine (each_find w.heap.size g w.heap.size D n h (w.alloc (.cells #[.slice none 0 0] 41)) h0 h1 (hd.alloc _) hgl [] ⟨none, 0, hb0, Row.nil _ _ _, Nat.le_refl _, fun q e => by cases e⟩ (by simp) (by simp)).mono ?_
  rintro e w2 ⟨rfl, ⟨A, cap, hb, hr, _, hq⟩, hf⟩
  rw [List.nil_append] at hb hr hq
  have c0 := hb.cell
  have HQ := Lib.hid hq
  clear hq hb0
  go_wp2_with fail
  refine (sort_int_any A _ cap _ w2 rfl (by omega) hr).mono ?_
  rintro e w3 ⟨rfl, hr3, hf3⟩
  have hb3 := hb.fr hf3 (fun e => (HQ.out _ e).2 rfl)
  have c3 := hb3.cell
  go_wp2_with fail
  go_ret
  have fA : Fr No w (w.alloc (.cells #[.slice none 0 0] 41)) := (Fr.refl _ _).alloc _
  refine ⟨A, cap, by rw [HL.out]; rfl, by rw [HL.out]; exact hr3, ?_, fun q e => by rw [HL.out] at e; exact (HQ.out q e).1⟩
  exact (fA.from hf).from (hf3.mono fun k _ e => (HQ.out k e).1)

def SetRes (D : Nat → Ck.Ent) (h old id n : Int) (g : Nat) (w : World) (e : Ending) (w' : World) : Prop :=
  (∃ j, j < 8 ∧ SetHit D h old id j = true ∧ NoneSet D h old id j ∧ e = .returned (.bool true) ∧ DirAt tDir w' g (Ck.upd D (Ck.sq h j) ⟨true, id, (D (Ck.sq h j)).tag⟩) n ∧ Fr (At1 g) w w') ∨
  (NoneSet D h old id 8 ∧ e = .returned (.bool false) ∧ Fr No w w')

set_option maxHeartbeats 1000000 in
theorem set_any (g : Nat) (D : Nat → Ck.Ent) (n : Int) (h old id : Int) (w : World) (h0 : 0 ≤ h) (h1 : h < 18446744073709551616) (hd : DirAt tDir w g D n) :
    Calls Try.prog 21 #[.pointer (some ⟨g, 0, none⟩), .int .u64 h, .int .i64 old, .int .i64 id] w fun e w' => SetRes D h old id n g w e w' := by
  have hgl := hd.lt
  go_enter Try.func21, Try.ntmps21
  go_wp2_with fail
  have z1 : Box (w.alloc (.cells #[.int .i64 old] 3)) w.heap.size 3 (.int .i64 old) := Blk.new w _ _
  have z2 : Box ((w.alloc (.cells #[.int .i64 old] 3)).alloc (.cells #[.int .i64 id] 3)) (w.heap.size + 1) 3 (.int .i64 id) := by
    have := Blk.new (w.alloc (.cells #[.int .i64 old] 3)) #[.int .i64 id] 3
    rwa [World.size_alloc] at this
  have z3 : Box (((w.alloc (.cells #[.int .i64 old] 3)).alloc (.cells #[.int .i64 id] 3)).alloc (.cells #[.bool false] 4)) (w.heap.size + 2) 4 (.bool false) := by
    have := Blk.new ((w.alloc (.cells #[.int .i64 old] 3)).alloc (.cells #[.int .i64 id] 3)) #[.bool false] 4
    rwa [World.size_alloc, World.size_alloc] at this
  refine (each_set g w.heap.size (w.heap.size + 1) (w.heap.size + 2) D n h old id (((w.alloc (.cells #[.int .i64 old] 3)).alloc (.cells #[.int .i64 id] 3)).alloc (.cells #[.bool false] 4)) h0 h1 (((hd.alloc _).alloc _).alloc _)
    (Box.no z1 (((Fr.refl _ _).alloc _).alloc _)) (Box.no z2 ((Fr.refl _ _).alloc _)) z3 (by omega) (by omega) (by omega)).mono ?_
  rintro e w2 ⟨rfl, ⟨j, hj, hh, hno, hd2, hb2, hf2⟩ | ⟨hno, hf2⟩⟩
  · have c2 := hb2.cell
    have HH := Lib.hid hh
    have HNO := Lib.hid hno
    have HD := Lib.hid hd2
    clear hh hno hd2
    go_wp2_with fail
    go_ret
    have fA : Fr (At1 g) w (((w.alloc (.cells #[.int .i64 old] 3)).alloc (.cells #[.int .i64 id] 3)).alloc (.cells #[.bool false] 4)) := (((Fr.refl _ _).alloc _).alloc _).alloc _
    exact .inl ⟨j, hj, HH.out, HNO.out, rfl, HD.out, fA.trans' hf2 fun k hk e => by
      rcases e with e | e
      · exact e
      · omega⟩
  · have c2 := (Box.no z3 hf2).cell
    have HNO := Lib.hid hno
    clear hno
    go_wp2_with fail
    go_ret
    have fA : Fr No w (((w.alloc (.cells #[.int .i64 old] 3)).alloc (.cells #[.int .i64 id] 3)).alloc (.cells #[.bool false] 4)) := (((Fr.refl _ _).alloc _).alloc _).alloc _
    exact .inr ⟨HNO.out, rfl, fA.no hf2⟩

end Go.Proofs.Ytjnidblfgdlgnaa
