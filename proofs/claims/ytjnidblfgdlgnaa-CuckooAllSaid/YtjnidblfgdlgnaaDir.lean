/- How a cuckoo directory lies in memory: a block of 97 cells. No program in sight. -/
import Derived.Test.YtjnidblfgdlgnaaBase
import Derived.Test.YtjnidblfgdlgnaaCk
namespace Go.Proofs.Ytjnidblfgdlgnaa
set_option linter.unusedVariables false
set_option linter.unusedSimpArgs false
open Go.RowKit

def Ck.Ent.cells (e : Ck.Ent) : List Value := [.bool e.has, .int .i64 e.id, .int .i64 e.tag]
theorem Ck.Ent.cells_len (e : Ck.Ent) : e.cells.length = 3 := rfl

/-- The entries of slots 0 to 31. -/
def entCells (D : Nat → Ck.Ent) : List Value := ((List.range 32).map D).flatMap Ck.Ent.cells
def dirCells (D : Nat → Ck.Ent) (n : Int) : List Value := entCells D ++ [.int .i64 n]
def DirAt (T : TypeId) (w : World) (b : Nat) (D : Nat → Ck.Ent) (n : Int) : Prop := Blk w b T (dirCells D n)

theorem entCells_len (D : Nat → Ck.Ent) : (entCells D).length = 96 := by
  unfold entCells; rw [length_flat _ 3 Ck.Ent.cells_len, List.length_map, List.length_range]

theorem entCells_get (D : Nat → Ck.Ent) {k j : Nat} (hk : k < 32) (hj : j < 3) : (entCells D)[k * 3 + j]? = (D k).cells[j]? := by
  unfold entCells
  rw [getElem?_flat _ 3 Ck.Ent.cells_len hj, List.getElem?_map, List.getElem?_range hk]; rfl

theorem dirCells_get (D : Nat → Ck.Ent) (n : Int) {k j : Nat} (hk : k < 32) (hj : j < 3) : (dirCells D n)[k * 3 + j]? = (D k).cells[j]? := by
  unfold dirCells
  rw [List.getElem?_append_left (by rw [entCells_len]; omega), entCells_get D hk hj]
theorem dirCells_n (D : Nat → Ck.Ent) (n : Int) : (dirCells D n)[96]? = some (.int .i64 n) := by
  unfold dirCells
  rw [List.getElem?_append_right (by rw [entCells_len]; omega), entCells_len]; rfl

section
variable {T : TypeId} {w w' : World} {b : Nat} {D : Nat → Ck.Ent} {n : Int} {S : Nat → Prop}
theorem DirAt.c0 (h : DirAt T w b D n) {k : Nat} (hk : k < 32) : w.cell? ⟨b, k * 3, none⟩ = some (.bool (D k).has) := Blk.cell h _ (by rw [← Nat.add_zero (k * 3), dirCells_get D n hk (by omega)]; rfl)
theorem DirAt.c1 (h : DirAt T w b D n) {k : Nat} (hk : k < 32) : w.cell? ⟨b, k * 3 + 1, none⟩ = some (.int .i64 (D k).id) := Blk.cell h _ (by rw [dirCells_get D n hk (by omega)]; rfl)
theorem DirAt.c2 (h : DirAt T w b D n) {k : Nat} (hk : k < 32) : w.cell? ⟨b, k * 3 + 2, none⟩ = some (.int .i64 (D k).tag) := Blk.cell h _ (by rw [dirCells_get D n hk (by omega)]; rfl)
theorem DirAt.c96 (h : DirAt T w b D n) : w.cell? ⟨b, 96, none⟩ = some (.int .i64 n) := Blk.cell h _ (dirCells_n D n)
theorem DirAt.fr (h : DirAt T w b D n) (hf : Fr S w w') (hn : ¬ S b) : DirAt T w' b D n := Blk.fr h hf hn
theorem DirAt.no (h : DirAt T w b D n) (hf : Fr No w w') : DirAt T w' b D n := Blk.fr h hf fun x => x
theorem DirAt.lt (h : DirAt T w b D n) : b < w.heap.size := Blk.lt h
theorem DirAt.drew (h : DirAt T w b D n) : DirAt T w.drew b D n := h
theorem DirAt.drewN (h : DirAt T w b D n) (m : Nat) : DirAt T (w.drewN m) b D n := h
theorem DirAt.alloc (h : DirAt T w b D n) (o : Obj) : DirAt T (w.alloc o) b D n := Blk.alloc h o

theorem map_upd (D : Nat → Ck.Ent) (k : Nat) (e : Ck.Ent) : (List.range 32).map (Ck.upd D k e) = ((List.range 32).map D).set k e := by
  apply List.ext_getElem?
  intro i
  rw [List.getElem?_map, List.getElem?_set, List.length_map, List.length_range, List.getElem?_map]
  by_cases hi : i < 32
  · rw [List.getElem?_range hi]
    by_cases hik : k = i
    · subst hik; simp [hi, Ck.upd_same]
    · simp [hik, Ck.upd_ne D e (fun h => hik h.symm)]
  · rw [List.getElem?_eq_none (by simp; omega)]
    simp
    intro h; omega

theorem dirCells_set (D : Nat → Ck.Ent) (n : Int) {k : Nat} (hk : k < 32) (e : Ck.Ent) :
    (((dirCells D n).set (k * 3) (.bool e.has)).set (k * 3 + 1) (.int .i64 e.id)).set (k * 3 + 2) (.int .i64 e.tag) = dirCells (Ck.upd D k e) n := by
  unfold dirCells entCells
  rw [map_upd]
  exact flat_set3 Ck.Ent.cells Ck.Ent.cells_len _ k e _ _ _ rfl _ (by simpa using hk)

/-- An entry stored into slot k. -/
theorem DirAt.put (h : DirAt T w b D n) {k : Nat} (hk : k < 32) (e : Ck.Ent) :
    DirAt T (((w.setCell ⟨b, k * 3, none⟩ (.bool e.has)).setCell ⟨b, k * 3 + 1, none⟩ (.int .i64 e.id)).setCell ⟨b, k * 3 + 2, none⟩ (.int .i64 e.tag)) b (Ck.upd D k e) n := by
  have h3 := ((Blk.set h (k * 3) (.bool e.has)).set (k * 3 + 1) (.int .i64 e.id)).set (k * 3 + 2) (.int .i64 e.tag)
  rw [dirCells_set D n hk e] at h3
  exact h3
theorem DirAt.put_at (h : DirAt T w b D n) {k o : Nat} (hk : k < 32) (ho : o = k * 3) (x : Bool) (y z : Int) :
    DirAt T (((w.setCell ⟨b, o, none⟩ (.bool x)).setCell ⟨b, o + 1, none⟩ (.int .i64 y)).setCell ⟨b, o + 2, none⟩ (.int .i64 z)) b (Ck.upd D k ⟨x, y, z⟩) n := by
  subst ho
  exact h.put hk ⟨x, y, z⟩
theorem set_same {α : Type} {l : List α} {i : Nat} {v : α} (h : l[i]? = some v) : l.set i v = l := by
  apply List.ext_getElem?
  intro j
  rw [List.getElem?_set]
  split
  · rename_i e; subst e
    have : i < l.length := (List.getElem?_eq_some_iff.1 h).1
    rw [if_pos this, h]
  · rfl
/-- An entry's number stored. -/
theorem DirAt.putId (h : DirAt T w b D n) {k : Nat} (hk : k < 32) (id : Int) : DirAt T (w.setCell ⟨b, k * 3 + 1, none⟩ (.int .i64 id)) b (Ck.upd D k ⟨(D k).has, id, (D k).tag⟩) n := by
  have h3 := Blk.set h (k * 3 + 1) (.int .i64 id)
  have e := dirCells_set D n hk ⟨(D k).has, id, (D k).tag⟩
  have g0 : (dirCells D n)[k * 3]? = some (.bool (D k).has) := by rw [← Nat.add_zero (k * 3), dirCells_get D n hk (by omega)]; rfl
  have g2 : (dirCells D n)[k * 3 + 2]? = some (.int .i64 (D k).tag) := by rw [dirCells_get D n hk (by omega)]; rfl
  rw [set_same g0, set_same (v := Value.int .i64 (D k).tag) (by rw [List.getElem?_set_ne (by omega)]; exact g2)] at e
  rw [e] at h3
  exact h3
theorem DirAt.far (h : DirAt T w b D n) {a : Addr} (hn : b ≠ a.block) (v : Value) : DirAt T (w.setCell a v) b D n := Blk.far h hn v
theorem DirAt.putN (h : DirAt T w b D n) (m : Int) : DirAt T (w.setCell ⟨b, 96, none⟩ (.int .i64 m)) b D m := by
  have h3 := Blk.set h 96 (.int .i64 m)
  have e : (dirCells D n).set 96 (.int .i64 m) = dirCells D m := by
    unfold dirCells
    rw [List.set_append_right _ _ (by rw [entCells_len]; omega), entCells_len]; rfl
  rw [e] at h3
  exact h3
end
end Go.Proofs.Ytjnidblfgdlgnaa
