/- Walk: CuckooAll. -/
import Derived.Test.YtjnidblfgdlgnaaLawF
import Derived.Test.YtjnidblfgdlgnaaLawB
import Derived.Test.YtjnidblfgdlgnaaArgs
import Derived.Deep.CutBlock
import Derived.Deep.CutRange
namespace Go.Proofs.Ytjnidblfgdlgnaa
set_option linter.unusedVariables false
set_option linter.unusedSimpArgs false
open Go.RowKit

/-- One operation that came in. -/
structure OpV where
  kind : Int
  id : Int
  old : Int
  h : Int
def opCs (o : OpV) : List Value := [.int .i64 o.kind, .int .i64 o.id, .int .i64 o.old, .int .u64 o.h]
theorem opCs_len (o : OpV) : (opCs o).length = 4 := rfl

theorem info_u64 : (Try.prog.info? 27).map (fun i => (i.zero, i.size, i.bytes)) = some (some (.int .u64 0), 1, 8) := by kernel_rfl

/-- Frames, read off the world. -/
theorem Fr.a {S : Nat → Prop} {w w' : World} (h : Fr S w w') (o : Obj) : Fr S w (w'.alloc o) := h.alloc o

/-- What the law keeps: the directory, the entries, their hashes. -/
def AllAt (w wr : World) (g : Nat) (o p : Value) (rs : List Ck.Ref) : Prop :=
  ∃ (A : Option Addr) (cap : Nat) (B : Option Addr) (cap' : Nat), o = .slice A rs.length cap ∧ p = .slice B rs.length cap' ∧ Ents wr (.slice A rs.length cap) rs ∧
    Row wr 27 1 (.slice B rs.length cap') rs.length ((rs.map Prod.fst).map (Value.int .u64)) ∧ DirL wr g rs ∧ (∀ r ∈ rs, 0 ≤ r.1 ∧ r.1 < 18446744073709551616) ∧ Fr No w wr ∧
    (∀ q, (Value.slice A rs.length cap).ownBlock = some q → w.heap.size ≤ q ∧ q ≠ g) ∧ (∀ q, (Value.slice B rs.length cap').ownBlock = some q → w.heap.size ≤ q ∧ q ≠ g ∧ (Value.slice A rs.length cap).ownBlock ≠ some q)

theorem keepS {wq x x' : World} {q : Nat} {u : Value} (h : x.cell? ⟨q, 3, none⟩ = some u ∧ Fr No wq x) (hf : Fr No x x') : x'.cell? ⟨q, 3, none⟩ = some u ∧ Fr No wq x' :=
  ⟨by rw [hf.cell (a := ⟨q, 3, none⟩) (World.block_lt_of_cell? x _ h.1) (fun x => x)]; exact h.1, h.2.no hf⟩

theorem eq17_same (v1 v2 : Value) (l : List Int) (w : World) (h1 : Rd w v1 l.length 1 (l.map (Value.int .i64))) (h2 : Rd w v2 l.length 1 (l.map (Value.int .i64))) :
    Calls Try.prog 22 #[v1, v2] w fun e w' => e = .returned (.bool true) ∧ Fr No w w' := by
  have := eq17_any v1 v2 l l w h1 h2
  rwa [decide_eq_true rfl] at this

/-- The same under a guard that holds. -/
theorem step_append_rowG {P : Program} {ops : Array Oper} {o : Oper} {a : Act} {w : World} {K : Act → World → Prop} {Q : Exit → Act → World → Prop} {E : Prop} (hw : Region.wanted o (yielded ops a.tmps) = true) (s x : Operand) (t : TypeId)
    (ho : o.op = .call { callee := .builtin .append, args := #[s, x], argTypes := #[t, t] })
    (e : TypeId) (z : Value) (size bytes : Nat) (ht : P.underlying t = some (.slice e))
    (hinfo : (P.info? e).map (fun i => (i.zero, i.size, i.bytes)) = some (some z, size, bytes)) (hzs : z.cells.size = size) (hsz : 0 < size)
    (v : Value) (n : Nat) (xs : List Value) (hs : a.eval s = v) (hrow : Row w e size v n xs)
    (m : Nat) (news : List Value) (xv : Value) (hx : a.eval x = xv) (hsrc : Src w xv m size news)
    (h63 : n + m ≤ maxLen) (hbytes : (n + m) * bytes ≤ 140737488355328)
    (h : ∀ A c w', Row w' e size (.slice A (n + m) c) (n + m) (xs ++ news) → Fr (fun k => v.ownBlock = some k) w w' → (Value.slice A (n + m) c = .slice none 0 0 ↔ v = .slice none 0 0 ∧ m = 0) →
      ((Value.slice A (n + m) c).ownBlock = v.ownBlock ∨ ∃ k, (Value.slice A (n + m) c).ownBlock = some k ∧ w.heap.size ≤ k) → K (a.put o.dst (.slice A (n + m) c)) w') : if Region.wanted o (yielded ops a.tmps) = true then Oper.wp P o a w K Q else E := by
  rw [if_pos hw]
  obtain ⟨v', w', hr, h2, h3, h4, h5⟩ := run_append_row (P := P) w t o.type e z size bytes ht hinfo hzs hsz v n xs hrow xv m news hsrc h63 hbytes
  unfold Oper.wp execOp
  simp only [ho, resolve, invoke, builtin, Sem.run_bind, Sem.run_pure, Result.andThen_ok, List.map_toArray, List.map_cons, List.map_nil, hs, hx, hr]
  obtain ⟨A, c, rfl⟩ := h2.form
  exact h A c w' h2 h3 h4 h5


theorem Src.fr {S : Nat → Prop} {w w' : World} {x : Value} {m sz : Nat} {news : List Value} (h : Src w x m sz news) (hf : Fr S w w') (hn : ∀ k, x.ownBlock = some k → k < w.heap.size ∧ ¬ S k) : Src w' x m sz news := by
  obtain ⟨h1, h2, h3⟩ := h
  refine ⟨h1, h2, ?_⟩
  rcases h3 with h3 | ⟨ad, c, rfl, h4⟩
  · exact .inl h3
  · refine .inr ⟨ad, c, rfl, fun j u hu => ?_⟩
    obtain ⟨q1, q2⟩ := hn ad.block rfl
    have hb : (ad.add j).block = ad.block := by unfold Addr.add; split <;> rfl
    rw [hf.cell (a := ad.add j) (by rw [hb]; exact q1) (by rw [hb]; exact q2)]
    exact h4 j u hu

theorem Src.drew {w : World} {x : Value} {m sz : Nat} {news : List Value} (h : Src w x m sz news) : Src w.drew x m sz news := h

theorem Blk.src {w : World} {b T : Nat} {cs : List Value} (h : Blk w b T cs) (h1 : ∀ u ∈ cs, u.oneCell' = true) (m sz c : Nat) (hm : cs.length = m * sz) : Src w (.slice (some ⟨b, 0, none⟩) m c) m sz cs :=
  ⟨hm, h1, .inr ⟨_, _, rfl, fun j u hu => by rw [add_eq, Nat.zero_add]; exact h.cell j hu⟩⟩
theorem Blk.new2 (w : World) (o : Obj) (a : Array Value) (T : Nat) : Blk ((w.alloc o).alloc (.cells a T)) (w.heap.size + 1) T a.toList := by
  have := Blk.new (w.alloc o) a T
  rwa [World.size_alloc] at this

theorem keepB {wq x : World} {S : Nat → Prop} {q : Nat} {u v : Value} (h : wq.cell? ⟨q, 1, none⟩ = some v ∧ wq.cell? ⟨q, 3, none⟩ = some u) (hf : Fr S wq x) (hq : ¬ S q) : x.cell? ⟨q, 1, none⟩ = some v ∧ x.cell? ⟨q, 3, none⟩ = some u ∧ Fr S wq x :=
  ⟨by rw [hf.cell (a := ⟨q, 1, none⟩) (World.block_lt_of_cell? wq _ h.1) hq]; exact h.1, by rw [hf.cell (a := ⟨q, 3, none⟩) (World.block_lt_of_cell? wq _ h.2) hq]; exact h.2, hf⟩

theorem own_new {wq x w4 : World} {A : Option Addr} {n c : Nat} (_h4 : Fr No wq w4) (ho : (Value.slice A n c).ownBlock = (Value.slice none 0 0).ownBlock ∨ ∃ k, (Value.slice A n c).ownBlock = some k ∧ x.heap.size ≤ k) (_hx : Fr No x w4) (hq : Fr No wq x) {k : Nat} (e : (Value.slice A n c).ownBlock = some k) : wq.heap.size ≤ k := by
  rcases ho with ho | ⟨k', ho, h3⟩
  · rw [ho] at e; cases e
  · rw [ho] at e; injection e with e; subst e; exact Nat.le_trans hq.size h3
theorem own_or {S : Nat → Prop} {w6 x : World} {v v0 : Value} (ho : v.ownBlock = v0.ownBlock ∨ ∃ k, v.ownBlock = some k ∧ x.heap.size ≤ k) (hq : Fr S w6 x) : ∀ k, v.ownBlock = some k → v0.ownBlock = some k ∨ w6.heap.size ≤ k := by
  intro k e
  rcases ho with ho | ⟨k', ho, h3⟩
  · rw [ho] at e; exact .inl e
  · rw [ho] at e; injection e with e; subst e; exact .inr (Nat.le_trans hq.size h3)
theorem rd_snoc {w : World} {A : Option Addr} {c T : Nat} {rs : List Ck.Ref} {h : Int} (hr : Row w T 1 (.slice A (rs.length + 1) c) (rs.length + 1) ((rs.map Prod.fst).map (Value.int .u64) ++ [.int .u64 h])) :
    Rd w (.slice A (rs.length + 1) c) (rs.map Prod.fst ++ [h]).length 1 ((rs.map Prod.fst ++ [h]).map (Value.int .u64)) := by
  have := hr.rd
  simpa using this
theorem ents_set {rs : List Ck.Ref} {j : Nat} {rh rid id : Int} (hr : rs[j]? = some (rh, rid)) : (rs.flatMap entCs).set (j * 2 + 1) (.int .i64 id) = (rs.set j (rh, id)).flatMap entCs := by
  induction rs generalizing j with
  | nil => simp at hr
  | cons a rs ih =>
    cases j with
    | zero =>
      simp at hr
      subst hr
      rfl
    | succ j =>
      have := ih (j := j) (by simpa using hr)
      rw [List.set_cons_succ, List.flatMap_cons, List.flatMap_cons, ← this, List.set_append_right _ _ (by rw [entCs_len]; omega), entCs_len]
      congr 2
      omega
theorem may_no {id : Int} (h : mayB id = false) : id < 0 ∨ 1099511627776 < id := by
  have := of_decide_eq_false h
  omega
theorem may_yes {id : Int} (h : mayB id = true) : 0 ≤ id ∧ id ≤ 1099511627776 := of_decide_eq_true h

set_option maxRecDepth 100000 in
set_option maxHeartbeats 8000000 in
theorem all_in (n c : Nat) (a : Option Addr) (os : List OpV) (w : World) (hr : Rd w (.slice a n c) n 4 (os.flatMap opCs)) (hlen : os.length = n) (hb : ∀ o ∈ os, 0 ≤ o.h ∧ o.h < 18446744073709551616) :
    Calls Try.prog 5 #[.slice a n c] w fun e w' => e = .returned (.bool true) ∧ Fr No w w' := by
  have hm := hr.2.1
  unfold maxLen at hm
  have HR := Lib.hid hr
  have HB := Lib.hid hb
  have HL := Lib.hid hlen
  clear hr hb hlen
  go_enter Try.func5, Try.ntmps5
  go_wp2_with (first | (go_at_call 15; refine (begun17_any _).mono ?_; rintro e w1 ⟨rfl, hf0⟩))
  refine (new_dir _).mono ?_
  rintro e w2 ⟨rfl, hd2, hf2⟩
  have hf02 := hf0.no hf2
  have hgN : w.heap.size ≤ w1.heap.size := hf0.size
  obtain ⟨g, hg⟩ : ∃ g, g = w1.heap.size := ⟨_, rfl⟩
  rw [← hg] at hd2 hgN ⊢
  have hst : AllAt w w2 g (.slice none 0 0) (.slice none 0 0) [] := ⟨none, 0, none, 0, rfl, rfl, Row.nil _ _ _, Row.nil _ _ _, hd2, (fun r hr => by cases hr), hf02, (fun q e => by cases e), fun q e => by cases e⟩
  have HST := Lib.hid hst
  clear hd2 hf0 hf2 hf02 hg hst
  go_wp2_with fail
  go_loopw [5, 6, 7] (fun o p v wr => ∃ i : Nat, i ≤ n ∧ v = .int .i64 i ∧ ∃ rs, AllAt w wr g o p rs) (fun _ _ v _ => n - (intOf v).toNat)
  case atStart => exact ⟨0, by omega, rfl, [], HST.out⟩
  case round =>
    obtain ⟨i, hi, rfl, rs, A, cap, B, cap', rfl, rfl, he, hrow, hd, hbd, hf, hqa, hqb⟩ := hrel
    have hl32 := hd.len
    have HE := Lib.hid he
    have HROW := Lib.hid hrow
    have HD := Lib.hid hd
    have HBD := Lib.hid hbd
    have HQA := Lib.hid hqa
    have HQB := Lib.hid hqb
    clear he hrow hd hbd hqa hqb
    by_cases hlt : i < n ∧ i < 60
    · obtain ⟨hlt, h60⟩ := hlt
      obtain ⟨o, ho⟩ : ∃ o, os[i]? = some o := ⟨_, List.getElem?_eq_getElem (by rw [HL.out]; exact hlt)⟩
      obtain ⟨b, off, c2, hv, hc1, hcell⟩ := (HR.out.no hf).addr (by omega)
      injection hv with q1 q2 q3
      subst q1 q3
      obtain ⟨h0, h1⟩ := HB.out o (List.mem_of_getElem? ho)
      have hc : ∀ j, j < 4 → ∀ u, (opCs o)[j]? = some u → wr.cell? ⟨b, off + (i * 4 + j), none⟩ = some u := fun j hj u hu => hcell (i * 4 + j) u (by rw [getElem?_flat opCs 4 opCs_len hj, ho]; exact hu)
      obtain ⟨kind, id, old, h⟩ := o
      have c0 : wr.cell? ⟨b, off + i * 4, none⟩ = some (.int .i64 kind) := hc 0 (by omega) _ rfl
      have c1 : wr.cell? ⟨b, off + i * 4 + 1, none⟩ = some (.int .i64 id) := by rw [Nat.add_assoc]; exact hc 1 (by omega) _ rfl
      have c2 : wr.cell? ⟨b, off + i * 4 + 2, none⟩ = some (.int .i64 old) := by rw [Nat.add_assoc]; exact hc 2 (by omega) _ rfl
      have c3 : wr.cell? ⟨b, off + i * 4 + 3, none⟩ = some (.int .u64 h) := by rw [Nat.add_assoc]; exact hc 3 (by omega) _ rfl
      dsimp only at h0 h1
      clear hc hcell ho
      have i0 : ((i : Nat) : Int) < ((n : Nat) : Int) := by omega
      have i1 : ((i : Nat) : Int) < 60 := by omega
      go_upto_block 2 with fail
      obtain ⟨wq, hwq⟩ : ∃ wq, wq = wr.alloc (.cells #[.int .i64 kind, .int .i64 id, .int .i64 old, .int .u64 h] 35) := ⟨_, rfl⟩
      rw [← hwq]
      have fq : Fr No wr wq := by rw [hwq]; exact (Fr.refl _ _).alloc _
      have hQ : Blk wq wr.heap.size 35 [.int .i64 kind, .int .i64 id, .int .i64 old, .int .u64 h] := by rw [hwq]; exact Blk.new wr _ _
      obtain ⟨q, hq⟩ : ∃ q, q = wr.heap.size := ⟨_, rfl⟩
      have hqN : w.heap.size ≤ q := by rw [hq]; exact hf.size
      have hqg : g < q := by rw [hq]; exact HD.out.lt
      have hqA : (Value.slice A rs.length cap).ownBlock ≠ some q := fun e => by have := Row.lt HE.out _ e; omega
      have hqB : (Value.slice B rs.length cap').ownBlock ≠ some q := fun e => by have := Row.lt HROW.out _ e; omega
      rw [← hq] at hQ ⊢
      have HE1 := Lib.hid (HE.out.no fq)
      have HROW1 := Lib.hid (HROW.out.no fq)
      have HD1 := Lib.hid (HD.out.no fq)
      have hF := hf.no fq
      clear HE HROW HD hwq fq hq c0 c1 c2 c3
      go_cut [5, 6] from 18 to 150 (fun o p wx => ∃ rs, AllAt w wx g o p rs ∧ Blk wx q 35 [.int .i64 kind, .int .i64 id, .int .i64 old, .int .u64 h])
      case first =>
        cases hk0 : (kind == 0)
        · cases hk1 : (kind == 1)
          · go_wp2_with fail
            go_meet
            case rel => exact ⟨rs, ⟨A, cap, B, cap', rfl, rfl, HE1.out, HROW1.out, HD1.out, HBD.out, hF, HQA.out, HQB.out⟩, hQ⟩
          · go_wp2_with fail
            have c2q : wq.cell? ⟨q, 2, none⟩ = some (.int .i64 old) := hQ.cell 2 rfl
            have c3q : wq.cell? ⟨q, 3, none⟩ = some (.int .u64 h) := hQ.cell 3 rfl
            go_loopw [10, 11, 12] (fun sm cn v wx => ∃ k : Nat, k ≤ rs.length ∧ v = .int .i64 k ∧ sm = .int .i64 (Ck.lastI (Ck.meant h old) rs k) ∧ cn = .int .i64 (((rs.take k).countP (Ck.meant h old) : Nat) : Int) ∧ Fr No wq wx) (fun _ _ v _ => rs.length - (intOf v).toNat)
            case atStart => exact ⟨0, by omega, rfl, rfl, rfl, Fr.refl _ _⟩
            case round =>
              obtain ⟨k, hk, rfl, rfl, rfl, hfx⟩ := hrel
              have hcl : (rs.take k).countP (Ck.meant h old) ≤ k := Nat.le_trans List.countP_le_length (by rw [List.length_take]; omega)
              by_cases hltk : k < rs.length
              · obtain ⟨r, hr⟩ : ∃ r, rs[k]? = some r := ⟨_, List.getElem?_eq_getElem hltk⟩
                obtain ⟨rh, rid⟩ := r
                obtain ⟨bb, offb, cb, hvb, hcb, hblb, hcellb⟩ := (HE1.out.no hfx).cells (by omega)
                injection hvb with q1 q2 q3
                subst q1 q3
                obtain ⟨k0, k1⟩ := hcellb k _ hr
                obtain ⟨r0, r1⟩ := HBD.out _ (List.mem_of_getElem? hr)
                have hsucc := Ck.lastI_succ (f := Ck.meant h old) hr
                have hcs : (rs.take (k + 1)).countP (Ck.meant h old) = (rs.take k).countP (Ck.meant h old) + if Ck.meant h old (rh, rid) then 1 else 0 := by
                  rw [List.take_add_one, hr, List.countP_append]
                  simp [List.countP_singleton]
                have hmt : Ck.meant h old (rh, rid) = (rid == old && Ck.near h rh) := rfl
                rw [hmt] at hsucc hcs
                have d2 : wr.cell? ⟨q, 2, none⟩ = some (.int .i64 old) := by rw [hfx.cell (a := ⟨q, 2, none⟩) hQ.lt (fun x => x)]; exact c2q
                have d3 : wr.cell? ⟨q, 3, none⟩ = some (.int .u64 h) := by rw [hfx.cell (a := ⟨q, 3, none⟩) hQ.lt (fun x => x)]; exact c3q
                dsimp only at k0 k1 r0 r1
                have i2 : ((rs.length : Nat) : Int) ≤ 32 := by omega
                generalize Ck.lastI (Ck.meant h old) rs k = last at *
                generalize (rs.take k).countP (Ck.meant h old) = cn at *
                have HSU := Lib.hid hsucc
                have HCS := Lib.hid hcs
                clear hsucc hcs hmt hcellb hr
                cases c1 : (rid == old)
                · go_wp2_with fail
                  go_quiet (fail)
                  go_wp2_with fail
                  go_roundw
                  case rel => exact ⟨k + 1, by omega, by go_num, by rw [HSU.out, c1]; rfl, by rw [HCS.out, c1]; rfl, hfx.drewN _⟩
                  case measure => simp [intOf]; omega
                · cases c2 : Ck.near h rh
                  · go_wp2_with fail
                    go_quiet ((go_at_call 20; exact quietL (near_any h rh _ h0 h1 r0 r1)))
                    go_wp2_with fail
                    go_roundw
                    case rel => exact ⟨k + 1, by omega, by go_num, by rw [HSU.out, c1, c2]; rfl, by rw [HCS.out, c1, c2]; rfl, hfx.drewN _⟩
                    case measure => simp [intOf]; omega
                  · go_wp2_with fail
                    go_quiet ((go_at_call 20; exact quietL (near_any h rh _ h0 h1 r0 r1)))
                    go_wp2_with fail
                    go_roundw
                    case rel => exact ⟨k + 1, by omega, by go_num, by rw [HSU.out, c1, c2]; rfl, by rw [HCS.out, c1, c2]; go_num, hfx.drewN _⟩
                    case measure => simp [intOf]; omega
              · have hkl : k = rs.length := by omega
                rw [hkl, List.take_length] at hcl ⊢
                have hlb := Ck.lastI_bd (Ck.meant h old) rs rs.length
                have HE2 := Lib.hid (HE1.out.no hfx)
                have HROW2 := Lib.hid (HROW1.out.no hfx)
                have HD2 := Lib.hid (HD1.out.no hfx)
                have hF2 := hF.no hfx
                have hQ2 := Blk.fr hQ hfx (fun x => x)
                clear hkl hltk hk HE1 HROW1 HD1 hF hQ c2q c3q hfx
                by_cases hone : rs.countP (Ck.meant h old) ≤ 1
                · have hds := set_dir g rs h old id wr h0 h1 HD2.out hone
                  have i3 : ((rs.countP (Ck.meant h old) : Nat) : Int) ≤ 1 := by omega
                  generalize hla : Ck.lastI (Ck.meant h old) rs rs.length = la at *
                  have HLA := Lib.hid hla
                  have HONE := Lib.hid hone
                  clear hla hone hcl
                  generalize rs.countP (Ck.meant h old) = cn at i3 ⊢
                  by_cases hla0 : la < 0
                  · have hno := Ck.lastI_no (f := Ck.meant h old) (l := rs) (by rw [HLA.out]; omega)
                    rw [Ck.setB_no hno, Ck.setL_zero hno] at hds
                    have HDS := Lib.hid hds
                    have hla1 : ¬ 0 ≤ la := by omega
                    clear hds hno
                    have c1w : wr.cell? ⟨q, 1, none⟩ = some (.int .i64 id) := hQ2.cell 1 rfl
                    have c2w : wr.cell? ⟨q, 2, none⟩ = some (.int .i64 old) := hQ2.cell 2 rfl
                    have c3w : wr.cell? ⟨q, 3, none⟩ = some (.int .u64 h) := hQ2.cell 3 rfl
                    go_wp2_with fail
                    refine HDS.out.mono ?_
                    rintro e w6 ⟨rfl, hd6, hf6⟩
                    have hg0 : ∀ k, (Value.slice A rs.length cap).ownBlock = some k → ¬ At1 g k := fun k e => (HQA.out k e).2
                    have hg1 : ∀ k, (Value.slice B rs.length cap').ownBlock = some k → ¬ At1 g k := fun k e => (HQB.out k e).2.1
                    have HE6 := Lib.hid (Row.fr HE2.out hf6 hg0)
                    have HROW6 := Lib.hid (HROW2.out.fr hf6 hg1)
                    have hQ6 := Blk.fr hQ2 hf6 (fun e => by have : q = g := e; omega)
                    have hF6 : Fr No w w6 := hF2.trans' hf6 fun k hk e => by have : k = g := e; omega
                    have HD6 := Lib.hid hd6
                    clear hg0 hg1 HE2 HROW2 HD2 hF2 hQ2 hd6 hf6 c1w c2w c3w HDS
                    go_wp2_with fail
                    go_meet
                    case rel => exact ⟨rs, ⟨A, cap, B, cap', rfl, rfl, HE6.out, HROW6.out, HD6.out, HBD.out, hF6, HQA.out, HQB.out⟩, hQ6⟩
                  · obtain ⟨j, rfl⟩ := Int.eq_ofNat_of_zero_le (show 0 ≤ la by omega)
                    obtain ⟨r, hr, hmr⟩ := Ck.lastI_at HLA.out
                    obtain ⟨rh, rid⟩ := r
                    have hjl : j < rs.length := (List.getElem?_eq_some_iff.1 hr).1
                    rw [Ck.setB_eq hr hmr] at hds
                    have HR0 := Lib.hid hr
                    have HMR := Lib.hid hmr
                    have hja : (0 : Int) ≤ ((j : Nat) : Int) := by omega
                    clear hr hmr
                    cases hm : mayB id
                    · have hsl : Ck.setL rs h old id = rs := by unfold Ck.setL; rw [hm]; rfl
                      rw [hm, hsl] at hds
                      have HDS := Lib.hid hds
                      clear hds hsl
                      rcases may_no hm with hneg | hbig
                      · have hn0 : ¬ 0 ≤ id := by omega
                        have c1w : wr.cell? ⟨q, 1, none⟩ = some (.int .i64 id) := hQ2.cell 1 rfl
                        have c2w : wr.cell? ⟨q, 2, none⟩ = some (.int .i64 old) := hQ2.cell 2 rfl
                        have c3w : wr.cell? ⟨q, 3, none⟩ = some (.int .u64 h) := hQ2.cell 3 rfl
                        go_wp2_with fail
                        refine HDS.out.mono ?_
                        rintro e w6 ⟨rfl, hd6, hf6⟩
                        have hg0 : ∀ k, (Value.slice A rs.length cap).ownBlock = some k → ¬ At1 g k := fun k e => (HQA.out k e).2
                        have hg1 : ∀ k, (Value.slice B rs.length cap').ownBlock = some k → ¬ At1 g k := fun k e => (HQB.out k e).2.1
                        have HE6 := Lib.hid (Row.fr HE2.out hf6 hg0)
                        have HROW6 := Lib.hid (HROW2.out.fr hf6 hg1)
                        have hQ6 := Blk.fr hQ2 hf6 (fun e => by have : q = g := e; omega)
                        have hF6 : Fr No w w6 := hF2.trans' hf6 fun k hk e => by have : k = g := e; omega
                        have HD6 := Lib.hid hd6
                        clear hg0 hg1 HE2 HROW2 HD2 hF2 hQ2 hd6 hf6 c1w c2w c3w HDS
                        go_wp2_with fail
                        go_meet
                        case rel => exact ⟨rs, ⟨A, cap, B, cap', rfl, rfl, HE6.out, HROW6.out, HD6.out, HBD.out, hF6, HQA.out, HQB.out⟩, hQ6⟩
                      · have hb0 : 0 ≤ id := by omega
                        have hn0 : ¬ id ≤ 1099511627776 := by omega
                        have c1w : wr.cell? ⟨q, 1, none⟩ = some (.int .i64 id) := hQ2.cell 1 rfl
                        have c2w : wr.cell? ⟨q, 2, none⟩ = some (.int .i64 old) := hQ2.cell 2 rfl
                        have c3w : wr.cell? ⟨q, 3, none⟩ = some (.int .u64 h) := hQ2.cell 3 rfl
                        go_wp2_with fail
                        refine HDS.out.mono ?_
                        rintro e w6 ⟨rfl, hd6, hf6⟩
                        have hg0 : ∀ k, (Value.slice A rs.length cap).ownBlock = some k → ¬ At1 g k := fun k e => (HQA.out k e).2
                        have hg1 : ∀ k, (Value.slice B rs.length cap').ownBlock = some k → ¬ At1 g k := fun k e => (HQB.out k e).2.1
                        have HE6 := Lib.hid (Row.fr HE2.out hf6 hg0)
                        have HROW6 := Lib.hid (HROW2.out.fr hf6 hg1)
                        have hQ6 := Blk.fr hQ2 hf6 (fun e => by have : q = g := e; omega)
                        have hF6 : Fr No w w6 := hF2.trans' hf6 fun k hk e => by have : k = g := e; omega
                        have HD6 := Lib.hid hd6
                        clear hg0 hg1 HE2 HROW2 HD2 hF2 hQ2 hd6 hf6 c1w c2w c3w HDS
                        go_wp2_with fail
                        go_meet
                        case rel => exact ⟨rs, ⟨A, cap, B, cap', rfl, rfl, HE6.out, HROW6.out, HD6.out, HBD.out, hF6, HQA.out, HQB.out⟩, hQ6⟩
                    · obtain ⟨m0, m1⟩ := may_yes hm
                      have hsl : Ck.setL rs h old id = rs.set j (rh, id) := Ck.setL_one hm HONE.out HR0.out HMR.out
                      rw [hm, hsl] at hds
                      have HDS := Lib.hid hds
                      clear hds hsl
                      have c1w : wr.cell? ⟨q, 1, none⟩ = some (.int .i64 id) := hQ2.cell 1 rfl
                      have c2w : wr.cell? ⟨q, 2, none⟩ = some (.int .i64 old) := hQ2.cell 2 rfl
                      have c3w : wr.cell? ⟨q, 3, none⟩ = some (.int .u64 h) := hQ2.cell 3 rfl
                      go_wp2_with fail
                      refine HDS.out.mono ?_
                      rintro e w6 ⟨rfl, hd6, hf6⟩
                      have hg0 : ∀ k, (Value.slice A rs.length cap).ownBlock = some k → ¬ At1 g k := fun k e => (HQA.out k e).2
                      have hg1 : ∀ k, (Value.slice B rs.length cap').ownBlock = some k → ¬ At1 g k := fun k e => (HQB.out k e).2.1
                      have HE6 := Lib.hid (Row.fr HE2.out hf6 hg0)
                      have HROW6 := Lib.hid (HROW2.out.fr hf6 hg1)
                      have hQ6 := Blk.fr hQ2 hf6 (fun e => by have : q = g := e; omega)
                      have hF6 : Fr No w w6 := hF2.trans' hf6 fun k hk e => by have : k = g := e; omega
                      have HD6 := Lib.hid hd6
                      clear hg0 hg1 HE2 HROW2 HD2 hF2 hQ2 hd6 hf6 c1w c2w c3w HDS
                      have c1v : w6.cell? ⟨q, 1, none⟩ = some (.int .i64 id) := hQ6.cell 1 rfl
                      obtain ⟨bb, offb, cb, hvb, hcb, hblb, hcellb⟩ := Ents.cells (w := w6) (v := .slice A rs.length cap) (l := rs) HE6.out (by omega)
                      injection hvb with q1 q2 q3
                      subst q1 q3
                      obtain ⟨k0, k1⟩ := hcellb j _ HR0.out
                      dsimp only at k0 k1
                      have kf : w6.frozen? ⟨bb, offb + j * 2 + 1, none⟩ = false := by rw [Nat.add_assoc]; exact (Row.at HE6.out (by omega)).2 _
                      have hbq : bb ≠ q := fun e => hqA (by rw [e]; rfl)
                      have hbg : bb ≠ g := (HQA.out bb rfl).2
                      have hbN : w.heap.size ≤ bb := (HQA.out bb rfl).1
                      clear hcellb
                      go_wp2_with fail
                      obtain ⟨w7, hw7⟩ : ∃ w7, w7 = w6.setCell ⟨bb, offb + j * 2 + 1, none⟩ (.int .i64 id) := ⟨_, rfl⟩
                      rw [← hw7]
                      have hf7 : Fr (At1 bb) w6 w7 := by rw [hw7]; exact (Fr.refl (At1 bb) w6).setCell (a := ⟨bb, offb + j * 2 + 1, none⟩) (fun _ => rfl) _
                      obtain ⟨rs2, hrs2⟩ : ∃ rs2, rs2 = rs.set j (rh, id) := ⟨_, rfl⟩
                      have hl2 : rs.length = rs2.length := by rw [hrs2, List.length_set]
                      have HE9 : Ents w7 (.slice (some ⟨bb, offb, none⟩) rs2.length cap) rs2 := by
                        have := Row.set HE6.out (j := j * 2 + 1) (by omega) (.int .i64 id)
                        rw [← Nat.add_assoc, ← hw7, ents_set HR0.out] at this
                        unfold Ents
                        rw [← hl2, hrs2]
                        exact this
                      have HROW9 : Row w7 27 1 (.slice B rs2.length cap') rs2.length ((rs2.map Prod.fst).map (Value.int .u64)) := by
                        have e : rs2.map Prod.fst = rs.map Prod.fst := by
                          rw [hrs2]
                          apply List.ext_getElem?
                          intro x
                          simp only [List.getElem?_map, List.getElem?_set]
                          by_cases hx : j = x
                          · subst hx; rw [if_pos rfl, if_pos hjl, HR0.out]; rfl
                          · rw [if_neg hx]
                        rw [← hl2, e]
                        exact HROW6.out.fr hf7 fun k e2 e3 => (HQB.out k e2).2.2 (by rw [show k = bb from e3]; rfl)
                      have hd9 : DirL w7 g rs2 := by rw [hrs2]; exact HD6.out.fr hf7 (fun e => hbg e.symm)
                      have hbd9 : ∀ r ∈ rs2, 0 ≤ r.1 ∧ r.1 < 18446744073709551616 := fun r hr => by
                        rw [hrs2] at hr
                        rcases List.mem_or_eq_of_mem_set hr with hr | rfl
                        · exact HBD.out r hr
                        · exact HBD.out (rh, rid) (List.mem_of_getElem? HR0.out)
                      have hF9 : Fr No w w7 := hF6.trans' hf7 fun k hk e => by have : k = bb := e; omega
                      have hQ9 := Blk.fr hQ6 hf7 (fun e => hbq e.symm)
                      have hqa9 : ∀ k, (Value.slice (some ⟨bb, offb, none⟩) rs2.length cap).ownBlock = some k → w.heap.size ≤ k ∧ k ≠ g := fun k e => HQA.out k e
                      have hqb9 : ∀ k, (Value.slice B rs2.length cap').ownBlock = some k → w.heap.size ≤ k ∧ k ≠ g ∧ (Value.slice (some ⟨bb, offb, none⟩) rs2.length cap).ownBlock ≠ some k := fun k e => HQB.out k ((own_eq _ _ _ _ _).trans e)
                      have HE10 := Lib.hid HE9
                      have HROW10 := Lib.hid HROW9
                      have HD10 := Lib.hid hd9
                      have HBD10 := Lib.hid hbd9
                      have HQA10 := Lib.hid hqa9
                      have HQB10 := Lib.hid hqb9
                      have hl33 := hd9.len
                      clear HE9 HROW9 hd9 hbd9 hqa9 hqb9 hf7 hw7 hQ6 hF6 HE6 HROW6 HD6 k0 k1 kf c1v hrs2
                      go_meet
                      case rel => exact ⟨rs2, ⟨(some ⟨bb, offb, none⟩), cap, B, cap', (by rw [hl2]), (by rw [hl2]), HE10.out, HROW10.out, HD10.out, HBD10.out, hF9, HQA10.out, HQB10.out⟩, hQ9⟩
                · have i3 : (1 : Int) < ((rs.countP (Ck.meant h old) : Nat) : Int) := by omega
                  generalize rs.countP (Ck.meant h old) = cn at *
                  go_wp2_with fail
                  go_roundw
                  case rel => exact ⟨i + 1, by omega, by go_num, rs, A, cap, B, cap', rfl, rfl, HE2.out, HROW2.out, HD2.out, HBD.out, hF2, HQA.out, HQB.out⟩
                  case measure => simp [intOf]; omega
        · cases hm : mayB id
          · rcases may_no hm with hneg | hbig
            · skip
              go_wp2_with fail
              have c1q : wq.cell? ⟨q, 1, none⟩ = some (.int .i64 id) := hQ.cell 1 rfl
              have c3q : wq.cell? ⟨q, 3, none⟩ = some (.int .u64 h) := hQ.cell 3 rfl
              have hS1 : wq.cell? ⟨q, 1, none⟩ = some (.int .i64 id) ∧ wq.cell? ⟨q, 3, none⟩ = some (.int .u64 h) := ⟨c1q, c3q⟩
              refine wp_region_quiet_lit (by kernel_rfl) (by kernel_rfl) ?_
              iterate 3 (go_big_quiet_step (fail))
              rw [@decide_eq_false (0 ≤ id) _ (by omega)]
              repeat (go_big_quiet_step (fail))
              refine wpQuiet_nil ?_
              intro _ hw'
              obtain ⟨nq, hw''⟩ := hw'
              subst hw''
              obtain ⟨wd, hwd, hW5⟩ : ∃ wd, wd = wq.drewN nq ∧ Fr No wq wd := ⟨_, rfl, (Fr.refl _ _).drewN _⟩
              rw [← hwd]
              clear hwd
              have hb5 := keepB hS1 hW5 (fun x => x)
              have c1w := hb5.1
              have c3w := hb5.2.1
              clear hb5
              have hins : Ck.insB rs h id = false := by unfold Ck.insB; rw [hm]; rfl
              have hinl : Ck.insL rs h id = rs := by unfold Ck.insL; rw [hins]; rfl
              have hdi := insert_dir g h id rs wd h0 h1 (HD1.out.no hW5)
              rw [hins, hinl] at hdi
              have HDI := Lib.hid hdi
              clear hins hinl hdi hS1
              go_wp2_with fail
              refine HDI.out.mono ?_
              rintro e w6 ⟨rfl, hd6, hf6⟩
              have hg0 : ∀ k, (Value.slice A rs.length cap).ownBlock = some k → ¬ At1 g k := fun k e => (HQA.out k e).2
              have hg1 : ∀ k, (Value.slice B rs.length cap').ownBlock = some k → ¬ At1 g k := fun k e => (HQB.out k e).2.1
              have HE6 := Lib.hid (Row.fr (Row.no HE1.out hW5) hf6 hg0)
              have HROW6 := Lib.hid (Row.fr (HROW1.out.no hW5) hf6 hg1)
              have hQ6 := (Blk.fr hQ hW5 (fun x => x)).fr hf6 (fun e => by have : q = g := e; omega)
              have hF6 : Fr No w w6 := (hF.no hW5).trans' hf6 fun k hk e => by have : k = g := e; omega
              have HD6 := Lib.hid hd6
              clear hg0 hg1 HE1 HROW1 HD1 hF hQ hd6 hf6 c1q c3q c1w c3w HDI hW5
              go_wp2_with fail
              go_meet
              case rel => exact ⟨rs, ⟨A, cap, B, cap', rfl, rfl, HE6.out, HROW6.out, HD6.out, HBD.out, hF6, HQA.out, HQB.out⟩, hQ6⟩
            · have hbig0 : 0 ≤ id := by omega
              go_wp2_with fail
              have c1q : wq.cell? ⟨q, 1, none⟩ = some (.int .i64 id) := hQ.cell 1 rfl
              have c3q : wq.cell? ⟨q, 3, none⟩ = some (.int .u64 h) := hQ.cell 3 rfl
              have hS1 : wq.cell? ⟨q, 1, none⟩ = some (.int .i64 id) ∧ wq.cell? ⟨q, 3, none⟩ = some (.int .u64 h) := ⟨c1q, c3q⟩
              refine wp_region_quiet_lit (by kernel_rfl) (by kernel_rfl) ?_
              iterate 7 (go_big_quiet_step (fail))
              rw [@decide_eq_false (id ≤ 1099511627776) _ (by omega)]
              repeat (go_big_quiet_step (fail))
              refine wpQuiet_nil ?_
              intro _ hw'
              obtain ⟨nq, hw''⟩ := hw'
              subst hw''
              obtain ⟨wd, hwd, hW5⟩ : ∃ wd, wd = wq.drewN nq ∧ Fr No wq wd := ⟨_, rfl, (Fr.refl _ _).drewN _⟩
              rw [← hwd]
              clear hwd
              have hb5 := keepB hS1 hW5 (fun x => x)
              have c1w := hb5.1
              have c3w := hb5.2.1
              clear hb5
              have hins : Ck.insB rs h id = false := by unfold Ck.insB; rw [hm]; rfl
              have hinl : Ck.insL rs h id = rs := by unfold Ck.insL; rw [hins]; rfl
              have hdi := insert_dir g h id rs wd h0 h1 (HD1.out.no hW5)
              rw [hins, hinl] at hdi
              have HDI := Lib.hid hdi
              clear hins hinl hdi hS1
              go_wp2_with fail
              refine HDI.out.mono ?_
              rintro e w6 ⟨rfl, hd6, hf6⟩
              have hg0 : ∀ k, (Value.slice A rs.length cap).ownBlock = some k → ¬ At1 g k := fun k e => (HQA.out k e).2
              have hg1 : ∀ k, (Value.slice B rs.length cap').ownBlock = some k → ¬ At1 g k := fun k e => (HQB.out k e).2.1
              have HE6 := Lib.hid (Row.fr (Row.no HE1.out hW5) hf6 hg0)
              have HROW6 := Lib.hid (Row.fr (HROW1.out.no hW5) hf6 hg1)
              have hQ6 := (Blk.fr hQ hW5 (fun x => x)).fr hf6 (fun e => by have : q = g := e; omega)
              have hF6 : Fr No w w6 := (hF.no hW5).trans' hf6 fun k hk e => by have : k = g := e; omega
              have HD6 := Lib.hid hd6
              clear hg0 hg1 HE1 HROW1 HD1 hF hQ hd6 hf6 c1q c3q c1w c3w HDI hW5
              go_wp2_with fail
              go_meet
              case rel => exact ⟨rs, ⟨A, cap, B, cap', rfl, rfl, HE6.out, HROW6.out, HD6.out, HBD.out, hF6, HQA.out, HQB.out⟩, hQ6⟩
          · obtain ⟨m0, m1⟩ := may_yes hm
            go_wp2_with fail
            have c1q : wq.cell? ⟨q, 1, none⟩ = some (.int .i64 id) := hQ.cell 1 rfl
            have c3q : wq.cell? ⟨q, 3, none⟩ = some (.int .u64 h) := hQ.cell 3 rfl
            have hS1 : wq.cell? ⟨q, 1, none⟩ = some (.int .i64 id) ∧ wq.cell? ⟨q, 3, none⟩ = some (.int .u64 h) := ⟨c1q, c3q⟩
            have hdr : Fr No wq wq.drew := (Fr.refl _ _).drew
            have hbd5 : ∀ x ∈ rs.map Prod.fst ++ [h], 0 ≤ x ∧ x < 18446744073709551616 := fun x hx => by
              rcases List.mem_append.1 hx with hx | hx
              · obtain ⟨r, hr, rfl⟩ := List.mem_map.1 hx
                exact HBD.out r hr
              · rw [List.mem_singleton.1 hx]; exact ⟨h0, h1⟩
            have hlen5 : (rs.map Prod.fst ++ [h]).length ≤ 100 := by simp; omega
            go_region_held3 (fun x => x.cell? ⟨q, 1, none⟩ = some (.int .i64 id) ∧ x.cell? ⟨q, 3, none⟩ = some (.int .u64 h) ∧ Fr No wq x) (exact keepB hS1 (by first | assumption | exact ((Fr.refl No wq).alloc _).drew | exact Fr.alloc (by assumption) _) (fun x => x))
              (first
                | (refine step_append_rowG (by first | rfl | simp [Region.wanted, yielded]) _ _ 22 rfl 27 (.int .u64 0) 1 8 Try.underlying22 info_u64 rfl (by decide) (.slice none 0 0) 0 [] rfl (Row.nil _ _ _) rs.length ((rs.map Prod.fst).map (Value.int .u64)) (.slice B rs.length cap') rfl (Row.src (HROW1.out.no (And.right (And.right (by assumption)))) (oneCell_ints .u64 _)) (by unfold maxLen; omega) (by omega) ?_; intro A4 cap4 w4 hr4 hf4 _ ho4; simp only [Nat.zero_add, List.nil_append] at hr4 ho4 ⊢; have hf4n := hf4.mono (T := No) (fun k _ e => by cases e); have hW4 : Fr No wq w4 := Fr.no (And.right (And.right (by assumption))) hf4n; have hown4 : ∀ k, (Value.slice A4 rs.length cap4).ownBlock = some k → wq.heap.size ≤ k := (fun k e => own_new hW4 ho4 hf4n (And.right (And.right (by assumption))) e))
                | (refine step_append_rowG (by first | rfl | simp [Region.wanted, yielded]) _ _ 22 rfl 27 (.int .u64 0) 1 8 Try.underlying22 info_u64 rfl (by decide) (.slice A4 rs.length cap4) rs.length _ rfl (by first | exact hr4 | exact hr4.alloc _) 1 [.int .u64 h] _ rfl (by first | exact Src.new w4 #[.int .u64 h] _ 1 1 (by simp [Value.oneCell']) rfl 1 | exact (Src.drew (Src.new wq #[.int .u64 h] 27 1 1 (by simp [Value.oneCell']) rfl 1)).fr hf4n (fun k e => ⟨by cases e; simp, fun x => x⟩)) (by unfold maxLen; omega) (by omega) ?_; intro A5 cap5 w5 hr5 hf5 _ ho5; have hW5 : Fr No wq w5 := Fr.from (by first | exact hW4.alloc _ | exact hW4) (hf5.mono fun k _ e => hown4 k e); have hrd5 : Rd w5 (.slice A5 (rs.length + 1) cap5) (rs.map Prod.fst ++ [h]).length 1 ((rs.map Prod.fst ++ [h]).map (Value.int .u64)) := rd_snoc hr5)
                | (go_at_call 18; refine (room_any (.slice A5 (rs.length + 1) cap5) (rs.map Prod.fst ++ [h]) _ hrd5 hbd5 hlen5).mono ?_; rintro e w6 ⟨rfl, rfl⟩))
            all_goals
              have hins : Ck.insB rs h id = Ck.roomB (rs.map Prod.fst ++ [h]) := by unfold Ck.insB; rw [hm, Bool.true_and]
              have hinl : Ck.insL rs h id = if Ck.roomB (rs.map Prod.fst ++ [h]) then rs ++ [(h, id)] else rs := by unfold Ck.insL; rw [hins]
              have hdi := insert_dir g h id rs w5 h0 h1 (HD1.out.no hW5)
              rw [hins, hinl] at hdi
              generalize hR : Ck.roomB (rs.map Prod.fst ++ [h]) = R at *
              have HDI := Lib.hid hdi
              have HR5 := Lib.hid hR
              have hb5 := keepB hS1 hW5 (fun x => x)
              have c1w := hb5.1
              have c3w := hb5.2.1
              clear hinl hins hdi hR hb5 hr5 hrd5 hf5 ho5 hr4 hf4 ho4 hf4n hown4 hW4
              go_wp2_with fail
              refine HDI.out.mono ?_
              rintro e w6 ⟨rfl, hd6, hf6⟩
              have hg0 : ∀ k, (Value.slice A rs.length cap).ownBlock = some k → ¬ At1 g k := fun k e => (HQA.out k e).2
              have hg1 : ∀ k, (Value.slice B rs.length cap').ownBlock = some k → ¬ At1 g k := fun k e => (HQB.out k e).2.1
              have HE6 := Lib.hid (Row.fr (Row.no HE1.out hW5) hf6 hg0)
              have HROW6 := Lib.hid (Row.fr (HROW1.out.no hW5) hf6 hg1)
              have hQ6 := (Blk.fr hQ hW5 (fun x => x)).fr hf6 (fun e => by have : q = g := e; omega)
              have hF6 : Fr No w w6 := (hF.no hW5).trans' hf6 fun k hk e => by have : k = g := e; omega
              have HD6 := Lib.hid hd6
              clear hg0 hg1 HE1 HROW1 HD1 hF hQ hd6 hf6 c1w c3w hS1 hdr c1q c3q HDI hW5
              cases R
              · go_wp2_with fail
                go_meet
                case rel => exact ⟨rs, ⟨A, cap, B, cap', rfl, rfl, HE6.out, HROW6.out, HD6.out, HBD.out, hF6, HQA.out, HQB.out⟩, hQ6⟩
              · go_wp2_with fail
                have c1q : w6.cell? ⟨q, 1, none⟩ = some (.int .i64 id) := hQ6.cell 1 rfl
                have c3q : w6.cell? ⟨q, 3, none⟩ = some (.int .u64 h) := hQ6.cell 3 rfl
                have hS1 : w6.cell? ⟨q, 1, none⟩ = some (.int .i64 id) ∧ w6.cell? ⟨q, 3, none⟩ = some (.int .u64 h) := ⟨c1q, c3q⟩
                obtain ⟨Own, hOwn⟩ : ∃ Own : Nat → Prop, Own = fun k => (Value.slice A rs.length cap).ownBlock = some k ∨ (Value.slice B rs.length cap').ownBlock = some k := ⟨_, rfl⟩
                have hoA : ∀ k, (Value.slice A rs.length cap).ownBlock = some k → Own k := fun k e => by rw [hOwn]; exact .inl e
                have hoB : ∀ k, (Value.slice B rs.length cap').ownBlock = some k → Own k := fun k e => by rw [hOwn]; exact .inr e
                have hOq : ¬ Own q := by rw [hOwn]; rintro (e | e); exact hqA e; exact hqB e
                have hOg : ¬ Own g := by rw [hOwn]; rintro (e | e); exact (HQA.out _ e).2 rfl; exact (HQB.out _ e).2.1 rfl
                have hON : ∀ k, Own k → w.heap.size ≤ k := by rw [hOwn]; rintro k (e | e); exact (HQA.out _ e).1; exact (HQB.out _ e).1
                have hBA : ∀ k, (Value.slice B rs.length cap').ownBlock = some k → ¬ (Value.slice A rs.length cap).ownBlock = some k := fun k e => (HQB.out k e).2.2
                have hsz6 : ∀ k, (Value.slice A rs.length cap).ownBlock = some k ∨ (Value.slice B rs.length cap').ownBlock = some k → k < w6.heap.size := by rintro k (e | e); exact Row.lt HE6.out k e; exact Row.lt HROW6.out k e
                clear hOwn
                have ol : ∀ u ∈ [Value.int .u64 h, Value.int .i64 id], u.oneCell' = true := by simp [Value.oneCell']
                have oh : ∀ u ∈ [Value.int .u64 h], u.oneCell' = true := by simp [Value.oneCell']
                have hb0 : ¬ (Value.slice A rs.length cap).ownBlock = some w6.heap.size := fun e => by have := hsz6 _ (.inl e); omega
                have hb1 : ¬ (Value.slice A rs.length cap).ownBlock = some (w6.heap.size + 1) := fun e => by have := hsz6 _ (.inl e); omega
                go_region_held3 (fun x => x.cell? ⟨q, 1, none⟩ = some (.int .i64 id) ∧ x.cell? ⟨q, 3, none⟩ = some (.int .u64 h) ∧ Fr Own w6 x) (exact keepB hS1 (by first | assumption | exact (Fr.refl Own w6).drew | exact ((Fr.refl Own w6).alloc _).drew | exact (((Fr.refl Own w6).alloc _).alloc _).drew | exact Fr.alloc (by assumption) _) hOq)
                  (first
                    | (refine step_append_row rfl _ _ 33 rfl 37 (.agg #[.int .u64 0, .int .i64 0]) 2 16 Try.underlying33 info_ent rfl (by decide) (.slice A rs.length cap) rs.length (rs.flatMap entCs) rfl (by first | exact Row.no HE6.out (((Fr.refl No w6).alloc _).drew) | exact Row.no HE6.out ((((Fr.refl No w6).alloc _).alloc _).drew)) 1 [.int .u64 h, .int .i64 id] _ rfl (by first | exact Src.drew (Blk.src (Blk.new w6 #[.int .u64 h, .int .i64 id] _) ol 1 2 1 rfl) | exact Src.drew (Blk.src ((Blk.new w6 #[.int .u64 h, .int .i64 id] _).alloc _) ol 1 2 1 rfl) | exact Src.drew (Blk.src (Blk.new2 w6 _ #[.int .u64 h, .int .i64 id] _) ol 1 2 1 rfl)) (by unfold maxLen; omega) (by omega) ?_; intro A8 cap8 w8 hr8 hf8 _ ho8; have hW8 : Fr Own w6 w8 := Fr.trans (And.right (And.right (by assumption))) (hf8.mono fun k _ e => hoA k e); have hrow8 : Row w8 27 1 (.slice B rs.length cap') rs.length ((rs.map Prod.fst).map (Value.int .u64)) := Row.fr (by first | exact Row.no HROW6.out (((Fr.refl No w6).alloc _).drew) | exact Row.no HROW6.out ((((Fr.refl No w6).alloc _).alloc _).drew)) hf8 hBA; have hown8 := own_or ho8 (And.right (And.right (by assumption))))
                    | (refine step_append_row rfl _ _ 22 rfl 27 (.int .u64 0) 1 8 Try.underlying22 info_u64 rfl (by decide) (.slice B rs.length cap') rs.length ((rs.map Prod.fst).map (Value.int .u64)) rfl (by first | exact hrow8 | exact hrow8.alloc _) 1 [.int .u64 h] _ rfl (by first | exact Blk.src (Blk.new w8 #[.int .u64 h] _) oh 1 1 1 rfl | exact Blk.src (Blk.fr (Blk.drew (Blk.new2 w6 _ #[.int .u64 h] _)) hf8 hb1) oh 1 1 1 rfl | exact Blk.src (Blk.fr (Blk.drew ((Blk.new w6 #[.int .u64 h] _).alloc _)) hf8 hb0) oh 1 1 1 rfl) (by unfold maxLen; omega) (by omega) ?_; intro A9 cap9 w9 hr9 hf9 _ ho9; have hW9 : Fr Own w6 w9 := Fr.trans (And.right (And.right (by assumption))) (hf9.mono fun k _ e => hoB k e); have hown9 := own_or (S := No) (w6 := w8) ho9 (by first | exact Fr.refl No _ | exact (Fr.refl No _).alloc _)))
                all_goals
                  have hl8 := Row.lt hr8
                  have hne8 : ∀ k, (Value.slice A8 (rs.length + 1) cap8).ownBlock = some k → ¬ (Value.slice B rs.length cap').ownBlock = some k := fun k e e2 => by
                    rcases hown8 k e with h | h
                    · exact hBA k e2 h
                    · have := hsz6 k (.inr e2); omega
                  have he9 : Row w9 37 2 (.slice A8 (rs.length + 1) cap8) (rs.length + 1) (rs.flatMap entCs ++ [.int .u64 h, .int .i64 id]) := Row.fr (by first | exact hr8 | exact Row.alloc hr8 _) hf9 hne8
                  obtain ⟨rs2, hrs2⟩ : ∃ rs2, rs2 = rs ++ [(h, id)] := ⟨_, rfl⟩
                  have hl2 : rs.length + 1 = rs2.length := by rw [hrs2]; simp
                  have HE9 : Ents w9 (.slice A8 rs2.length cap8) rs2 := by
                    unfold Ents
                    rw [← hl2, hrs2, List.flatMap_append]
                    exact he9
                  have HROW9 : Row w9 27 1 (.slice A9 rs2.length cap9) rs2.length ((rs2.map Prod.fst).map (Value.int .u64)) := by
                    rw [← hl2, hrs2, List.map_append, List.map_append]
                    exact hr9
                  have hd9 : DirL w9 g rs2 := by
                    have := HD6.out.fr hW9 hOg
                    simp only [if_true] at this
                    rw [hrs2]; exact this
                  have hbd9 : ∀ r ∈ rs2, 0 ≤ r.1 ∧ r.1 < 18446744073709551616 := fun r hr => by
                    rw [hrs2] at hr
                    rcases List.mem_append.1 hr with hr | hr
                    · exact HBD.out r hr
                    · rw [List.mem_singleton.1 hr]; exact ⟨h0, h1⟩
                  have hg6 : g < w6.heap.size := HD6.out.lt
                  have hF9 : Fr No w w9 := hF6.from (hW9.mono fun k _ e => hON k e)
                  have hQ9 := Blk.fr hQ6 hW9 hOq
                  have hs68 := hW8.size
                  have hqa9 : ∀ k, (Value.slice A8 rs2.length cap8).ownBlock = some k → w.heap.size ≤ k ∧ k ≠ g := fun k e => by
                    rcases hown8 k ((own_eq _ _ _ _ _).trans e) with h | h
                    · exact HQA.out k h
                    · have := hF6.size; exact ⟨by omega, by omega⟩
                  have hqb9 : ∀ k, (Value.slice A9 rs2.length cap9).ownBlock = some k → w.heap.size ≤ k ∧ k ≠ g ∧ (Value.slice A8 rs2.length cap8).ownBlock ≠ some k := fun k e => by
                    have e8 : ∀ k, (Value.slice A8 rs2.length cap8).ownBlock = some k → (Value.slice A8 (rs.length + 1) cap8).ownBlock = some k := fun k e => (own_eq _ _ _ _ _).trans e
                    rcases hown9 k ((own_eq _ _ _ _ _).trans e) with h | h
                    · exact ⟨(HQB.out k h).1, (HQB.out k h).2.1, fun e2 => hne8 k (e8 k e2) h⟩
                    · have := hF6.size
                      exact ⟨by omega, by omega, fun e2 => by have := hl8 k (e8 k e2); omega⟩
                  have HE10 := Lib.hid HE9
                  have HROW10 := Lib.hid HROW9
                  have HD10 := Lib.hid hd9
                  have HBD10 := Lib.hid hbd9
                  have HQA10 := Lib.hid hqa9
                  have HQB10 := Lib.hid hqb9
                  have hl33 := hd9.len
                  clear HE9 HROW9 hd9 hbd9 hqa9 hqb9 he9 hl8 hne8 hr8 hr9 hf8 hf9 ho8 ho9 hown8 hown9 hW8 hW9 hrow8 hoA hoB hOq hOg hON hBA hsz6 ol oh hb0 hb1 hQ6 hF6 HE6 HROW6 HD6 hS1 c1q c3q hrs2 hs68
                  go_wp2_with fail
                  go_meet
                  case rel => exact ⟨rs2, ⟨A8, cap8, A9, cap9, (by rw [hl2]), (by rw [hl2]), HE10.out, HROW10.out, HD10.out, HBD10.out, hF9, HQA10.out, HQB10.out⟩, hQ9⟩
      case rest =>
        clear HE1 HROW1 HD1 hF hQ HBD HQA HQB hqA hqB hl32
        obtain ⟨rs, ⟨A, cap, B, cap', rfl, rfl, he, hrow, hd, hbd, hF, hqa, hqb⟩, hQ⟩ := hcut
        have hl32 := hd.len
        have HE1 := Lib.hid he
        have HROW1 := Lib.hid hrow
        have HD1 := Lib.hid hd
        have HBD := Lib.hid hbd
        have HQA := Lib.hid hqa
        have HQB := Lib.hid hqb
        clear he hrow hd hbd hqa hqb
        go_wp2_with fail
        have c3q : wc.cell? ⟨q, 3, none⟩ = some (.int .u64 h) := hQ.cell 3 rfl
        have hS0 : wc.cell? ⟨q, 3, none⟩ = some (.int .u64 h) ∧ Fr No wc wc := ⟨c3q, Fr.refl _ _⟩
        have hdr : Fr No wc wc.drew := (Fr.refl _ _).drew
        clear hQ
        go_region_held3 (fun x => x.cell? ⟨q, 3, none⟩ = some (.int .u64 h) ∧ Fr No wc x) (exact keepS (by assumption) (by assumption))
          (first
            | (go_at_call 23; refine (find_dir g rs h _ h0 h1 (HD1.out.no (And.right (by assumption)))).mono ?_; rintro e wA ⟨A1, cap1, rfl, hrA, hfA, hqA⟩)
            | (go_at_call 24; refine (find17_any (.slice A rs.length cap) rs h _ h0 h1 (HE1.out.no (And.right (by assumption))) HBD.out (by omega)).mono ?_; rintro e wB ⟨A2, cap2, rfl, hrB, hfB, hqB⟩)
            | (go_at_call 22; refine (eq17_same _ _ (Ck.foundL rs h) _ (by first | exact hrA.rd | exact (hrA.no hfB).rd) (by first | exact hrB.rd | exact (hrB.no hfA).rd)).mono ?_; rintro e wC ⟨rfl, hfC⟩)
            | (go_at_call 25; refine (lies_any _ rs g _ (HD1.out.no (And.right (by assumption))) (HE1.out.no (And.right (by assumption))) HBD.out).mono ?_; rintro e wD ⟨rfl, hfD⟩))
        all_goals
          go_wp2_with fail
          have hX : Fr No wc wD := And.right (by assumption)
          go_roundw
          case rel => exact ⟨i + 1, by omega, by go_num, rs, A, cap, B, cap', rfl, rfl, HE1.out.no hX, HROW1.out.no hX, HD1.out.no hX, HBD.out, hF.no hX, HQA.out, HQB.out⟩
          case measure => simp [intOf]; omega
    · by_cases hltn : i < n
      · have h60 : ¬ ((i : Nat) : Int) < 60 := by omega
        have i0 : ((i : Nat) : Int) < ((n : Nat) : Int) := by omega
        clear hlt
        go_wp2_with fail
        go_ret
        exact ⟨rfl, hf⟩
      · clear hlt
        go_wp2_with fail
        go_ret
        exact ⟨rfl, hf⟩

end Go.Proofs.Ytjnidblfgdlgnaa
