/- Maps with integer or string keys: what a look-up gives, what a store leaves. No program in sight. -/
import Derived.Test.YtjnidblfgdlgnaaBase
import Derived.MapKept
import Derived.Maps.Own
namespace Go.Proofs.Ytjnidblfgdlgnaa
set_option linter.unusedVariables false
set_option linter.unusedSimpArgs false
open Go.RowKit Go.MapKept

/-- How keys of a kind lie as values. -/
structure Keyd (d : TypeDesc) (κ : Type) (enc : κ → Value) : Prop where
  inj : ∀ {a b}, enc a = enc b → a = b
  key : ∀ a, IsKey d (enc a)

theorem keyd_int (k : IntKind) : Keyd (.int k) Int (Value.int k) := ⟨fun h => by injection h, fun a => by simp [IsKey]⟩
theorem keyd_string : Keyd .string ByteArray Value.string := ⟨fun h => by injection h, fun a => by simp [IsKey]⟩

section
variable {κ : Type} {enc : κ → Value} {d : TypeDesc}

def MapAt (enc : κ → Value) (w : World) (r : Nat) (m : List (κ × Value)) : Prop :=
  ∃ es clock, w.heap[r]? = some (.map es clock) ∧ es.toList.map (fun e : MapEntry => (e.key, e.val)) = m.map fun p => (enc p.1, p.2)

theorem MapAt.fr {S : Nat → Prop} {w w' : World} {r : Nat} {m : List (κ × Value)} (h : MapAt enc w r m) (hf : Fr S w w') (hn : ¬ S r) : MapAt enc w' r m := by
  obtain ⟨es, clock, h1, h2⟩ := h
  exact ⟨es, clock, (hf.block r (Array.getElem?_eq_some_iff.1 h1).1 hn).trans h1, h2⟩
theorem MapAt.no {w w' : World} {r : Nat} {m : List (κ × Value)} (h : MapAt enc w r m) (hf : Fr No w w') : MapAt enc w' r m := h.fr hf fun x => x
theorem MapAt.lt {w : World} {r : Nat} {m : List (κ × Value)} (h : MapAt enc w r m) : r < w.heap.size := by
  obtain ⟨es, clock, h1, _⟩ := h
  exact (Array.getElem?_eq_some_iff.1 h1).1
theorem MapAt.made (w : World) : MapAt enc (w.alloc (.map #[] 0)) w.heap.size [] := ⟨#[], 0, (MapKept.heap_alloc w _).1, rfl⟩

end
section
variable {κ : Type} [DecidableEq κ] {enc : κ → Value} {d : TypeDesc}

def mput (m : List (κ × Value)) (k : κ) (v : Value) : List (κ × Value) :=
  if (m.lookup k).isSome then m.map (fun p => if p.1 = k then (k, v) else p) else m ++ [(k, v)]

theorem sameNow_enc (K : Keyd d κ enc) (a b : κ) : Instr.sameNow d (enc a) (enc b) = some (decide (a = b)) := by
  obtain ⟨r, h, hi⟩ := sameNow_of_keys (K.key a) (K.key b)
  rw [h]
  congr 1
  by_cases e : a = b
  · rw [decide_eq_true e]; exact hi.2 (by rw [e])
  · rw [decide_eq_false e]
    cases r
    · rfl
    · exact absurd (K.inj (hi.1 rfl)) e

theorem findNow_enc (K : Keyd d κ enc) (k : κ) : ∀ (l : List MapEntry) (m : List (κ × Value)) (i : Nat), l.map (fun e : MapEntry => (e.key, e.val)) = m.map (fun p => (enc p.1, p.2)) →
    match m.lookup k with
    | none => Instr.findNow d (enc k) l i = some none ∧ ∀ p ∈ m, p.1 ≠ k
    | some v => ∃ j, Instr.findNow d (enc k) l i = some (some (i + j, v)) ∧ m[j]? = some (k, v) ∧ ∀ j' < j, ∀ p, m[j']? = some p → p.1 ≠ k
  | [], [], i, _ => ⟨rfl, fun _ h => by cases h⟩
  | [], _ :: _, _, h => by simp at h
  | _ :: _, [], _, h => by simp at h
  | e :: l, (k', v') :: m, i, h => by
    simp only [List.map_cons, List.cons.injEq, Prod.mk.injEq] at h
    obtain ⟨⟨h1, h2⟩, h3⟩ := h
    have ih := findNow_enc K k l m (i + 1) h3
    have hs := sameNow_enc K k k'
    rw [← h1] at hs
    by_cases e : k = k'
    · subst e
      have : ((k, v') :: m).lookup k = some v' := by simp [List.lookup]
      rw [this]
      refine ⟨0, ?_, rfl, fun j' hj' => by omega⟩
      simp [Instr.findNow, hs, h2]
    · have hne : (k == k') = false := by simpa using e
      have : ((k', v') :: m).lookup k = m.lookup k := by simp [List.lookup, hne]
      rw [this]
      cases hl : m.lookup k with
      | none =>
        rw [hl] at ih
        refine ⟨by simp [Instr.findNow, hs, e, ih.1], fun p hp => ?_⟩
        rcases List.mem_cons.1 hp with rfl | hp
        · exact fun x => e x.symm
        · exact ih.2 p hp
      | some v =>
        rw [hl] at ih
        obtain ⟨j, q1, q2, q3⟩ := ih
        refine ⟨j + 1, by simp [Instr.findNow, hs, e, q1]; omega, by simpa using q2, fun j' hj' p hp => ?_⟩
        rcases j' with _ | j'
        · simp at hp; subst hp; exact fun x => e x.symm
        · exact q3 j' (by omega) p (by simpa using hp)

theorem run_look {P : Program} {w : World} {t kt et : TypeId} {r : Nat} {m : List (κ × Value)} {z : Value} (K : Keyd d κ enc) (ht : P.underlying t = some (.map kt et)) (hd : P.underlying kt = some d)
    (hz : (zeroValue et).run P w = .ok z w) (h : MapAt enc w r m) (k : κ) (ok : Bool) :
    (Instr.lookup t (.map (some r)) (enc k) ok).run P w = .ok (if ok then .tuple #[(m.lookup k).getD z, .bool (m.lookup k).isSome] else (m.lookup k).getD z) w := by
  obtain ⟨es, clock, hb, he⟩ := h
  have hf := findNow_enc K k es.toList m 0 he
  cases hl : m.lookup k with
  | none =>
    rw [hl] at hf
    simp [Instr.lookup, run_underlying ht, MapKept.run_getObj_map hb, MapKept.run_checkKey hd (K.key k), MapKept.run_findKey hd hf.1, hz, Result.andThen]
  | some v =>
    rw [hl] at hf
    obtain ⟨j, q1, _⟩ := hf
    simp [Instr.lookup, run_underlying ht, MapKept.run_getObj_map hb, MapKept.run_checkKey hd (K.key k), MapKept.run_findKey hd q1, Result.andThen]

theorem nodup_inj {α : Type} {l : List α} (h : l.Nodup) {i j : Nat} {x : α} (hi : l[i]? = some x) (hj : l[j]? = some x) : i = j := by
  have h1 := List.pairwise_iff_getElem.1 h
  obtain ⟨hi1, hi2⟩ := List.getElem?_eq_some_iff.1 hi
  obtain ⟨hj1, hj2⟩ := List.getElem?_eq_some_iff.1 hj
  rcases Nat.lt_trichotomy i j with e | e | e
  · exact absurd (hi2.trans hj2.symm) (h1 i j hi1 hj1 e)
  · exact e
  · exact absurd (hj2.trans hi2.symm) (h1 j i hj1 hi1 e)

theorem modify_nil {α : Type} (l : List α) (j : Nat) (f : α → α) (h : l[j]? = none) : l.modify j f = l := by
  apply List.ext_getElem?
  intro i
  rw [List.getElem?_modify]
  by_cases e : j = i
  · subst e; rw [h]; simp
  · simp [e]

theorem run_put {P : Program} {w : World} {t kt et : TypeId} {r : Nat} {m : List (κ × Value)} (K : Keyd d κ enc) (ht : P.underlying t = some (.map kt et)) (hd : P.underlying kt = some d)
    (h : MapAt enc w r m) (hn : (m.map Prod.fst).Nodup) (k : κ) (v : Value) :
    ∃ w', (Instr.mapUpdate t (.map (some r)) (enc k) v).run P w = .ok () w' ∧ MapAt enc w' r (mput m k v) ∧ Fr (At1 r) w w' ∧ ((mput m k v).map Prod.fst).Nodup := by
  obtain ⟨es, clock, hb, he⟩ := h
  have hf := findNow_enc K k es.toList m 0 he
  have hfr : ∀ o', Fr (At1 r) w { w with heap := w.heap.setIfInBounds r o' } := fun o' => ⟨rfl, rfl, rfl, by simp, fun i _ hi => (heap_set (o' := o') hb).2 i hi⟩
  cases hl : m.lookup k with
  | none =>
    rw [hl] at hf
    refine ⟨_, by simp [Instr.mapUpdate, run_underlying ht, MapKept.run_getObj_map hb, MapKept.run_checkKey hd (K.key k), MapKept.run_findKey hd hf.1, MapKept.run_setObj_map _ hb, Result.andThen]; rfl, ⟨_, _, (heap_set hb).1, ?_⟩, hfr _, ?_⟩
    · unfold mput; rw [hl]; simp [he]
    · unfold mput; rw [hl]
      simp only [Option.isSome_none, Bool.false_eq_true, if_false, List.map_append, List.map_cons, List.map_nil]
      rw [List.nodup_append]
      refine ⟨hn, by simp, fun a ha b hb2 => ?_⟩
      obtain ⟨p, hp, rfl⟩ := List.mem_map.1 ha
      have : b = k := by simpa using hb2
      subst this
      exact hf.2 p hp
  | some u =>
    rw [hl] at hf
    obtain ⟨j, q1, q2, q3⟩ := hf
    have hlen : es.toList.length = m.length := by have := congrArg List.length he; simpa using this
    have hjm : j < m.length := (List.getElem?_eq_some_iff.1 q2).1
    obtain ⟨e, hej⟩ : ∃ e, es.toList[j]? = some e := ⟨_, List.getElem?_eq_getElem (by omega)⟩
    have hk : e.key = enc k := by
      have := congrArg (fun l => l[j]?) he
      simp only [List.getElem?_map, hej, q2, Option.map_some, Option.some.injEq, Prod.mk.injEq] at this
      exact this.1
    have hej' : es[j]? = some e := by simpa using hej
    have hmk : mput m k v = m.modify j (fun _ => (k, v)) := by
      unfold mput
      rw [hl]
      simp only [Option.isSome_some, if_true]
      apply List.ext_getElem?
      intro i
      rw [List.getElem?_map, List.getElem?_modify]
      by_cases e : j = i
      · subst e; rw [q2]; simp
      · simp only [e, if_false]
        cases hi : m[i]? with
        | none => rfl
        | some p =>
          have : p.1 ≠ k := by
            intro ek
            have := nodup_inj hn (i := i) (j := j) (x := k) (by rw [List.getElem?_map, hi]; simp [ek]) (by rw [List.getElem?_map, q2]; rfl)
            omega
          simp [this]
    refine ⟨_, by simp [Instr.mapUpdate, run_underlying ht, MapKept.run_getObj_map hb, MapKept.run_checkKey hd (K.key k), MapKept.run_findKey hd q1, hej', hk, MapKept.run_keyThatStays (K.key k), MapKept.run_setObj_map _ hb, Result.andThen]; rfl, ⟨_, _, (heap_set hb).1, ?_⟩, hfr _, ?_⟩
    · rw [hmk]
      apply List.ext_getElem?
      intro i
      have hi := congrArg (fun l => l[i]?) he
      simp only [List.getElem?_map] at hi
      simp only [Array.toList_modify, List.getElem?_map, List.getElem?_modify]
      by_cases e2 : j = i
      · subst e2
        rw [hej, q2]; simp
      · simp only [e2, if_false]
        simpa using hi
    · have : (mput m k v).map Prod.fst = m.map Prod.fst := by
        rw [hmk]
        apply List.ext_getElem?
        intro i
        simp only [List.getElem?_map, List.getElem?_modify]
        by_cases e2 : j = i
        · subst e2; rw [q2]; simp
        · simp [e2]
      rw [this]; exact hn
end

theorem wpList_put {κ : Type} [DecidableEq κ] {enc : κ → Value} {d : TypeDesc} {P : Program} (w : World) {ops : Array Oper} {rest : List Oper} {o : Oper} {a : Act} {Q : Exit → Act → World → Prop}
    (hg : o.guard = none) (mo x v : Operand) (t : TypeId) (hop : o.op = Op.mapUpdate t mo x v)
    (kt et : TypeId) (K : Keyd d κ enc) (ht : P.underlying t = some (.map kt et)) (hd : P.underlying kt = some d) (r : Nat) (m : List (κ × Value))
    (hm : a.eval mo = .map (some r)) (h : MapAt enc w r m) (hn : (m.map Prod.fst).Nodup) (k : κ) (val : Value) (hx : a.eval x = enc k) (hv : a.eval v = val)
    (hK : ∀ w', MapAt enc w' r (mput m k val) → ((mput m k val).map Prod.fst).Nodup → Fr (At1 r) w w' → wpList P ops Q rest (a.put o.dst undef) w') :
    wpList P ops Q (o :: rest) a w := by
  refine wpList_plain hg fun K' hK' => ?_
  obtain ⟨w', hrun, r1, r2, r3⟩ := run_put K ht hd h hn k val
  unfold Oper.wp
  simp [execOp, hop, hm, hx, hv, hrun, Result.andThen]
  exact hK' _ _ (hK w' r1 r3 r2)

end Go.Proofs.Ytjnidblfgdlgnaa
