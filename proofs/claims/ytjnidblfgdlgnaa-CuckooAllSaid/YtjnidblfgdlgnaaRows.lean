/-
  No cell of these rows narrows 'for every input' (looked for: loops, veiled, ifaces, maps, wideKeys, modest, calm, conditions, laid).
  DERIVED. THE GIVEN ROWS OF THIS SEAT. 12 by the template 'for every input the law returns true; each argument reads behind the call as it read before'; 0 by the template 'total and deterministic' (their statements: YtjnidblfgdlgnaaTotals.lean).
  GIVEN WITH THE SEED: the statements are not yours to turn. If you find one false, say at which input.
  Laid BY PROGRAM, IN A SANDBOX (cutbox-rows.mjs): the forced cells as the released guide's own fill.sh prints them over the translation 752859729e0a1401… (all of the seat's roots in one cut). By AI agents, Wed Nov 11 2026. No macro, syntax, notation, axiom, sorry.
-/
import Derived.Test.YtjnidblfgdlgnaaChecked
import GoSem.Claim
import GoSem.ClaimJoined
import GoSem.ClaimMapViews
import Derived.JoinedTies
import Derived.KernelRfl
namespace Go.Proofs.Ytjnidblfgdlgnaa
/- THE CELL 'sum', in the pinned program and in every row, IS THE sha256 OF THE DUMP (.gsa) THAT YtjnidblfgdlgnaaProg.lean LOADS. Nothing in Lean hashes anything: it is a label: what it is worth is what the hold of that sum in a sandbox is worth. -/
noncomputable def Try.pinned : Pinned := { name := "ytjnidblfgdlgnaa", sum := "752859729e0a1401311d4419f693fc8a2b9c681c47bc0d597a2d59cbcc225219", checked := Try.checked }
namespace Rows
def none {H : Type} : Left H := { results := [], args := [] }

/-- 'loesslaw17.CuckooOrder': WHATEVER THE INPUT: true; the input reads as it did. -/
def cuckooOrderSpec : ChangeSpec := { name := "cuckooOrder", fn := fun _ => fun
  | [d1, d2] => { results := [.lit (.bool true)], args := [d1, d2] }
  | _ => none }
def cuckooOrderRow : OpenClaim := { program := "ytjnidblfgdlgnaa", sum := "752859729e0a1401311d4419f693fc8a2b9c681c47bc0d597a2d59cbcc225219", func := "loess/loesslaw17.CuckooOrder", spec := "cuckooOrder", unfollowed := true, recurses := true, apart := false }
def CuckooOrderSaid : Prop := cuckooOrderRow.holds Try.pinned (OpenSpec.ofChange cuckooOrderSpec)

/-- ITS FALSE NEIGHBOUR: 'it returns false'. Refute it at one input. -/
def cuckooOrderWrong : ChangeSpec := { name := "cuckooOrder", fn := fun _ => fun
  | [d1, d2] => { results := [.lit (.bool false)], args := [d1, d2] }
  | _ => none }
def CuckooOrderWrongFalsely : Prop := cuckooOrderRow.holds Try.pinned (OpenSpec.ofChange cuckooOrderWrong)

/-- 'loesslaw17.CuckooFull': WHATEVER THE INPUT: true; the input reads as it did. -/
def cuckooFullSpec : ChangeSpec := { name := "cuckooFull", fn := fun _ => fun
  | [d1, d2, d3] => { results := [.lit (.bool true)], args := [d1, d2, d3] }
  | _ => none }
def cuckooFullRow : OpenClaim := { program := "ytjnidblfgdlgnaa", sum := "752859729e0a1401311d4419f693fc8a2b9c681c47bc0d597a2d59cbcc225219", func := "loess/loesslaw17.CuckooFull", spec := "cuckooFull", unfollowed := true, recurses := true, apart := false }
def CuckooFullSaid : Prop := cuckooFullRow.holds Try.pinned (OpenSpec.ofChange cuckooFullSpec)

/-- ITS FALSE NEIGHBOUR: 'it returns false'. Refute it at one input. -/
def cuckooFullWrong : ChangeSpec := { name := "cuckooFull", fn := fun _ => fun
  | [d1, d2, d3] => { results := [.lit (.bool false)], args := [d1, d2, d3] }
  | _ => none }
def CuckooFullWrongFalsely : Prop := cuckooFullRow.holds Try.pinned (OpenSpec.ofChange cuckooFullWrong)

/-- 'loesslaw17.CuckooAll': WHATEVER THE INPUT: true; the input reads as it did. -/
def cuckooAllSpec : ChangeSpec := { name := "cuckooAll", fn := fun _ => fun
  | [d] => { results := [.lit (.bool true)], args := [d] }
  | _ => none }
def cuckooAllRow : OpenClaim := { program := "ytjnidblfgdlgnaa", sum := "752859729e0a1401311d4419f693fc8a2b9c681c47bc0d597a2d59cbcc225219", func := "loess/loesslaw17.CuckooAll", spec := "cuckooAll", unfollowed := true, recurses := true, apart := false }
def CuckooAllSaid : Prop := cuckooAllRow.holds Try.pinned (OpenSpec.ofChange cuckooAllSpec)

/-- ITS FALSE NEIGHBOUR: 'it returns false'. Refute it at one input. -/
def cuckooAllWrong : ChangeSpec := { name := "cuckooAll", fn := fun _ => fun
  | [d] => { results := [.lit (.bool false)], args := [d] }
  | _ => none }
def CuckooAllWrongFalsely : Prop := cuckooAllRow.holds Try.pinned (OpenSpec.ofChange cuckooAllWrong)

/-- 'loesslaw18.LogSame': WHATEVER THE INPUT: true; the input reads as it did. -/
def logSameSpec : ChangeSpec := { name := "logSame", fn := fun _ => fun
  | [d1, d2] => { results := [.lit (.bool true)], args := [d1, d2] }
  | _ => none }
def logSameRow : OpenClaim := { program := "ytjnidblfgdlgnaa", sum := "752859729e0a1401311d4419f693fc8a2b9c681c47bc0d597a2d59cbcc225219", func := "loess/loesslaw18.LogSame", spec := "logSame", unfollowed := true, recurses := true, apart := false }
def LogSameSaid : Prop := logSameRow.holds Try.pinned (OpenSpec.ofChange logSameSpec)

/-- ITS FALSE NEIGHBOUR: 'it returns false'. Refute it at one input. -/
def logSameWrong : ChangeSpec := { name := "logSame", fn := fun _ => fun
  | [d1, d2] => { results := [.lit (.bool false)], args := [d1, d2] }
  | _ => none }
def LogSameWrongFalsely : Prop := logSameRow.holds Try.pinned (OpenSpec.ofChange logSameWrong)

/-- 'loesslaw18.LogLast': WHATEVER THE INPUT: true; the input reads as it did. -/
def logLastSpec : ChangeSpec := { name := "logLast", fn := fun _ => fun
  | [d1, d2] => { results := [.lit (.bool true)], args := [d1, d2] }
  | _ => none }
def logLastRow : OpenClaim := { program := "ytjnidblfgdlgnaa", sum := "752859729e0a1401311d4419f693fc8a2b9c681c47bc0d597a2d59cbcc225219", func := "loess/loesslaw18.LogLast", spec := "logLast", unfollowed := true, recurses := true, apart := false }
def LogLastSaid : Prop := logLastRow.holds Try.pinned (OpenSpec.ofChange logLastSpec)

/-- ITS FALSE NEIGHBOUR: 'it returns false'. Refute it at one input. -/
def logLastWrong : ChangeSpec := { name := "logLast", fn := fun _ => fun
  | [d1, d2] => { results := [.lit (.bool false)], args := [d1, d2] }
  | _ => none }
def LogLastWrongFalsely : Prop := logLastRow.holds Try.pinned (OpenSpec.ofChange logLastWrong)

/-- 'loesslaw18.LogRoom': WHATEVER THE INPUT: true; the input reads as it did. -/
def logRoomSpec : ChangeSpec := { name := "logRoom", fn := fun _ => fun
  | [d] => { results := [.lit (.bool true)], args := [d] }
  | _ => none }
def logRoomRow : OpenClaim := { program := "ytjnidblfgdlgnaa", sum := "752859729e0a1401311d4419f693fc8a2b9c681c47bc0d597a2d59cbcc225219", func := "loess/loesslaw18.LogRoom", spec := "logRoom", unfollowed := true, recurses := true, apart := false }
def LogRoomSaid : Prop := logRoomRow.holds Try.pinned (OpenSpec.ofChange logRoomSpec)

/-- ITS FALSE NEIGHBOUR: 'it returns false'. Refute it at one input. -/
def logRoomWrong : ChangeSpec := { name := "logRoom", fn := fun _ => fun
  | [d] => { results := [.lit (.bool false)], args := [d] }
  | _ => none }
def LogRoomWrongFalsely : Prop := logRoomRow.holds Try.pinned (OpenSpec.ofChange logRoomWrong)

/-- 'loesslaw18.LogAgain': WHATEVER THE INPUT: true; the input reads as it did. -/
def logAgainSpec : ChangeSpec := { name := "logAgain", fn := fun _ => fun
  | [d1, d2] => { results := [.lit (.bool true)], args := [d1, d2] }
  | _ => none }
def logAgainRow : OpenClaim := { program := "ytjnidblfgdlgnaa", sum := "752859729e0a1401311d4419f693fc8a2b9c681c47bc0d597a2d59cbcc225219", func := "loess/loesslaw18.LogAgain", spec := "logAgain", unfollowed := true, recurses := true, apart := false }
def LogAgainSaid : Prop := logAgainRow.holds Try.pinned (OpenSpec.ofChange logAgainSpec)

/-- ITS FALSE NEIGHBOUR: 'it returns false'. Refute it at one input. -/
def logAgainWrong : ChangeSpec := { name := "logAgain", fn := fun _ => fun
  | [d1, d2] => { results := [.lit (.bool false)], args := [d1, d2] }
  | _ => none }
def LogAgainWrongFalsely : Prop := logAgainRow.holds Try.pinned (OpenSpec.ofChange logAgainWrong)

/-- 'loesslaw19.OrderAll': WHATEVER THE INPUT: true; the input reads as it did. -/
def orderAllSpec : ChangeSpec := { name := "orderAll", fn := fun _ => fun
  | [d1, d2] => { results := [.lit (.bool true)], args := [d1, d2] }
  | _ => none }
def orderAllRow : OpenClaim := { program := "ytjnidblfgdlgnaa", sum := "752859729e0a1401311d4419f693fc8a2b9c681c47bc0d597a2d59cbcc225219", func := "loess/loesslaw19.OrderAll", spec := "orderAll", unfollowed := true, recurses := true, apart := false }
def OrderAllSaid : Prop := orderAllRow.holds Try.pinned (OpenSpec.ofChange orderAllSpec)

/-- ITS FALSE NEIGHBOUR: 'it returns false'. Refute it at one input. -/
def orderAllWrong : ChangeSpec := { name := "orderAll", fn := fun _ => fun
  | [d1, d2] => { results := [.lit (.bool false)], args := [d1, d2] }
  | _ => none }
def OrderAllWrongFalsely : Prop := orderAllRow.holds Try.pinned (OpenSpec.ofChange orderAllWrong)

/-- 'loesslaw19.OrderBad': WHATEVER THE INPUT: true; the input reads as it did. -/
def orderBadSpec : ChangeSpec := { name := "orderBad", fn := fun _ => fun
  | [d1, d2, d3, d4, d5] => { results := [.lit (.bool true)], args := [d1, d2, d3, d4, d5] }
  | _ => none }
def orderBadRow : OpenClaim := { program := "ytjnidblfgdlgnaa", sum := "752859729e0a1401311d4419f693fc8a2b9c681c47bc0d597a2d59cbcc225219", func := "loess/loesslaw19.OrderBad", spec := "orderBad", unfollowed := true, recurses := true, apart := false }
def OrderBadSaid : Prop := orderBadRow.holds Try.pinned (OpenSpec.ofChange orderBadSpec)

/-- ITS FALSE NEIGHBOUR: 'it returns false'. Refute it at one input. -/
def orderBadWrong : ChangeSpec := { name := "orderBad", fn := fun _ => fun
  | [d1, d2, d3, d4, d5] => { results := [.lit (.bool false)], args := [d1, d2, d3, d4, d5] }
  | _ => none }
def OrderBadWrongFalsely : Prop := orderBadRow.holds Try.pinned (OpenSpec.ofChange orderBadWrong)

/-- 'loesslaw19.OrderAny': WHATEVER THE INPUT: true; the input reads as it did. -/
def orderAnySpec : ChangeSpec := { name := "orderAny", fn := fun _ => fun
  | [d1, d2, d3, d4, d5] => { results := [.lit (.bool true)], args := [d1, d2, d3, d4, d5] }
  | _ => none }
def orderAnyRow : OpenClaim := { program := "ytjnidblfgdlgnaa", sum := "752859729e0a1401311d4419f693fc8a2b9c681c47bc0d597a2d59cbcc225219", func := "loess/loesslaw19.OrderAny", spec := "orderAny", unfollowed := true, recurses := true, apart := false }
def OrderAnySaid : Prop := orderAnyRow.holds Try.pinned (OpenSpec.ofChange orderAnySpec)

/-- ITS FALSE NEIGHBOUR: 'it returns false'. Refute it at one input. -/
def orderAnyWrong : ChangeSpec := { name := "orderAny", fn := fun _ => fun
  | [d1, d2, d3, d4, d5] => { results := [.lit (.bool false)], args := [d1, d2, d3, d4, d5] }
  | _ => none }
def OrderAnyWrongFalsely : Prop := orderAnyRow.holds Try.pinned (OpenSpec.ofChange orderAnyWrong)

/-- 'loesslaw19.OrderKeys': WHATEVER THE INPUT: true; the input reads as it did. -/
def orderKeysSpec : ChangeSpec := { name := "orderKeys", fn := fun _ => fun
  | [d1, d2] => { results := [.lit (.bool true)], args := [d1, d2] }
  | _ => none }
def orderKeysRow : OpenClaim := { program := "ytjnidblfgdlgnaa", sum := "752859729e0a1401311d4419f693fc8a2b9c681c47bc0d597a2d59cbcc225219", func := "loess/loesslaw19.OrderKeys", spec := "orderKeys", unfollowed := true, recurses := true, apart := false }
def OrderKeysSaid : Prop := orderKeysRow.holds Try.pinned (OpenSpec.ofChange orderKeysSpec)

/-- ITS FALSE NEIGHBOUR: 'it returns false'. Refute it at one input. -/
def orderKeysWrong : ChangeSpec := { name := "orderKeys", fn := fun _ => fun
  | [d1, d2] => { results := [.lit (.bool false)], args := [d1, d2] }
  | _ => none }
def OrderKeysWrongFalsely : Prop := orderKeysRow.holds Try.pinned (OpenSpec.ofChange orderKeysWrong)

/-- 'loesslaw20.TableBad': WHATEVER THE INPUT: true; the input reads as it did. -/
def tableBadSpec : ChangeSpec := { name := "tableBad", fn := fun _ => fun
  | [d1, d2, d3, d4, d5] => { results := [.lit (.bool true)], args := [d1, d2, d3, d4, d5] }
  | _ => none }
def tableBadRow : OpenClaim := { program := "ytjnidblfgdlgnaa", sum := "752859729e0a1401311d4419f693fc8a2b9c681c47bc0d597a2d59cbcc225219", func := "loess/loesslaw20.TableBad", spec := "tableBad", unfollowed := true, recurses := true, apart := false }
def TableBadSaid : Prop := tableBadRow.holds Try.pinned (OpenSpec.ofChange tableBadSpec)

/-- ITS FALSE NEIGHBOUR: 'it returns false'. Refute it at one input. -/
def tableBadWrong : ChangeSpec := { name := "tableBad", fn := fun _ => fun
  | [d1, d2, d3, d4, d5] => { results := [.lit (.bool false)], args := [d1, d2, d3, d4, d5] }
  | _ => none }
def TableBadWrongFalsely : Prop := tableBadRow.holds Try.pinned (OpenSpec.ofChange tableBadWrong)

/- THE SECOND FORM. 'bulk': how many values and letters a reading holds, each counted each time it is reached (what is shared counts as often as it is met; a slice's spare places count too). A statement '..UptoSaid' is the law's where the arguments, and the package variables that the reading takes, are together of bulk at most 1048576: NARROWER than '..Said'. Prove '..Said' where nothing that the law and all that it calls make is longer than what came in: it says more and counts as full. Else prove '..UptoSaid'. A law counts once. -/
mutual
def uptoBulk {H : Type} : DataW H → Nat
  | .lit (.string bytes) => bytes.length + 1
  | .lit _ => 1
  | .nil => 1
  | .ptr d => uptoBulk d + 1
  | .slice elems spare => uptoBulkAll elems + uptoBulkAll spare + 1
  | .agg parts => uptoBulkAll parts + 1
  | .iface _ d => uptoBulk d + 1
  | .map entries => uptoBulkEntries entries + 1
  | .held _ => 1
def uptoBulkAll {H : Type} : List (DataW H) → Nat
  | [] => 0
  | d :: r => uptoBulk d + uptoBulkAll r
def uptoBulkEntries {H : Type} : List (Lit × DataW H) → Nat
  | [] => 0
  | x :: r => uptoBulkEntry x + uptoBulkEntries r
def uptoBulkEntry {H : Type} : Lit × DataW H → Nat
  | (.string bytes, d) => bytes.length + uptoBulk d + 1
  | (_, d) => uptoBulk d + 1
 end
def uptoSmall : (H : Type) → List (DataW H) → Bool := fun _ ds => decide (uptoBulkAll ds ≤ 1048576)
def OpenSpec.upto (s : _root_.Go.ChangeSpec) : _root_.Go.OpenSpec := { _root_.Go.OpenSpec.ofChange s with cond := some uptoSmall }

/-- 'loesslaw17.CuckooOrder', WHERE WHAT IT READS IS OF BULK AT MOST 1048576: true; the input reads as it did. -/
def cuckooOrderUptoRow : OpenClaim := { program := "ytjnidblfgdlgnaa", sum := "752859729e0a1401311d4419f693fc8a2b9c681c47bc0d597a2d59cbcc225219", func := "loess/loesslaw17.CuckooOrder", spec := "cuckooOrder", unfollowed := true, recurses := true, apart := false, narrowed := true }
def CuckooOrderUptoSaid : Prop := cuckooOrderUptoRow.holds Try.pinned (OpenSpec.upto cuckooOrderSpec)

/-- 'loesslaw17.CuckooFull', WHERE WHAT IT READS IS OF BULK AT MOST 1048576: true; the input reads as it did. -/
def cuckooFullUptoRow : OpenClaim := { program := "ytjnidblfgdlgnaa", sum := "752859729e0a1401311d4419f693fc8a2b9c681c47bc0d597a2d59cbcc225219", func := "loess/loesslaw17.CuckooFull", spec := "cuckooFull", unfollowed := true, recurses := true, apart := false, narrowed := true }
def CuckooFullUptoSaid : Prop := cuckooFullUptoRow.holds Try.pinned (OpenSpec.upto cuckooFullSpec)

/-- 'loesslaw17.CuckooAll', WHERE WHAT IT READS IS OF BULK AT MOST 1048576: true; the input reads as it did. -/
def cuckooAllUptoRow : OpenClaim := { program := "ytjnidblfgdlgnaa", sum := "752859729e0a1401311d4419f693fc8a2b9c681c47bc0d597a2d59cbcc225219", func := "loess/loesslaw17.CuckooAll", spec := "cuckooAll", unfollowed := true, recurses := true, apart := false, narrowed := true }
def CuckooAllUptoSaid : Prop := cuckooAllUptoRow.holds Try.pinned (OpenSpec.upto cuckooAllSpec)

/-- 'loesslaw18.LogSame', WHERE WHAT IT READS IS OF BULK AT MOST 1048576: true; the input reads as it did. -/
def logSameUptoRow : OpenClaim := { program := "ytjnidblfgdlgnaa", sum := "752859729e0a1401311d4419f693fc8a2b9c681c47bc0d597a2d59cbcc225219", func := "loess/loesslaw18.LogSame", spec := "logSame", unfollowed := true, recurses := true, apart := false, narrowed := true }
def LogSameUptoSaid : Prop := logSameUptoRow.holds Try.pinned (OpenSpec.upto logSameSpec)

/-- 'loesslaw18.LogLast', WHERE WHAT IT READS IS OF BULK AT MOST 1048576: true; the input reads as it did. -/
def logLastUptoRow : OpenClaim := { program := "ytjnidblfgdlgnaa", sum := "752859729e0a1401311d4419f693fc8a2b9c681c47bc0d597a2d59cbcc225219", func := "loess/loesslaw18.LogLast", spec := "logLast", unfollowed := true, recurses := true, apart := false, narrowed := true }
def LogLastUptoSaid : Prop := logLastUptoRow.holds Try.pinned (OpenSpec.upto logLastSpec)

/-- 'loesslaw18.LogRoom', WHERE WHAT IT READS IS OF BULK AT MOST 1048576: true; the input reads as it did. -/
def logRoomUptoRow : OpenClaim := { program := "ytjnidblfgdlgnaa", sum := "752859729e0a1401311d4419f693fc8a2b9c681c47bc0d597a2d59cbcc225219", func := "loess/loesslaw18.LogRoom", spec := "logRoom", unfollowed := true, recurses := true, apart := false, narrowed := true }
def LogRoomUptoSaid : Prop := logRoomUptoRow.holds Try.pinned (OpenSpec.upto logRoomSpec)

/-- 'loesslaw18.LogAgain', WHERE WHAT IT READS IS OF BULK AT MOST 1048576: true; the input reads as it did. -/
def logAgainUptoRow : OpenClaim := { program := "ytjnidblfgdlgnaa", sum := "752859729e0a1401311d4419f693fc8a2b9c681c47bc0d597a2d59cbcc225219", func := "loess/loesslaw18.LogAgain", spec := "logAgain", unfollowed := true, recurses := true, apart := false, narrowed := true }
def LogAgainUptoSaid : Prop := logAgainUptoRow.holds Try.pinned (OpenSpec.upto logAgainSpec)

/-- 'loesslaw19.OrderAll', WHERE WHAT IT READS IS OF BULK AT MOST 1048576: true; the input reads as it did. -/
def orderAllUptoRow : OpenClaim := { program := "ytjnidblfgdlgnaa", sum := "752859729e0a1401311d4419f693fc8a2b9c681c47bc0d597a2d59cbcc225219", func := "loess/loesslaw19.OrderAll", spec := "orderAll", unfollowed := true, recurses := true, apart := false, narrowed := true }
def OrderAllUptoSaid : Prop := orderAllUptoRow.holds Try.pinned (OpenSpec.upto orderAllSpec)

/-- 'loesslaw19.OrderBad', WHERE WHAT IT READS IS OF BULK AT MOST 1048576: true; the input reads as it did. -/
def orderBadUptoRow : OpenClaim := { program := "ytjnidblfgdlgnaa", sum := "752859729e0a1401311d4419f693fc8a2b9c681c47bc0d597a2d59cbcc225219", func := "loess/loesslaw19.OrderBad", spec := "orderBad", unfollowed := true, recurses := true, apart := false, narrowed := true }
def OrderBadUptoSaid : Prop := orderBadUptoRow.holds Try.pinned (OpenSpec.upto orderBadSpec)

/-- 'loesslaw19.OrderAny', WHERE WHAT IT READS IS OF BULK AT MOST 1048576: true; the input reads as it did. -/
def orderAnyUptoRow : OpenClaim := { program := "ytjnidblfgdlgnaa", sum := "752859729e0a1401311d4419f693fc8a2b9c681c47bc0d597a2d59cbcc225219", func := "loess/loesslaw19.OrderAny", spec := "orderAny", unfollowed := true, recurses := true, apart := false, narrowed := true }
def OrderAnyUptoSaid : Prop := orderAnyUptoRow.holds Try.pinned (OpenSpec.upto orderAnySpec)

/-- 'loesslaw19.OrderKeys', WHERE WHAT IT READS IS OF BULK AT MOST 1048576: true; the input reads as it did. -/
def orderKeysUptoRow : OpenClaim := { program := "ytjnidblfgdlgnaa", sum := "752859729e0a1401311d4419f693fc8a2b9c681c47bc0d597a2d59cbcc225219", func := "loess/loesslaw19.OrderKeys", spec := "orderKeys", unfollowed := true, recurses := true, apart := false, narrowed := true }
def OrderKeysUptoSaid : Prop := orderKeysUptoRow.holds Try.pinned (OpenSpec.upto orderKeysSpec)

/-- 'loesslaw20.TableBad', WHERE WHAT IT READS IS OF BULK AT MOST 1048576: true; the input reads as it did. -/
def tableBadUptoRow : OpenClaim := { program := "ytjnidblfgdlgnaa", sum := "752859729e0a1401311d4419f693fc8a2b9c681c47bc0d597a2d59cbcc225219", func := "loess/loesslaw20.TableBad", spec := "tableBad", unfollowed := true, recurses := true, apart := false, narrowed := true }
def TableBadUptoSaid : Prop := tableBadUptoRow.holds Try.pinned (OpenSpec.upto tableBadSpec)

end Rows
end Go.Proofs.Ytjnidblfgdlgnaa
