/-
  NARROWER THAN 'FOR EVERY INPUT', by the rows' own cells (each row's printed sentence says how): IdealBacks: laid · IdealAccepted: laid · IdealRound: laid · IdealSays: laid.
  DERIVED. THE GIVEN ROWS OF THIS SEAT. 4 by the template 'for every input the law returns true; each argument reads behind the call as it read before'; 0 by the template 'total and deterministic' (their statements: YtcnmnmhmmgjblaaGreatDoorTotals.lean).
  GIVEN WITH THE SEED: the statements are not yours to turn. If you find one false, say at which input.
  Laid BY PROGRAM, IN A SANDBOX (cutbox-rows.mjs): the forced cells as the released guide's own fill.sh prints them over the translation 0473f680ce603ac4… (all of the seat's roots in one cut). By AI agents, Wed Nov 11 2026. No macro, syntax, notation, axiom, sorry.
-/
import Derived.Test.YtcnmnmhmmgjblaaGreatDoorChecked
import GoSem.Claim
import GoSem.ClaimJoined
import GoSem.ClaimMapViews
import Derived.JoinedTies
import Derived.KernelRfl
namespace Go.Proofs.YtcnmnmhmmgjblaaGreatDoor
/- THE CELL 'sum', in the pinned program and in every row, IS THE sha256 OF THE DUMP (.gsa) THAT YtcnmnmhmmgjblaaGreatDoorProg.lean LOADS. Nothing in Lean hashes anything: it is a label: what it is worth is what the hold of that sum in a sandbox is worth. -/
noncomputable def Tryz.pinned : Pinned := { name := "ytcnmnmhmmgjblaagreatdoor", sum := "0473f680ce603ac4c2fa131d554620427616df193d00e7fb9b1b656b721e3a5a", checked := Tryz.checked }
namespace Rows
def none {H : Type} : Left H := { results := [], args := [] }

/- WHAT THE LISTED PACKAGE-LEVEL VARIABLES READ AS WHEN THE CALL BEGINS. Each datum BY PROGRAM (the guide's laid-datum.mjs) off the statement by which the dump's own 'gosem.cut.vars' lays the variable. In a bare row this is a premise. The card (YtcnmnmhmmgjblaaGreatDoorCards.lean) ties it to the program's text. -/
def laid_veil_scalar_table {H : Type} : DataW H := .agg [.agg [.lit (.int .u64 6346243789798364141), .lit (.int .u64 1503914060200516822), .lit (.int .u64 0), .lit (.int .u64 1152921504606846976)], .agg [.lit (.int .u64 15486807595281847581), .lit (.int .u64 14334777244411350896), .lit (.int .u64 18446744073709551614), .lit (.int .u64 1152921504606846975)], .agg [.lit (.int .u64 11819153939886771969), .lit (.int .u64 14991950615390032711), .lit (.int .u64 14910419812499177061), .lit (.int .u64 259310039853996605)], .agg [.lit (.int .u64 6346243789798364139), .lit (.int .u64 1503914060200516822), .lit (.int .u64 0), .lit (.int .u64 1152921504606846976)]]
def laid_veil_veilref01_Zero {H : Type} : DataW H := .agg [.lit (.int .i64 0), .lit (.int .i64 0), .lit (.int .i64 0), .lit (.int .i64 0), .lit (.int .i64 0), .lit (.int .i64 0), .lit (.int .i64 0), .lit (.int .i64 0), .lit (.int .i64 0), .lit (.int .i64 0)]
def laid_veil_veilref01_One {H : Type} : DataW H := .agg [.lit (.int .i64 1), .lit (.int .i64 0), .lit (.int .i64 0), .lit (.int .i64 0), .lit (.int .i64 0), .lit (.int .i64 0), .lit (.int .i64 0), .lit (.int .i64 0), .lit (.int .i64 0), .lit (.int .i64 0)]
def laid_veil_veilref01_prime {H : Type} : DataW H := .agg [.lit (.int .i64 67108845), .lit (.int .i64 67108863), .lit (.int .i64 67108863), .lit (.int .i64 67108863), .lit (.int .i64 67108863), .lit (.int .i64 67108863), .lit (.int .i64 67108863), .lit (.int .i64 67108863), .lit (.int .i64 67108863), .lit (.int .i64 2097151)]

/-- 'veillaw16.IdealBacks': WHATEVER THE INPUT: true; the input reads as it did. -/
def idealBacksSpec : ChangeSpec := { name := "idealBacks", fn := fun _ => fun
  | [d] => { results := [.lit (.bool true)], args := [d] }
  | _ => none }
def idealBacksRow : OpenClaim := { program := "ytcnmnmhmmgjblaagreatdoor", sum := "0473f680ce603ac4c2fa131d554620427616df193d00e7fb9b1b656b721e3a5a", func := "veil/veillaw16.IdealBacks", spec := "idealBacks", inPlace := ["math/bits.Add64", "math/bits.Sub64"], unfollowed := true, recurses := true, named := ["veil/scalar.table", "veil/veilref01.One", "veil/veilref01.prime", "veil/veilref01.Zero"], leaving := true, apart := false, laid := [("veil/scalar.table", laid_veil_scalar_table), ("veil/veilref01.Zero", laid_veil_veilref01_Zero), ("veil/veilref01.One", laid_veil_veilref01_One), ("veil/veilref01.prime", laid_veil_veilref01_prime)] }
def IdealBacksSaid : Prop := idealBacksRow.holds Tryz.pinned (OpenSpec.ofChange idealBacksSpec)

/-- ITS FALSE NEIGHBOUR: 'it returns false'. Refute it at one input. -/
def idealBacksWrong : ChangeSpec := { name := "idealBacks", fn := fun _ => fun
  | [d] => { results := [.lit (.bool false)], args := [d] }
  | _ => none }
def IdealBacksWrongFalsely : Prop := idealBacksRow.holds Tryz.pinned (OpenSpec.ofChange idealBacksWrong)

/-- 'veillaw16.IdealAccepted': WHATEVER THE INPUT: true; the input reads as it did. -/
def idealAcceptedSpec : ChangeSpec := { name := "idealAccepted", fn := fun _ => fun
  | [d1, d2] => { results := [.lit (.bool true)], args := [d1, d2] }
  | _ => none }
def idealAcceptedRow : OpenClaim := { program := "ytcnmnmhmmgjblaagreatdoor", sum := "0473f680ce603ac4c2fa131d554620427616df193d00e7fb9b1b656b721e3a5a", func := "veil/veillaw16.IdealAccepted", spec := "idealAccepted", inPlace := ["math/bits.Add64", "math/bits.Sub64", "sync/atomic.AddInt64", "sync/atomic.LoadInt64", "(*sync.WaitGroup).Add", "internal/race.ReleaseMerge", "internal/race.Disable", "internal/race.Enable", "internal/synctest.IsInBubble", "internal/synctest.Associate[sync.WaitGroup]", "sync.fatal", "sync/atomic.OrUint64", "sync/atomic.AddUint64", "internal/race.Read", "sync/atomic.LoadUint64", "sync/atomic.StoreUint64", "internal/synctest.Disassociate[sync.WaitGroup]", "sync.runtime_Semrelease", "(*sync.WaitGroup).Done", "(*sync.WaitGroup).Wait", "internal/race.Acquire", "internal/synctest.IsAssociated[sync.WaitGroup]", "sync/atomic.CompareAndSwapUint64", "internal/race.Write", "sync.runtime_SemacquireWaitGroup"], unfollowed := true, recurses := true, named := ["veil/scalar.table"], leaving := true, apart := false, laid := [("veil/scalar.table", laid_veil_scalar_table)] }
def IdealAcceptedSaid : Prop := idealAcceptedRow.holds Tryz.pinned (OpenSpec.ofChange idealAcceptedSpec)

/-- ITS FALSE NEIGHBOUR: 'it returns false'. Refute it at one input. -/
def idealAcceptedWrong : ChangeSpec := { name := "idealAccepted", fn := fun _ => fun
  | [d1, d2] => { results := [.lit (.bool false)], args := [d1, d2] }
  | _ => none }
def IdealAcceptedWrongFalsely : Prop := idealAcceptedRow.holds Tryz.pinned (OpenSpec.ofChange idealAcceptedWrong)

/-- 'veillaw16.IdealRound': WHATEVER THE INPUT: true; the input reads as it did. -/
def idealRoundSpec : ChangeSpec := { name := "idealRound", fn := fun _ => fun
  | [d] => { results := [.lit (.bool true)], args := [d] }
  | _ => none }
def idealRoundRow : OpenClaim := { program := "ytcnmnmhmmgjblaagreatdoor", sum := "0473f680ce603ac4c2fa131d554620427616df193d00e7fb9b1b656b721e3a5a", func := "veil/veillaw16.IdealRound", spec := "idealRound", inPlace := ["math/bits.Add64", "math/bits.Sub64", "sync/atomic.AddInt64", "sync/atomic.LoadInt64", "(*sync.WaitGroup).Add", "internal/race.ReleaseMerge", "internal/race.Disable", "internal/race.Enable", "internal/synctest.IsInBubble", "internal/synctest.Associate[sync.WaitGroup]", "sync.fatal", "sync/atomic.OrUint64", "sync/atomic.AddUint64", "internal/race.Read", "sync/atomic.LoadUint64", "sync/atomic.StoreUint64", "internal/synctest.Disassociate[sync.WaitGroup]", "sync.runtime_Semrelease", "(*sync.WaitGroup).Done", "(*sync.WaitGroup).Wait", "internal/race.Acquire", "internal/synctest.IsAssociated[sync.WaitGroup]", "sync/atomic.CompareAndSwapUint64", "internal/race.Write", "sync.runtime_SemacquireWaitGroup"], unfollowed := true, recurses := true, named := ["veil/scalar.table"], leaving := true, apart := false, laid := [("veil/scalar.table", laid_veil_scalar_table)] }
def IdealRoundSaid : Prop := idealRoundRow.holds Tryz.pinned (OpenSpec.ofChange idealRoundSpec)

/-- ITS FALSE NEIGHBOUR: 'it returns false'. Refute it at one input. -/
def idealRoundWrong : ChangeSpec := { name := "idealRound", fn := fun _ => fun
  | [d] => { results := [.lit (.bool false)], args := [d] }
  | _ => none }
def IdealRoundWrongFalsely : Prop := idealRoundRow.holds Tryz.pinned (OpenSpec.ofChange idealRoundWrong)

/-- 'veillaw16.IdealSays': WHATEVER THE INPUT: true; the input reads as it did. -/
def idealSaysSpec : ChangeSpec := { name := "idealSays", fn := fun _ => fun
  | [d] => { results := [.lit (.bool true)], args := [d] }
  | _ => none }
def idealSaysRow : OpenClaim := { program := "ytcnmnmhmmgjblaagreatdoor", sum := "0473f680ce603ac4c2fa131d554620427616df193d00e7fb9b1b656b721e3a5a", func := "veil/veillaw16.IdealSays", spec := "idealSays", inPlace := ["math/bits.Add64", "math/bits.Sub64", "sync/atomic.AddInt64", "sync/atomic.LoadInt64", "(*sync.WaitGroup).Add", "internal/race.ReleaseMerge", "internal/race.Disable", "internal/race.Enable", "internal/synctest.IsInBubble", "internal/synctest.Associate[sync.WaitGroup]", "sync.fatal", "sync/atomic.OrUint64", "sync/atomic.AddUint64", "internal/race.Read", "sync/atomic.LoadUint64", "sync/atomic.StoreUint64", "internal/synctest.Disassociate[sync.WaitGroup]", "sync.runtime_Semrelease", "(*sync.WaitGroup).Done", "(*sync.WaitGroup).Wait", "internal/race.Acquire", "internal/synctest.IsAssociated[sync.WaitGroup]", "sync/atomic.CompareAndSwapUint64", "internal/race.Write", "sync.runtime_SemacquireWaitGroup"], unfollowed := true, recurses := true, named := ["veil/scalar.table"], leaving := true, apart := false, laid := [("veil/scalar.table", laid_veil_scalar_table)] }
def IdealSaysSaid : Prop := idealSaysRow.holds Tryz.pinned (OpenSpec.ofChange idealSaysSpec)

/-- ITS FALSE NEIGHBOUR: 'it returns false'. Refute it at one input. -/
def idealSaysWrong : ChangeSpec := { name := "idealSays", fn := fun _ => fun
  | [d] => { results := [.lit (.bool false)], args := [d] }
  | _ => none }
def IdealSaysWrongFalsely : Prop := idealSaysRow.holds Tryz.pinned (OpenSpec.ofChange idealSaysWrong)

/- THE SECOND FORM. 'bulk': how many values and letters a reading holds, each counted each time it is reached (what is shared counts as often as it is met; a slice's spare places count too). A statement '..UptoSaid' is the law's where the arguments, and the package variables that the reading takes, are together of bulk at most 1048576: NARROWER than '..Said'. Prove '..Said' where nothing that the law and all that it calls make is longer than what came in: it says more and counts as full. Else prove '..UptoSaid'. A law counts once. -/
mutual
def uptoBulk {H : Type} : DataW H → Nat
  | .lit (.string bytes) => bytes.length + 1
  | .lit _ => 1
  | .nil => 1
  | .ptr d => uptoBulk d + 1
  | .slice elems spare => uptoBulkAll elems + uptoBulkAll spare + 1
  | .agg parts => uptoBulkAll parts + 1
  | .iface _ d => uptoBulk d + 1
  | .map entries => uptoBulkEntries entries + 1
  | .held _ => 1
def uptoBulkAll {H : Type} : List (DataW H) → Nat
  | [] => 0
  | d :: r => uptoBulk d + uptoBulkAll r
def uptoBulkEntries {H : Type} : List (Lit × DataW H) → Nat
  | [] => 0
  | x :: r => uptoBulkEntry x + uptoBulkEntries r
def uptoBulkEntry {H : Type} : Lit × DataW H → Nat
  | (.string bytes, d) => bytes.length + uptoBulk d + 1
  | (_, d) => uptoBulk d + 1
 end
def uptoSmall : (H : Type) → List (DataW H) → Bool := fun _ ds => decide (uptoBulkAll ds ≤ 1048576)
def OpenSpec.upto (s : _root_.Go.ChangeSpec) : _root_.Go.OpenSpec := { _root_.Go.OpenSpec.ofChange s with cond := some uptoSmall }

/-- 'veillaw16.IdealBacks', WHERE WHAT IT READS IS OF BULK AT MOST 1048576: true; the input reads as it did. -/
def idealBacksUptoRow : OpenClaim := { program := "ytcnmnmhmmgjblaagreatdoor", sum := "0473f680ce603ac4c2fa131d554620427616df193d00e7fb9b1b656b721e3a5a", func := "veil/veillaw16.IdealBacks", spec := "idealBacks", inPlace := ["math/bits.Add64", "math/bits.Sub64"], unfollowed := true, recurses := true, named := ["veil/scalar.table", "veil/veilref01.One", "veil/veilref01.prime", "veil/veilref01.Zero"], leaving := true, apart := false, laid := [("veil/scalar.table", laid_veil_scalar_table), ("veil/veilref01.Zero", laid_veil_veilref01_Zero), ("veil/veilref01.One", laid_veil_veilref01_One), ("veil/veilref01.prime", laid_veil_veilref01_prime)], narrowed := true }
def IdealBacksUptoSaid : Prop := idealBacksUptoRow.holds Tryz.pinned (OpenSpec.upto idealBacksSpec)

/-- 'veillaw16.IdealAccepted', WHERE WHAT IT READS IS OF BULK AT MOST 1048576: true; the input reads as it did. -/
def idealAcceptedUptoRow : OpenClaim := { program := "ytcnmnmhmmgjblaagreatdoor", sum := "0473f680ce603ac4c2fa131d554620427616df193d00e7fb9b1b656b721e3a5a", func := "veil/veillaw16.IdealAccepted", spec := "idealAccepted", inPlace := ["math/bits.Add64", "math/bits.Sub64", "sync/atomic.AddInt64", "sync/atomic.LoadInt64", "(*sync.WaitGroup).Add", "internal/race.ReleaseMerge", "internal/race.Disable", "internal/race.Enable", "internal/synctest.IsInBubble", "internal/synctest.Associate[sync.WaitGroup]", "sync.fatal", "sync/atomic.OrUint64", "sync/atomic.AddUint64", "internal/race.Read", "sync/atomic.LoadUint64", "sync/atomic.StoreUint64", "internal/synctest.Disassociate[sync.WaitGroup]", "sync.runtime_Semrelease", "(*sync.WaitGroup).Done", "(*sync.WaitGroup).Wait", "internal/race.Acquire", "internal/synctest.IsAssociated[sync.WaitGroup]", "sync/atomic.CompareAndSwapUint64", "internal/race.Write", "sync.runtime_SemacquireWaitGroup"], unfollowed := true, recurses := true, named := ["veil/scalar.table"], leaving := true, apart := false, laid := [("veil/scalar.table", laid_veil_scalar_table)], narrowed := true }
def IdealAcceptedUptoSaid : Prop := idealAcceptedUptoRow.holds Tryz.pinned (OpenSpec.upto idealAcceptedSpec)

/-- 'veillaw16.IdealRound', WHERE WHAT IT READS IS OF BULK AT MOST 1048576: true; the input reads as it did. -/
def idealRoundUptoRow : OpenClaim := { program := "ytcnmnmhmmgjblaagreatdoor", sum := "0473f680ce603ac4c2fa131d554620427616df193d00e7fb9b1b656b721e3a5a", func := "veil/veillaw16.IdealRound", spec := "idealRound", inPlace := ["math/bits.Add64", "math/bits.Sub64", "sync/atomic.AddInt64", "sync/atomic.LoadInt64", "(*sync.WaitGroup).Add", "internal/race.ReleaseMerge", "internal/race.Disable", "internal/race.Enable", "internal/synctest.IsInBubble", "internal/synctest.Associate[sync.WaitGroup]", "sync.fatal", "sync/atomic.OrUint64", "sync/atomic.AddUint64", "internal/race.Read", "sync/atomic.LoadUint64", "sync/atomic.StoreUint64", "internal/synctest.Disassociate[sync.WaitGroup]", "sync.runtime_Semrelease", "(*sync.WaitGroup).Done", "(*sync.WaitGroup).Wait", "internal/race.Acquire", "internal/synctest.IsAssociated[sync.WaitGroup]", "sync/atomic.CompareAndSwapUint64", "internal/race.Write", "sync.runtime_SemacquireWaitGroup"], unfollowed := true, recurses := true, named := ["veil/scalar.table"], leaving := true, apart := false, laid := [("veil/scalar.table", laid_veil_scalar_table)], narrowed := true }
def IdealRoundUptoSaid : Prop := idealRoundUptoRow.holds Tryz.pinned (OpenSpec.upto idealRoundSpec)

/-- 'veillaw16.IdealSays', WHERE WHAT IT READS IS OF BULK AT MOST 1048576: true; the input reads as it did. -/
def idealSaysUptoRow : OpenClaim := { program := "ytcnmnmhmmgjblaagreatdoor", sum := "0473f680ce603ac4c2fa131d554620427616df193d00e7fb9b1b656b721e3a5a", func := "veil/veillaw16.IdealSays", spec := "idealSays", inPlace := ["math/bits.Add64", "math/bits.Sub64", "sync/atomic.AddInt64", "sync/atomic.LoadInt64", "(*sync.WaitGroup).Add", "internal/race.ReleaseMerge", "internal/race.Disable", "internal/race.Enable", "internal/synctest.IsInBubble", "internal/synctest.Associate[sync.WaitGroup]", "sync.fatal", "sync/atomic.OrUint64", "sync/atomic.AddUint64", "internal/race.Read", "sync/atomic.LoadUint64", "sync/atomic.StoreUint64", "internal/synctest.Disassociate[sync.WaitGroup]", "sync.runtime_Semrelease", "(*sync.WaitGroup).Done", "(*sync.WaitGroup).Wait", "internal/race.Acquire", "internal/synctest.IsAssociated[sync.WaitGroup]", "sync/atomic.CompareAndSwapUint64", "internal/race.Write", "sync.runtime_SemacquireWaitGroup"], unfollowed := true, recurses := true, named := ["veil/scalar.table"], leaving := true, apart := false, laid := [("veil/scalar.table", laid_veil_scalar_table)], narrowed := true }
def IdealSaysUptoSaid : Prop := idealSaysUptoRow.holds Tryz.pinned (OpenSpec.upto idealSaysSpec)

end Rows
end Go.Proofs.YtcnmnmhmmgjblaaGreatDoor
