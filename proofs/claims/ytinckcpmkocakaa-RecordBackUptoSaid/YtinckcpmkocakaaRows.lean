/-
  No cell of these rows narrows 'for every input' (looked for: loops, veiled, ifaces, maps, wideKeys, modest, calm, conditions, laid).
  DERIVED. THE GIVEN ROWS OF THIS SEAT. 13 by the template 'for every input the law returns true; each argument reads behind the call as it read before'; 0 by the template 'total and deterministic' (their statements: YtinckcpmkocakaaTotals.lean).
  GIVEN WITH THE SEED: the statements are not yours to turn. If you find one false, say at which input.
  Laid BY PROGRAM, IN A SANDBOX (cutbox-rows.mjs): the forced cells as the released guide's own fill.sh prints them over the translation c493300b12d02df6… (all of the seat's roots in one cut). By AI agents, Wed Nov 11 2026. No macro, syntax, notation, axiom, sorry.
-/
import Derived.Test.YtinckcpmkocakaaChecked
import GoSem.Claim
import GoSem.ClaimJoined
import GoSem.ClaimMapViews
import Derived.JoinedTies
import Derived.KernelRfl
namespace Go.Proofs.Ytinckcpmkocakaa
/- THE CELL 'sum', in the pinned program and in every row, IS THE sha256 OF THE DUMP (.gsa) THAT YtinckcpmkocakaaProg.lean LOADS. Nothing in Lean hashes anything: it is a label: what it is worth is what the hold of that sum in a sandbox is worth. -/
noncomputable def Try.pinned : Pinned := { name := "ytinckcpmkocakaa", sum := "c493300b12d02df65eb8996f2743adc0a44b3bf9f2e83f42265ebc27e30ae0a8", checked := Try.checked }
namespace Rows
def none {H : Type} : Left H := { results := [], args := [] }

/-- 'gessolaw09.SumOfs': WHATEVER THE INPUT: true; the input reads as it did. -/
def sumOfsSpec : ChangeSpec := { name := "sumOfs", fn := fun _ => fun
  | [d] => { results := [.lit (.bool true)], args := [d] }
  | _ => none }
def sumOfsRow : OpenClaim := { program := "ytinckcpmkocakaa", sum := "c493300b12d02df65eb8996f2743adc0a44b3bf9f2e83f42265ebc27e30ae0a8", func := "gesso/gessolaw09.SumOfs", spec := "sumOfs", unfollowed := true, recurses := true, apart := false }
def SumOfsSaid : Prop := sumOfsRow.holds Try.pinned (OpenSpec.ofChange sumOfsSpec)

/-- ITS FALSE NEIGHBOUR: 'it returns false'. Refute it at one input. -/
def sumOfsWrong : ChangeSpec := { name := "sumOfs", fn := fun _ => fun
  | [d] => { results := [.lit (.bool false)], args := [d] }
  | _ => none }
def SumOfsWrongFalsely : Prop := sumOfsRow.holds Try.pinned (OpenSpec.ofChange sumOfsWrong)

/-- 'gessolaw09.SumGoes': WHATEVER THE INPUT: true; the input reads as it did. -/
def sumGoesSpec : ChangeSpec := { name := "sumGoes", fn := fun _ => fun
  | [d1, d2] => { results := [.lit (.bool true)], args := [d1, d2] }
  | _ => none }
def sumGoesRow : OpenClaim := { program := "ytinckcpmkocakaa", sum := "c493300b12d02df65eb8996f2743adc0a44b3bf9f2e83f42265ebc27e30ae0a8", func := "gesso/gessolaw09.SumGoes", spec := "sumGoes", unfollowed := true, recurses := true, apart := false }
def SumGoesSaid : Prop := sumGoesRow.holds Try.pinned (OpenSpec.ofChange sumGoesSpec)

/-- ITS FALSE NEIGHBOUR: 'it returns false'. Refute it at one input. -/
def sumGoesWrong : ChangeSpec := { name := "sumGoes", fn := fun _ => fun
  | [d1, d2] => { results := [.lit (.bool false)], args := [d1, d2] }
  | _ => none }
def SumGoesWrongFalsely : Prop := sumGoesRow.holds Try.pinned (OpenSpec.ofChange sumGoesWrong)

/-- 'gessolaw09.SumCuts': WHATEVER THE INPUT: true; the input reads as it did. -/
def sumCutsSpec : ChangeSpec := { name := "sumCuts", fn := fun _ => fun
  | [d1, d2] => { results := [.lit (.bool true)], args := [d1, d2] }
  | _ => none }
def sumCutsRow : OpenClaim := { program := "ytinckcpmkocakaa", sum := "c493300b12d02df65eb8996f2743adc0a44b3bf9f2e83f42265ebc27e30ae0a8", func := "gesso/gessolaw09.SumCuts", spec := "sumCuts", unfollowed := true, recurses := true, apart := false }
def SumCutsSaid : Prop := sumCutsRow.holds Try.pinned (OpenSpec.ofChange sumCutsSpec)

/-- ITS FALSE NEIGHBOUR: 'it returns false'. Refute it at one input. -/
def sumCutsWrong : ChangeSpec := { name := "sumCuts", fn := fun _ => fun
  | [d1, d2] => { results := [.lit (.bool false)], args := [d1, d2] }
  | _ => none }
def SumCutsWrongFalsely : Prop := sumCutsRow.holds Try.pinned (OpenSpec.ofChange sumCutsWrong)

/-- 'gessolaw09.SumTurned': WHATEVER THE INPUT: true; the input reads as it did. -/
def sumTurnedSpec : ChangeSpec := { name := "sumTurned", fn := fun _ => fun
  | [d1, d2, d3] => { results := [.lit (.bool true)], args := [d1, d2, d3] }
  | _ => none }
def sumTurnedRow : OpenClaim := { program := "ytinckcpmkocakaa", sum := "c493300b12d02df65eb8996f2743adc0a44b3bf9f2e83f42265ebc27e30ae0a8", func := "gesso/gessolaw09.SumTurned", spec := "sumTurned", unfollowed := true, recurses := true, apart := false }
def SumTurnedSaid : Prop := sumTurnedRow.holds Try.pinned (OpenSpec.ofChange sumTurnedSpec)

/-- ITS FALSE NEIGHBOUR: 'it returns false'. Refute it at one input. -/
def sumTurnedWrong : ChangeSpec := { name := "sumTurned", fn := fun _ => fun
  | [d1, d2, d3] => { results := [.lit (.bool false)], args := [d1, d2, d3] }
  | _ => none }
def SumTurnedWrongFalsely : Prop := sumTurnedRow.holds Try.pinned (OpenSpec.ofChange sumTurnedWrong)

/-- 'gessolaw09.SumLinear': WHATEVER THE INPUT: true; the input reads as it did. -/
def sumLinearSpec : ChangeSpec := { name := "sumLinear", fn := fun _ => fun
  | [d1, d2, d3] => { results := [.lit (.bool true)], args := [d1, d2, d3] }
  | _ => none }
def sumLinearRow : OpenClaim := { program := "ytinckcpmkocakaa", sum := "c493300b12d02df65eb8996f2743adc0a44b3bf9f2e83f42265ebc27e30ae0a8", func := "gesso/gessolaw09.SumLinear", spec := "sumLinear", unfollowed := true, recurses := true, apart := false }
def SumLinearSaid : Prop := sumLinearRow.holds Try.pinned (OpenSpec.ofChange sumLinearSpec)

/-- ITS FALSE NEIGHBOUR: 'it returns false'. Refute it at one input. -/
def sumLinearWrong : ChangeSpec := { name := "sumLinear", fn := fun _ => fun
  | [d1, d2, d3] => { results := [.lit (.bool false)], args := [d1, d2, d3] }
  | _ => none }
def SumLinearWrongFalsely : Prop := sumLinearRow.holds Try.pinned (OpenSpec.ofChange sumLinearWrong)

/-- 'gessolaw09.SumPieces': WHATEVER THE INPUT: true; the input reads as it did. -/
def sumPiecesSpec : ChangeSpec := { name := "sumPieces", fn := fun _ => fun
  | [d] => { results := [.lit (.bool true)], args := [d] }
  | _ => none }
def sumPiecesRow : OpenClaim := { program := "ytinckcpmkocakaa", sum := "c493300b12d02df65eb8996f2743adc0a44b3bf9f2e83f42265ebc27e30ae0a8", func := "gesso/gessolaw09.SumPieces", spec := "sumPieces", unfollowed := true, recurses := true, apart := false }
def SumPiecesSaid : Prop := sumPiecesRow.holds Try.pinned (OpenSpec.ofChange sumPiecesSpec)

/-- ITS FALSE NEIGHBOUR: 'it returns false'. Refute it at one input. -/
def sumPiecesWrong : ChangeSpec := { name := "sumPieces", fn := fun _ => fun
  | [d] => { results := [.lit (.bool false)], args := [d] }
  | _ => none }
def SumPiecesWrongFalsely : Prop := sumPiecesRow.holds Try.pinned (OpenSpec.ofChange sumPiecesWrong)

/-- 'gessolaw12.RecordPuts': WHATEVER THE INPUT: true; the input reads as it did. -/
def recordPutsSpec : ChangeSpec := { name := "recordPuts", fn := fun _ => fun
  | [d] => { results := [.lit (.bool true)], args := [d] }
  | _ => none }
def recordPutsRow : OpenClaim := { program := "ytinckcpmkocakaa", sum := "c493300b12d02df65eb8996f2743adc0a44b3bf9f2e83f42265ebc27e30ae0a8", func := "gesso/gessolaw12.RecordPuts", spec := "recordPuts", unfollowed := true, recurses := true, apart := false }
def RecordPutsSaid : Prop := recordPutsRow.holds Try.pinned (OpenSpec.ofChange recordPutsSpec)

/-- ITS FALSE NEIGHBOUR: 'it returns false'. Refute it at one input. -/
def recordPutsWrong : ChangeSpec := { name := "recordPuts", fn := fun _ => fun
  | [d] => { results := [.lit (.bool false)], args := [d] }
  | _ => none }
def RecordPutsWrongFalsely : Prop := recordPutsRow.holds Try.pinned (OpenSpec.ofChange recordPutsWrong)

/-- 'gessolaw12.RecordGets': WHATEVER THE INPUT: true; the input reads as it did. -/
def recordGetsSpec : ChangeSpec := { name := "recordGets", fn := fun _ => fun
  | [d] => { results := [.lit (.bool true)], args := [d] }
  | _ => none }
def recordGetsRow : OpenClaim := { program := "ytinckcpmkocakaa", sum := "c493300b12d02df65eb8996f2743adc0a44b3bf9f2e83f42265ebc27e30ae0a8", func := "gesso/gessolaw12.RecordGets", spec := "recordGets", unfollowed := true, recurses := true, apart := false }
def RecordGetsSaid : Prop := recordGetsRow.holds Try.pinned (OpenSpec.ofChange recordGetsSpec)

/-- ITS FALSE NEIGHBOUR: 'it returns false'. Refute it at one input. -/
def recordGetsWrong : ChangeSpec := { name := "recordGets", fn := fun _ => fun
  | [d] => { results := [.lit (.bool false)], args := [d] }
  | _ => none }
def RecordGetsWrongFalsely : Prop := recordGetsRow.holds Try.pinned (OpenSpec.ofChange recordGetsWrong)

/-- 'gessolaw12.RecordFrames': WHATEVER THE INPUT: true; the input reads as it did. -/
def recordFramesSpec : ChangeSpec := { name := "recordFrames", fn := fun _ => fun
  | [d1, d2] => { results := [.lit (.bool true)], args := [d1, d2] }
  | _ => none }
def recordFramesRow : OpenClaim := { program := "ytinckcpmkocakaa", sum := "c493300b12d02df65eb8996f2743adc0a44b3bf9f2e83f42265ebc27e30ae0a8", func := "gesso/gessolaw12.RecordFrames", spec := "recordFrames", unfollowed := true, recurses := true, apart := false }
def RecordFramesSaid : Prop := recordFramesRow.holds Try.pinned (OpenSpec.ofChange recordFramesSpec)

/-- ITS FALSE NEIGHBOUR: 'it returns false'. Refute it at one input. -/
def recordFramesWrong : ChangeSpec := { name := "recordFrames", fn := fun _ => fun
  | [d1, d2] => { results := [.lit (.bool false)], args := [d1, d2] }
  | _ => none }
def RecordFramesWrongFalsely : Prop := recordFramesRow.holds Try.pinned (OpenSpec.ofChange recordFramesWrong)

/-- 'gessolaw12.RecordScans': WHATEVER THE INPUT: true; the input reads as it did. -/
def recordScansSpec : ChangeSpec := { name := "recordScans", fn := fun _ => fun
  | [d] => { results := [.lit (.bool true)], args := [d] }
  | _ => none }
def recordScansRow : OpenClaim := { program := "ytinckcpmkocakaa", sum := "c493300b12d02df65eb8996f2743adc0a44b3bf9f2e83f42265ebc27e30ae0a8", func := "gesso/gessolaw12.RecordScans", spec := "recordScans", unfollowed := true, recurses := true, apart := false }
def RecordScansSaid : Prop := recordScansRow.holds Try.pinned (OpenSpec.ofChange recordScansSpec)

/-- ITS FALSE NEIGHBOUR: 'it returns false'. Refute it at one input. -/
def recordScansWrong : ChangeSpec := { name := "recordScans", fn := fun _ => fun
  | [d] => { results := [.lit (.bool false)], args := [d] }
  | _ => none }
def RecordScansWrongFalsely : Prop := recordScansRow.holds Try.pinned (OpenSpec.ofChange recordScansWrong)

/-- 'gessolaw12.RecordBack': WHATEVER THE INPUT: true; the input reads as it did. -/
def recordBackSpec : ChangeSpec := { name := "recordBack", fn := fun _ => fun
  | [d1, d2] => { results := [.lit (.bool true)], args := [d1, d2] }
  | _ => none }
def recordBackRow : OpenClaim := { program := "ytinckcpmkocakaa", sum := "c493300b12d02df65eb8996f2743adc0a44b3bf9f2e83f42265ebc27e30ae0a8", func := "gesso/gessolaw12.RecordBack", spec := "recordBack", unfollowed := true, recurses := true, apart := false }
def RecordBackSaid : Prop := recordBackRow.holds Try.pinned (OpenSpec.ofChange recordBackSpec)

/-- ITS FALSE NEIGHBOUR: 'it returns false'. Refute it at one input. -/
def recordBackWrong : ChangeSpec := { name := "recordBack", fn := fun _ => fun
  | [d1, d2] => { results := [.lit (.bool false)], args := [d1, d2] }
  | _ => none }
def RecordBackWrongFalsely : Prop := recordBackRow.holds Try.pinned (OpenSpec.ofChange recordBackWrong)

/-- 'gessolaw12.RecordPrefix': WHATEVER THE INPUT: true; the input reads as it did. -/
def recordPrefixSpec : ChangeSpec := { name := "recordPrefix", fn := fun _ => fun
  | [d1, d2, d3] => { results := [.lit (.bool true)], args := [d1, d2, d3] }
  | _ => none }
def recordPrefixRow : OpenClaim := { program := "ytinckcpmkocakaa", sum := "c493300b12d02df65eb8996f2743adc0a44b3bf9f2e83f42265ebc27e30ae0a8", func := "gesso/gessolaw12.RecordPrefix", spec := "recordPrefix", unfollowed := true, recurses := true, apart := false }
def RecordPrefixSaid : Prop := recordPrefixRow.holds Try.pinned (OpenSpec.ofChange recordPrefixSpec)

/-- ITS FALSE NEIGHBOUR: 'it returns false'. Refute it at one input. -/
def recordPrefixWrong : ChangeSpec := { name := "recordPrefix", fn := fun _ => fun
  | [d1, d2, d3] => { results := [.lit (.bool false)], args := [d1, d2, d3] }
  | _ => none }
def RecordPrefixWrongFalsely : Prop := recordPrefixRow.holds Try.pinned (OpenSpec.ofChange recordPrefixWrong)

/-- 'gessolaw12.RecordTurned': WHATEVER THE INPUT: true; the input reads as it did. -/
def recordTurnedSpec : ChangeSpec := { name := "recordTurned", fn := fun _ => fun
  | [d1, d2, d3] => { results := [.lit (.bool true)], args := [d1, d2, d3] }
  | _ => none }
def recordTurnedRow : OpenClaim := { program := "ytinckcpmkocakaa", sum := "c493300b12d02df65eb8996f2743adc0a44b3bf9f2e83f42265ebc27e30ae0a8", func := "gesso/gessolaw12.RecordTurned", spec := "recordTurned", unfollowed := true, recurses := true, apart := false }
def RecordTurnedSaid : Prop := recordTurnedRow.holds Try.pinned (OpenSpec.ofChange recordTurnedSpec)

/-- ITS FALSE NEIGHBOUR: 'it returns false'. Refute it at one input. -/
def recordTurnedWrong : ChangeSpec := { name := "recordTurned", fn := fun _ => fun
  | [d1, d2, d3] => { results := [.lit (.bool false)], args := [d1, d2, d3] }
  | _ => none }
def RecordTurnedWrongFalsely : Prop := recordTurnedRow.holds Try.pinned (OpenSpec.ofChange recordTurnedWrong)

/- THE SECOND FORM. 'bulk': how many values and letters a reading holds, each counted each time it is reached (what is shared counts as often as it is met; a slice's spare places count too). A statement '..UptoSaid' is the law's where the arguments, and the package variables that the reading takes, are together of bulk at most 1048576: NARROWER than '..Said'. Prove '..Said' where nothing that the law and all that it calls make is longer than what came in: it says more and counts as full. Else prove '..UptoSaid'. A law counts once. -/
mutual
def uptoBulk {H : Type} : DataW H → Nat
  | .lit (.string bytes) => bytes.length + 1
  | .lit _ => 1
  | .nil => 1
  | .ptr d => uptoBulk d + 1
  | .slice elems spare => uptoBulkAll elems + uptoBulkAll spare + 1
  | .agg parts => uptoBulkAll parts + 1
  | .iface _ d => uptoBulk d + 1
  | .map entries => uptoBulkEntries entries + 1
  | .held _ => 1
def uptoBulkAll {H : Type} : List (DataW H) → Nat
  | [] => 0
  | d :: r => uptoBulk d + uptoBulkAll r
def uptoBulkEntries {H : Type} : List (Lit × DataW H) → Nat
  | [] => 0
  | x :: r => uptoBulkEntry x + uptoBulkEntries r
def uptoBulkEntry {H : Type} : Lit × DataW H → Nat
  | (.string bytes, d) => bytes.length + uptoBulk d + 1
  | (_, d) => uptoBulk d + 1
 end
def uptoSmall : (H : Type) → List (DataW H) → Bool := fun _ ds => decide (uptoBulkAll ds ≤ 1048576)
def OpenSpec.upto (s : _root_.Go.ChangeSpec) : _root_.Go.OpenSpec := { _root_.Go.OpenSpec.ofChange s with cond := some uptoSmall }

/-- 'gessolaw09.SumOfs', WHERE WHAT IT READS IS OF BULK AT MOST 1048576: true; the input reads as it did. -/
def sumOfsUptoRow : OpenClaim := { program := "ytinckcpmkocakaa", sum := "c493300b12d02df65eb8996f2743adc0a44b3bf9f2e83f42265ebc27e30ae0a8", func := "gesso/gessolaw09.SumOfs", spec := "sumOfs", unfollowed := true, recurses := true, apart := false, narrowed := true }
def SumOfsUptoSaid : Prop := sumOfsUptoRow.holds Try.pinned (OpenSpec.upto sumOfsSpec)

/-- 'gessolaw09.SumGoes', WHERE WHAT IT READS IS OF BULK AT MOST 1048576: true; the input reads as it did. -/
def sumGoesUptoRow : OpenClaim := { program := "ytinckcpmkocakaa", sum := "c493300b12d02df65eb8996f2743adc0a44b3bf9f2e83f42265ebc27e30ae0a8", func := "gesso/gessolaw09.SumGoes", spec := "sumGoes", unfollowed := true, recurses := true, apart := false, narrowed := true }
def SumGoesUptoSaid : Prop := sumGoesUptoRow.holds Try.pinned (OpenSpec.upto sumGoesSpec)

/-- 'gessolaw09.SumCuts', WHERE WHAT IT READS IS OF BULK AT MOST 1048576: true; the input reads as it did. -/
def sumCutsUptoRow : OpenClaim := { program := "ytinckcpmkocakaa", sum := "c493300b12d02df65eb8996f2743adc0a44b3bf9f2e83f42265ebc27e30ae0a8", func := "gesso/gessolaw09.SumCuts", spec := "sumCuts", unfollowed := true, recurses := true, apart := false, narrowed := true }
def SumCutsUptoSaid : Prop := sumCutsUptoRow.holds Try.pinned (OpenSpec.upto sumCutsSpec)

/-- 'gessolaw09.SumTurned', WHERE WHAT IT READS IS OF BULK AT MOST 1048576: true; the input reads as it did. -/
def sumTurnedUptoRow : OpenClaim := { program := "ytinckcpmkocakaa", sum := "c493300b12d02df65eb8996f2743adc0a44b3bf9f2e83f42265ebc27e30ae0a8", func := "gesso/gessolaw09.SumTurned", spec := "sumTurned", unfollowed := true, recurses := true, apart := false, narrowed := true }
def SumTurnedUptoSaid : Prop := sumTurnedUptoRow.holds Try.pinned (OpenSpec.upto sumTurnedSpec)

/-- 'gessolaw09.SumLinear', WHERE WHAT IT READS IS OF BULK AT MOST 1048576: true; the input reads as it did. -/
def sumLinearUptoRow : OpenClaim := { program := "ytinckcpmkocakaa", sum := "c493300b12d02df65eb8996f2743adc0a44b3bf9f2e83f42265ebc27e30ae0a8", func := "gesso/gessolaw09.SumLinear", spec := "sumLinear", unfollowed := true, recurses := true, apart := false, narrowed := true }
def SumLinearUptoSaid : Prop := sumLinearUptoRow.holds Try.pinned (OpenSpec.upto sumLinearSpec)

/-- 'gessolaw09.SumPieces', WHERE WHAT IT READS IS OF BULK AT MOST 1048576: true; the input reads as it did. -/
def sumPiecesUptoRow : OpenClaim := { program := "ytinckcpmkocakaa", sum := "c493300b12d02df65eb8996f2743adc0a44b3bf9f2e83f42265ebc27e30ae0a8", func := "gesso/gessolaw09.SumPieces", spec := "sumPieces", unfollowed := true, recurses := true, apart := false, narrowed := true }
def SumPiecesUptoSaid : Prop := sumPiecesUptoRow.holds Try.pinned (OpenSpec.upto sumPiecesSpec)

/-- 'gessolaw12.RecordPuts', WHERE WHAT IT READS IS OF BULK AT MOST 1048576: true; the input reads as it did. -/
def recordPutsUptoRow : OpenClaim := { program := "ytinckcpmkocakaa", sum := "c493300b12d02df65eb8996f2743adc0a44b3bf9f2e83f42265ebc27e30ae0a8", func := "gesso/gessolaw12.RecordPuts", spec := "recordPuts", unfollowed := true, recurses := true, apart := false, narrowed := true }
def RecordPutsUptoSaid : Prop := recordPutsUptoRow.holds Try.pinned (OpenSpec.upto recordPutsSpec)

/-- 'gessolaw12.RecordGets', WHERE WHAT IT READS IS OF BULK AT MOST 1048576: true; the input reads as it did. -/
def recordGetsUptoRow : OpenClaim := { program := "ytinckcpmkocakaa", sum := "c493300b12d02df65eb8996f2743adc0a44b3bf9f2e83f42265ebc27e30ae0a8", func := "gesso/gessolaw12.RecordGets", spec := "recordGets", unfollowed := true, recurses := true, apart := false, narrowed := true }
def RecordGetsUptoSaid : Prop := recordGetsUptoRow.holds Try.pinned (OpenSpec.upto recordGetsSpec)

/-- 'gessolaw12.RecordFrames', WHERE WHAT IT READS IS OF BULK AT MOST 1048576: true; the input reads as it did. -/
def recordFramesUptoRow : OpenClaim := { program := "ytinckcpmkocakaa", sum := "c493300b12d02df65eb8996f2743adc0a44b3bf9f2e83f42265ebc27e30ae0a8", func := "gesso/gessolaw12.RecordFrames", spec := "recordFrames", unfollowed := true, recurses := true, apart := false, narrowed := true }
def RecordFramesUptoSaid : Prop := recordFramesUptoRow.holds Try.pinned (OpenSpec.upto recordFramesSpec)

/-- 'gessolaw12.RecordScans', WHERE WHAT IT READS IS OF BULK AT MOST 1048576: true; the input reads as it did. -/
def recordScansUptoRow : OpenClaim := { program := "ytinckcpmkocakaa", sum := "c493300b12d02df65eb8996f2743adc0a44b3bf9f2e83f42265ebc27e30ae0a8", func := "gesso/gessolaw12.RecordScans", spec := "recordScans", unfollowed := true, recurses := true, apart := false, narrowed := true }
def RecordScansUptoSaid : Prop := recordScansUptoRow.holds Try.pinned (OpenSpec.upto recordScansSpec)

/-- 'gessolaw12.RecordBack', WHERE WHAT IT READS IS OF BULK AT MOST 1048576: true; the input reads as it did. -/
def recordBackUptoRow : OpenClaim := { program := "ytinckcpmkocakaa", sum := "c493300b12d02df65eb8996f2743adc0a44b3bf9f2e83f42265ebc27e30ae0a8", func := "gesso/gessolaw12.RecordBack", spec := "recordBack", unfollowed := true, recurses := true, apart := false, narrowed := true }
def RecordBackUptoSaid : Prop := recordBackUptoRow.holds Try.pinned (OpenSpec.upto recordBackSpec)

/-- 'gessolaw12.RecordPrefix', WHERE WHAT IT READS IS OF BULK AT MOST 1048576: true; the input reads as it did. -/
def recordPrefixUptoRow : OpenClaim := { program := "ytinckcpmkocakaa", sum := "c493300b12d02df65eb8996f2743adc0a44b3bf9f2e83f42265ebc27e30ae0a8", func := "gesso/gessolaw12.RecordPrefix", spec := "recordPrefix", unfollowed := true, recurses := true, apart := false, narrowed := true }
def RecordPrefixUptoSaid : Prop := recordPrefixUptoRow.holds Try.pinned (OpenSpec.upto recordPrefixSpec)

/-- 'gessolaw12.RecordTurned', WHERE WHAT IT READS IS OF BULK AT MOST 1048576: true; the input reads as it did. -/
def recordTurnedUptoRow : OpenClaim := { program := "ytinckcpmkocakaa", sum := "c493300b12d02df65eb8996f2743adc0a44b3bf9f2e83f42265ebc27e30ae0a8", func := "gesso/gessolaw12.RecordTurned", spec := "recordTurned", unfollowed := true, recurses := true, apart := false, narrowed := true }
def RecordTurnedUptoSaid : Prop := recordTurnedUptoRow.holds Try.pinned (OpenSpec.upto recordTurnedSpec)

end Rows
end Go.Proofs.Ytinckcpmkocakaa
