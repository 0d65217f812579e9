/-
  No cell of these rows narrows 'for every input' (looked for: loops, veiled, ifaces, maps, wideKeys, modest, calm, conditions, laid).
  DERIVED. THE GIVEN ROWS OF THIS SEAT. 35 by the template 'for every input the law returns true; each argument reads behind the call as it read before'; 0 by the template 'total and deterministic' (their statements: YtkkpcdpoldjmkaaTotals.lean).
  GIVEN WITH THE SEED: the statements are not yours to turn. If you find one false, say at which input.
  Laid BY PROGRAM, IN A SANDBOX (cutbox-rows.mjs): the forced cells as the released guide's own fill.sh prints them over the translation fc2330a886fa6bcb… (all of the seat's roots in one cut). By AI agents, Wed Nov 11 2026. No macro, syntax, notation, axiom, sorry.
-/
import Derived.Test.YtkkpcdpoldjmkaaChecked
import GoSem.Claim
import GoSem.ClaimJoined
import GoSem.ClaimMapViews
import Derived.JoinedTies
import Derived.KernelRfl
namespace Go.Proofs.Ytkkpcdpoldjmkaa
/- THE CELL 'sum', in the pinned program and in every row, IS THE sha256 OF THE DUMP (.gsa) THAT YtkkpcdpoldjmkaaProg.lean LOADS. Nothing in Lean hashes anything: it is a label: what it is worth is what the hold of that sum in a sandbox is worth. -/
noncomputable def Try.pinned : Pinned := { name := "ytkkpcdpoldjmkaa", sum := "fc2330a886fa6bcbb334d553a684650e1a860832f527652ae124ce80e2aa78ef", checked := Try.checked }
namespace Rows
def none {H : Type} : Left H := { results := [], args := [] }

/-- 'boathouselaw0.BoathouseNames': WHATEVER THE INPUT: true; the input reads as it did. -/
def boathouseNamesSpec : ChangeSpec := { name := "boathouseNames", fn := fun _ => fun
  | [] => { results := [.lit (.bool true)], args := [] }
  | _ => none }
def boathouseNamesRow : OpenClaim := { program := "ytkkpcdpoldjmkaa", sum := "fc2330a886fa6bcbb334d553a684650e1a860832f527652ae124ce80e2aa78ef", func := "boathouse/boathouselaw0.BoathouseNames", spec := "boathouseNames", plainKeys := false, apart := false }
def BoathouseNamesSaid : Prop := boathouseNamesRow.holds Try.pinned (OpenSpec.ofChange boathouseNamesSpec)

/-- ITS FALSE NEIGHBOUR: 'it returns false'. Refute it at one input. -/
def boathouseNamesWrong : ChangeSpec := { name := "boathouseNames", fn := fun _ => fun
  | [] => { results := [.lit (.bool false)], args := [] }
  | _ => none }
def BoathouseNamesWrongFalsely : Prop := boathouseNamesRow.holds Try.pinned (OpenSpec.ofChange boathouseNamesWrong)

/-- 'boathouselaw4.Crcs': WHATEVER THE INPUT: true; the input reads as it did. -/
def crcsSpec : ChangeSpec := { name := "crcs", fn := fun _ => fun
  | [d] => { results := [.lit (.bool true)], args := [d] }
  | _ => none }
def crcsRow : OpenClaim := { program := "ytkkpcdpoldjmkaa", sum := "fc2330a886fa6bcbb334d553a684650e1a860832f527652ae124ce80e2aa78ef", func := "boathouse/boathouselaw4.Crcs", spec := "crcs", plainKeys := false, apart := false }
def CrcsSaid : Prop := crcsRow.holds Try.pinned (OpenSpec.ofChange crcsSpec)

/-- ITS FALSE NEIGHBOUR: 'it returns false'. Refute it at one input. -/
def crcsWrong : ChangeSpec := { name := "crcs", fn := fun _ => fun
  | [d] => { results := [.lit (.bool false)], args := [d] }
  | _ => none }
def CrcsWrongFalsely : Prop := crcsRow.holds Try.pinned (OpenSpec.ofChange crcsWrong)

/-- 'boathouselaw4.CrcOne': WHATEVER THE INPUT: true; the input reads as it did. -/
def crcOneSpec : ChangeSpec := { name := "crcOne", fn := fun _ => fun
  | [d1, d2, d3] => { results := [.lit (.bool true)], args := [d1, d2, d3] }
  | _ => none }
def crcOneRow : OpenClaim := { program := "ytkkpcdpoldjmkaa", sum := "fc2330a886fa6bcbb334d553a684650e1a860832f527652ae124ce80e2aa78ef", func := "boathouse/boathouselaw4.CrcOne", spec := "crcOne", plainKeys := false, apart := false }
def CrcOneSaid : Prop := crcOneRow.holds Try.pinned (OpenSpec.ofChange crcOneSpec)

/-- ITS FALSE NEIGHBOUR: 'it returns false'. Refute it at one input. -/
def crcOneWrong : ChangeSpec := { name := "crcOne", fn := fun _ => fun
  | [d1, d2, d3] => { results := [.lit (.bool false)], args := [d1, d2, d3] }
  | _ => none }
def CrcOneWrongFalsely : Prop := crcOneRow.holds Try.pinned (OpenSpec.ofChange crcOneWrong)

/-- 'boathouselaw4.CrcSteps': WHATEVER THE INPUT: true; the input reads as it did. -/
def crcStepsSpec : ChangeSpec := { name := "crcSteps", fn := fun _ => fun
  | [d1, d2] => { results := [.lit (.bool true)], args := [d1, d2] }
  | _ => none }
def crcStepsRow : OpenClaim := { program := "ytkkpcdpoldjmkaa", sum := "fc2330a886fa6bcbb334d553a684650e1a860832f527652ae124ce80e2aa78ef", func := "boathouse/boathouselaw4.CrcSteps", spec := "crcSteps", plainKeys := false, apart := false }
def CrcStepsSaid : Prop := crcStepsRow.holds Try.pinned (OpenSpec.ofChange crcStepsSpec)

/-- ITS FALSE NEIGHBOUR: 'it returns false'. Refute it at one input. -/
def crcStepsWrong : ChangeSpec := { name := "crcSteps", fn := fun _ => fun
  | [d1, d2] => { results := [.lit (.bool false)], args := [d1, d2] }
  | _ => none }
def CrcStepsWrongFalsely : Prop := crcStepsRow.holds Try.pinned (OpenSpec.ofChange crcStepsWrong)

/-- 'boathouselaw7.RunsAll': WHATEVER THE INPUT: true; the input reads as it did. -/
def runsAllSpec : ChangeSpec := { name := "runsAll", fn := fun _ => fun
  | [d1, d2, d3] => { results := [.lit (.bool true)], args := [d1, d2, d3] }
  | _ => none }
def runsAllRow : OpenClaim := { program := "ytkkpcdpoldjmkaa", sum := "fc2330a886fa6bcbb334d553a684650e1a860832f527652ae124ce80e2aa78ef", func := "boathouse/boathouselaw7.RunsAll", spec := "runsAll", plainKeys := false, apart := false }
def RunsAllSaid : Prop := runsAllRow.holds Try.pinned (OpenSpec.ofChange runsAllSpec)

/-- ITS FALSE NEIGHBOUR: 'it returns false'. Refute it at one input. -/
def runsAllWrong : ChangeSpec := { name := "runsAll", fn := fun _ => fun
  | [d1, d2, d3] => { results := [.lit (.bool false)], args := [d1, d2, d3] }
  | _ => none }
def RunsAllWrongFalsely : Prop := runsAllRow.holds Try.pinned (OpenSpec.ofChange runsAllWrong)

/-- 'boathouselaw7.RunsBack': WHATEVER THE INPUT: true; the input reads as it did. -/
def runsBackSpec : ChangeSpec := { name := "runsBack", fn := fun _ => fun
  | [d] => { results := [.lit (.bool true)], args := [d] }
  | _ => none }
def runsBackRow : OpenClaim := { program := "ytkkpcdpoldjmkaa", sum := "fc2330a886fa6bcbb334d553a684650e1a860832f527652ae124ce80e2aa78ef", func := "boathouse/boathouselaw7.RunsBack", spec := "runsBack", plainKeys := false, apart := false }
def RunsBackSaid : Prop := runsBackRow.holds Try.pinned (OpenSpec.ofChange runsBackSpec)

/-- ITS FALSE NEIGHBOUR: 'it returns false'. Refute it at one input. -/
def runsBackWrong : ChangeSpec := { name := "runsBack", fn := fun _ => fun
  | [d] => { results := [.lit (.bool false)], args := [d] }
  | _ => none }
def RunsBackWrongFalsely : Prop := runsBackRow.holds Try.pinned (OpenSpec.ofChange runsBackWrong)

/-- 'boathouselaw7.RunsMore': WHATEVER THE INPUT: true; the input reads as it did. -/
def runsMoreSpec : ChangeSpec := { name := "runsMore", fn := fun _ => fun
  | [d1, d2] => { results := [.lit (.bool true)], args := [d1, d2] }
  | _ => none }
def runsMoreRow : OpenClaim := { program := "ytkkpcdpoldjmkaa", sum := "fc2330a886fa6bcbb334d553a684650e1a860832f527652ae124ce80e2aa78ef", func := "boathouse/boathouselaw7.RunsMore", spec := "runsMore", plainKeys := false, apart := false }
def RunsMoreSaid : Prop := runsMoreRow.holds Try.pinned (OpenSpec.ofChange runsMoreSpec)

/-- ITS FALSE NEIGHBOUR: 'it returns false'. Refute it at one input. -/
def runsMoreWrong : ChangeSpec := { name := "runsMore", fn := fun _ => fun
  | [d1, d2] => { results := [.lit (.bool false)], args := [d1, d2] }
  | _ => none }
def RunsMoreWrongFalsely : Prop := runsMoreRow.holds Try.pinned (OpenSpec.ofChange runsMoreWrong)

/-- 'boathouselaw10.StatsAll': WHATEVER THE INPUT: true; the input reads as it did. -/
def statsAllSpec : ChangeSpec := { name := "statsAll", fn := fun _ => fun
  | [d1, d2, d3, d4] => { results := [.lit (.bool true)], args := [d1, d2, d3, d4] }
  | _ => none }
def statsAllRow : OpenClaim := { program := "ytkkpcdpoldjmkaa", sum := "fc2330a886fa6bcbb334d553a684650e1a860832f527652ae124ce80e2aa78ef", func := "boathouse/boathouselaw10.StatsAll", spec := "statsAll", unfollowed := true, recurses := true, plainKeys := false, apart := false }
def StatsAllSaid : Prop := statsAllRow.holds Try.pinned (OpenSpec.ofChange statsAllSpec)

/-- ITS FALSE NEIGHBOUR: 'it returns false'. Refute it at one input. -/
def statsAllWrong : ChangeSpec := { name := "statsAll", fn := fun _ => fun
  | [d1, d2, d3, d4] => { results := [.lit (.bool false)], args := [d1, d2, d3, d4] }
  | _ => none }
def StatsAllWrongFalsely : Prop := statsAllRow.holds Try.pinned (OpenSpec.ofChange statsAllWrong)

/-- 'boathouselaw10.StatsParts': WHATEVER THE INPUT: true; the input reads as it did. -/
def statsPartsSpec : ChangeSpec := { name := "statsParts", fn := fun _ => fun
  | [d1, d2, d3] => { results := [.lit (.bool true)], args := [d1, d2, d3] }
  | _ => none }
def statsPartsRow : OpenClaim := { program := "ytkkpcdpoldjmkaa", sum := "fc2330a886fa6bcbb334d553a684650e1a860832f527652ae124ce80e2aa78ef", func := "boathouse/boathouselaw10.StatsParts", spec := "statsParts", unfollowed := true, recurses := true, plainKeys := false, apart := false }
def StatsPartsSaid : Prop := statsPartsRow.holds Try.pinned (OpenSpec.ofChange statsPartsSpec)

/-- ITS FALSE NEIGHBOUR: 'it returns false'. Refute it at one input. -/
def statsPartsWrong : ChangeSpec := { name := "statsParts", fn := fun _ => fun
  | [d1, d2, d3] => { results := [.lit (.bool false)], args := [d1, d2, d3] }
  | _ => none }
def StatsPartsWrongFalsely : Prop := statsPartsRow.holds Try.pinned (OpenSpec.ofChange statsPartsWrong)

/-- 'boathouselaw11.FileBack': WHATEVER THE INPUT: true; the input reads as it did. -/
def fileBackSpec : ChangeSpec := { name := "fileBack", fn := fun _ => fun
  | [d1, d2, d3, d4] => { results := [.lit (.bool true)], args := [d1, d2, d3, d4] }
  | _ => none }
def fileBackRow : OpenClaim := { program := "ytkkpcdpoldjmkaa", sum := "fc2330a886fa6bcbb334d553a684650e1a860832f527652ae124ce80e2aa78ef", func := "boathouse/boathouselaw11.FileBack", spec := "fileBack", inPlace := ["internal/abi.NoEscape"], unfollowed := true, recurses := true, plainKeys := false, apart := false }
def FileBackSaid : Prop := fileBackRow.holds Try.pinned (OpenSpec.ofChange fileBackSpec)

/-- ITS FALSE NEIGHBOUR: 'it returns false'. Refute it at one input. -/
def fileBackWrong : ChangeSpec := { name := "fileBack", fn := fun _ => fun
  | [d1, d2, d3, d4] => { results := [.lit (.bool false)], args := [d1, d2, d3, d4] }
  | _ => none }
def FileBackWrongFalsely : Prop := fileBackRow.holds Try.pinned (OpenSpec.ofChange fileBackWrong)

/-- 'boathouselaw10.StatsNone': WHATEVER THE INPUT: true; the input reads as it did. -/
def statsNoneSpec : ChangeSpec := { name := "statsNone", fn := fun _ => fun
  | [d1, d2, d3] => { results := [.lit (.bool true)], args := [d1, d2, d3] }
  | _ => none }
def statsNoneRow : OpenClaim := { program := "ytkkpcdpoldjmkaa", sum := "fc2330a886fa6bcbb334d553a684650e1a860832f527652ae124ce80e2aa78ef", func := "boathouse/boathouselaw10.StatsNone", spec := "statsNone", unfollowed := true, recurses := true, plainKeys := false, apart := false }
def StatsNoneSaid : Prop := statsNoneRow.holds Try.pinned (OpenSpec.ofChange statsNoneSpec)

/-- ITS FALSE NEIGHBOUR: 'it returns false'. Refute it at one input. -/
def statsNoneWrong : ChangeSpec := { name := "statsNone", fn := fun _ => fun
  | [d1, d2, d3] => { results := [.lit (.bool false)], args := [d1, d2, d3] }
  | _ => none }
def StatsNoneWrongFalsely : Prop := statsNoneRow.holds Try.pinned (OpenSpec.ofChange statsNoneWrong)

/-- 'boathouselaw8.WordsAll': WHATEVER THE INPUT: true; the input reads as it did. -/
def wordsAllSpec : ChangeSpec := { name := "wordsAll", fn := fun _ => fun
  | [d1, d2, d3] => { results := [.lit (.bool true)], args := [d1, d2, d3] }
  | _ => none }
def wordsAllRow : OpenClaim := { program := "ytkkpcdpoldjmkaa", sum := "fc2330a886fa6bcbb334d553a684650e1a860832f527652ae124ce80e2aa78ef", func := "boathouse/boathouselaw8.WordsAll", spec := "wordsAll", plainKeys := false, apart := false }
def WordsAllSaid : Prop := wordsAllRow.holds Try.pinned (OpenSpec.ofChange wordsAllSpec)

/-- ITS FALSE NEIGHBOUR: 'it returns false'. Refute it at one input. -/
def wordsAllWrong : ChangeSpec := { name := "wordsAll", fn := fun _ => fun
  | [d1, d2, d3] => { results := [.lit (.bool false)], args := [d1, d2, d3] }
  | _ => none }
def WordsAllWrongFalsely : Prop := wordsAllRow.holds Try.pinned (OpenSpec.ofChange wordsAllWrong)

/-- 'boathouselaw8.WordsBack': WHATEVER THE INPUT: true; the input reads as it did. -/
def wordsBackSpec : ChangeSpec := { name := "wordsBack", fn := fun _ => fun
  | [d] => { results := [.lit (.bool true)], args := [d] }
  | _ => none }
def wordsBackRow : OpenClaim := { program := "ytkkpcdpoldjmkaa", sum := "fc2330a886fa6bcbb334d553a684650e1a860832f527652ae124ce80e2aa78ef", func := "boathouse/boathouselaw8.WordsBack", spec := "wordsBack", plainKeys := false, apart := false }
def WordsBackSaid : Prop := wordsBackRow.holds Try.pinned (OpenSpec.ofChange wordsBackSpec)

/-- ITS FALSE NEIGHBOUR: 'it returns false'. Refute it at one input. -/
def wordsBackWrong : ChangeSpec := { name := "wordsBack", fn := fun _ => fun
  | [d] => { results := [.lit (.bool false)], args := [d] }
  | _ => none }
def WordsBackWrongFalsely : Prop := wordsBackRow.holds Try.pinned (OpenSpec.ofChange wordsBackWrong)

/-- 'boathouselaw11.FileColumns': WHATEVER THE INPUT: true; the input reads as it did. -/
def fileColumnsSpec : ChangeSpec := { name := "fileColumns", fn := fun _ => fun
  | [d1, d2] => { results := [.lit (.bool true)], args := [d1, d2] }
  | _ => none }
def fileColumnsRow : OpenClaim := { program := "ytkkpcdpoldjmkaa", sum := "fc2330a886fa6bcbb334d553a684650e1a860832f527652ae124ce80e2aa78ef", func := "boathouse/boathouselaw11.FileColumns", spec := "fileColumns", inPlace := ["internal/abi.NoEscape"], unfollowed := true, recurses := true, plainKeys := false, apart := false }
def FileColumnsSaid : Prop := fileColumnsRow.holds Try.pinned (OpenSpec.ofChange fileColumnsSpec)

/-- ITS FALSE NEIGHBOUR: 'it returns false'. Refute it at one input. -/
def fileColumnsWrong : ChangeSpec := { name := "fileColumns", fn := fun _ => fun
  | [d1, d2] => { results := [.lit (.bool false)], args := [d1, d2] }
  | _ => none }
def FileColumnsWrongFalsely : Prop := fileColumnsRow.holds Try.pinned (OpenSpec.ofChange fileColumnsWrong)

/-- 'boathouselaw8.WordsMore': WHATEVER THE INPUT: true; the input reads as it did. -/
def wordsMoreSpec : ChangeSpec := { name := "wordsMore", fn := fun _ => fun
  | [d1, d2] => { results := [.lit (.bool true)], args := [d1, d2] }
  | _ => none }
def wordsMoreRow : OpenClaim := { program := "ytkkpcdpoldjmkaa", sum := "fc2330a886fa6bcbb334d553a684650e1a860832f527652ae124ce80e2aa78ef", func := "boathouse/boathouselaw8.WordsMore", spec := "wordsMore", plainKeys := false, apart := false }
def WordsMoreSaid : Prop := wordsMoreRow.holds Try.pinned (OpenSpec.ofChange wordsMoreSpec)

/-- ITS FALSE NEIGHBOUR: 'it returns false'. Refute it at one input. -/
def wordsMoreWrong : ChangeSpec := { name := "wordsMore", fn := fun _ => fun
  | [d1, d2] => { results := [.lit (.bool false)], args := [d1, d2] }
  | _ => none }
def WordsMoreWrongFalsely : Prop := wordsMoreRow.holds Try.pinned (OpenSpec.ofChange wordsMoreWrong)

/-- 'boathouselaw5.Varints': WHATEVER THE INPUT: true; the input reads as it did. -/
def varintsSpec : ChangeSpec := { name := "varints", fn := fun _ => fun
  | [d1, d2, d3] => { results := [.lit (.bool true)], args := [d1, d2, d3] }
  | _ => none }
def varintsRow : OpenClaim := { program := "ytkkpcdpoldjmkaa", sum := "fc2330a886fa6bcbb334d553a684650e1a860832f527652ae124ce80e2aa78ef", func := "boathouse/boathouselaw5.Varints", spec := "varints", plainKeys := false, apart := false }
def VarintsSaid : Prop := varintsRow.holds Try.pinned (OpenSpec.ofChange varintsSpec)

/-- ITS FALSE NEIGHBOUR: 'it returns false'. Refute it at one input. -/
def varintsWrong : ChangeSpec := { name := "varints", fn := fun _ => fun
  | [d1, d2, d3] => { results := [.lit (.bool false)], args := [d1, d2, d3] }
  | _ => none }
def VarintsWrongFalsely : Prop := varintsRow.holds Try.pinned (OpenSpec.ofChange varintsWrong)

/-- 'boathouselaw5.VarintBack': WHATEVER THE INPUT: true; the input reads as it did. -/
def varintBackSpec : ChangeSpec := { name := "varintBack", fn := fun _ => fun
  | [d1, d2] => { results := [.lit (.bool true)], args := [d1, d2] }
  | _ => none }
def varintBackRow : OpenClaim := { program := "ytkkpcdpoldjmkaa", sum := "fc2330a886fa6bcbb334d553a684650e1a860832f527652ae124ce80e2aa78ef", func := "boathouse/boathouselaw5.VarintBack", spec := "varintBack", plainKeys := false, apart := false }
def VarintBackSaid : Prop := varintBackRow.holds Try.pinned (OpenSpec.ofChange varintBackSpec)

/-- ITS FALSE NEIGHBOUR: 'it returns false'. Refute it at one input. -/
def varintBackWrong : ChangeSpec := { name := "varintBack", fn := fun _ => fun
  | [d1, d2] => { results := [.lit (.bool false)], args := [d1, d2] }
  | _ => none }
def VarintBackWrongFalsely : Prop := varintBackRow.holds Try.pinned (OpenSpec.ofChange varintBackWrong)

/-- 'boathouselaw5.VarintSizes': WHATEVER THE INPUT: true; the input reads as it did. -/
def varintSizesSpec : ChangeSpec := { name := "varintSizes", fn := fun _ => fun
  | [d1, d2] => { results := [.lit (.bool true)], args := [d1, d2] }
  | _ => none }
def varintSizesRow : OpenClaim := { program := "ytkkpcdpoldjmkaa", sum := "fc2330a886fa6bcbb334d553a684650e1a860832f527652ae124ce80e2aa78ef", func := "boathouse/boathouselaw5.VarintSizes", spec := "varintSizes", plainKeys := false, apart := false }
def VarintSizesSaid : Prop := varintSizesRow.holds Try.pinned (OpenSpec.ofChange varintSizesSpec)

/-- ITS FALSE NEIGHBOUR: 'it returns false'. Refute it at one input. -/
def varintSizesWrong : ChangeSpec := { name := "varintSizes", fn := fun _ => fun
  | [d1, d2] => { results := [.lit (.bool false)], args := [d1, d2] }
  | _ => none }
def VarintSizesWrongFalsely : Prop := varintSizesRow.holds Try.pinned (OpenSpec.ofChange varintSizesWrong)

/-- 'boathouselaw5.VarintRow': WHATEVER THE INPUT: true; the input reads as it did. -/
def varintRowSpec : ChangeSpec := { name := "varintRow", fn := fun _ => fun
  | [d] => { results := [.lit (.bool true)], args := [d] }
  | _ => none }
def varintRowRow : OpenClaim := { program := "ytkkpcdpoldjmkaa", sum := "fc2330a886fa6bcbb334d553a684650e1a860832f527652ae124ce80e2aa78ef", func := "boathouse/boathouselaw5.VarintRow", spec := "varintRow", plainKeys := false, apart := false }
def VarintRowSaid : Prop := varintRowRow.holds Try.pinned (OpenSpec.ofChange varintRowSpec)

/-- ITS FALSE NEIGHBOUR: 'it returns false'. Refute it at one input. -/
def varintRowWrong : ChangeSpec := { name := "varintRow", fn := fun _ => fun
  | [d] => { results := [.lit (.bool false)], args := [d] }
  | _ => none }
def VarintRowWrongFalsely : Prop := varintRowRow.holds Try.pinned (OpenSpec.ofChange varintRowWrong)

/-- 'boathouselaw2.Utfs': WHATEVER THE INPUT: true; the input reads as it did. -/
def utfsSpec : ChangeSpec := { name := "utfs", fn := fun _ => fun
  | [d1, d2, d3] => { results := [.lit (.bool true)], args := [d1, d2, d3] }
  | _ => none }
def utfsRow : OpenClaim := { program := "ytkkpcdpoldjmkaa", sum := "fc2330a886fa6bcbb334d553a684650e1a860832f527652ae124ce80e2aa78ef", func := "boathouse/boathouselaw2.Utfs", spec := "utfs", plainKeys := false, apart := false }
def UtfsSaid : Prop := utfsRow.holds Try.pinned (OpenSpec.ofChange utfsSpec)

/-- ITS FALSE NEIGHBOUR: 'it returns false'. Refute it at one input. -/
def utfsWrong : ChangeSpec := { name := "utfs", fn := fun _ => fun
  | [d1, d2, d3] => { results := [.lit (.bool false)], args := [d1, d2, d3] }
  | _ => none }
def UtfsWrongFalsely : Prop := utfsRow.holds Try.pinned (OpenSpec.ofChange utfsWrong)

/-- 'boathouselaw2.UtfBack': WHATEVER THE INPUT: true; the input reads as it did. -/
def utfBackSpec : ChangeSpec := { name := "utfBack", fn := fun _ => fun
  | [d1, d2] => { results := [.lit (.bool true)], args := [d1, d2] }
  | _ => none }
def utfBackRow : OpenClaim := { program := "ytkkpcdpoldjmkaa", sum := "fc2330a886fa6bcbb334d553a684650e1a860832f527652ae124ce80e2aa78ef", func := "boathouse/boathouselaw2.UtfBack", spec := "utfBack", plainKeys := false, apart := false }
def UtfBackSaid : Prop := utfBackRow.holds Try.pinned (OpenSpec.ofChange utfBackSpec)

/-- ITS FALSE NEIGHBOUR: 'it returns false'. Refute it at one input. -/
def utfBackWrong : ChangeSpec := { name := "utfBack", fn := fun _ => fun
  | [d1, d2] => { results := [.lit (.bool false)], args := [d1, d2] }
  | _ => none }
def UtfBackWrongFalsely : Prop := utfBackRow.holds Try.pinned (OpenSpec.ofChange utfBackWrong)

/-- 'boathouselaw2.UtfForms': WHATEVER THE INPUT: true; the input reads as it did. -/
def utfFormsSpec : ChangeSpec := { name := "utfForms", fn := fun _ => fun
  | [d1, d2] => { results := [.lit (.bool true)], args := [d1, d2] }
  | _ => none }
def utfFormsRow : OpenClaim := { program := "ytkkpcdpoldjmkaa", sum := "fc2330a886fa6bcbb334d553a684650e1a860832f527652ae124ce80e2aa78ef", func := "boathouse/boathouselaw2.UtfForms", spec := "utfForms", plainKeys := false, apart := false }
def UtfFormsSaid : Prop := utfFormsRow.holds Try.pinned (OpenSpec.ofChange utfFormsSpec)

/-- ITS FALSE NEIGHBOUR: 'it returns false'. Refute it at one input. -/
def utfFormsWrong : ChangeSpec := { name := "utfForms", fn := fun _ => fun
  | [d1, d2] => { results := [.lit (.bool false)], args := [d1, d2] }
  | _ => none }
def UtfFormsWrongFalsely : Prop := utfFormsRow.holds Try.pinned (OpenSpec.ofChange utfFormsWrong)

/-- 'boathouselaw2.UtfCut': WHATEVER THE INPUT: true; the input reads as it did. -/
def utfCutSpec : ChangeSpec := { name := "utfCut", fn := fun _ => fun
  | [d1, d2, d3] => { results := [.lit (.bool true)], args := [d1, d2, d3] }
  | _ => none }
def utfCutRow : OpenClaim := { program := "ytkkpcdpoldjmkaa", sum := "fc2330a886fa6bcbb334d553a684650e1a860832f527652ae124ce80e2aa78ef", func := "boathouse/boathouselaw2.UtfCut", spec := "utfCut", plainKeys := false, apart := false }
def UtfCutSaid : Prop := utfCutRow.holds Try.pinned (OpenSpec.ofChange utfCutSpec)

/-- ITS FALSE NEIGHBOUR: 'it returns false'. Refute it at one input. -/
def utfCutWrong : ChangeSpec := { name := "utfCut", fn := fun _ => fun
  | [d1, d2, d3] => { results := [.lit (.bool false)], args := [d1, d2, d3] }
  | _ => none }
def UtfCutWrongFalsely : Prop := utfCutRow.holds Try.pinned (OpenSpec.ofChange utfCutWrong)

/-- 'boathouselaw6.Bitpacks': WHATEVER THE INPUT: true; the input reads as it did. -/
def bitpacksSpec : ChangeSpec := { name := "bitpacks", fn := fun _ => fun
  | [d1, d2, d3, d4] => { results := [.lit (.bool true)], args := [d1, d2, d3, d4] }
  | _ => none }
def bitpacksRow : OpenClaim := { program := "ytkkpcdpoldjmkaa", sum := "fc2330a886fa6bcbb334d553a684650e1a860832f527652ae124ce80e2aa78ef", func := "boathouse/boathouselaw6.Bitpacks", spec := "bitpacks", plainKeys := false, apart := false }
def BitpacksSaid : Prop := bitpacksRow.holds Try.pinned (OpenSpec.ofChange bitpacksSpec)

/-- ITS FALSE NEIGHBOUR: 'it returns false'. Refute it at one input. -/
def bitpacksWrong : ChangeSpec := { name := "bitpacks", fn := fun _ => fun
  | [d1, d2, d3, d4] => { results := [.lit (.bool false)], args := [d1, d2, d3, d4] }
  | _ => none }
def BitpacksWrongFalsely : Prop := bitpacksRow.holds Try.pinned (OpenSpec.ofChange bitpacksWrong)

/-- 'boathouselaw6.BitpackBack': WHATEVER THE INPUT: true; the input reads as it did. -/
def bitpackBackSpec : ChangeSpec := { name := "bitpackBack", fn := fun _ => fun
  | [d1, d2] => { results := [.lit (.bool true)], args := [d1, d2] }
  | _ => none }
def bitpackBackRow : OpenClaim := { program := "ytkkpcdpoldjmkaa", sum := "fc2330a886fa6bcbb334d553a684650e1a860832f527652ae124ce80e2aa78ef", func := "boathouse/boathouselaw6.BitpackBack", spec := "bitpackBack", plainKeys := false, apart := false }
def BitpackBackSaid : Prop := bitpackBackRow.holds Try.pinned (OpenSpec.ofChange bitpackBackSpec)

/-- ITS FALSE NEIGHBOUR: 'it returns false'. Refute it at one input. -/
def bitpackBackWrong : ChangeSpec := { name := "bitpackBack", fn := fun _ => fun
  | [d1, d2] => { results := [.lit (.bool false)], args := [d1, d2] }
  | _ => none }
def BitpackBackWrongFalsely : Prop := bitpackBackRow.holds Try.pinned (OpenSpec.ofChange bitpackBackWrong)

/-- 'boathouselaw6.BitpackBits': WHATEVER THE INPUT: true; the input reads as it did. -/
def bitpackBitsSpec : ChangeSpec := { name := "bitpackBits", fn := fun _ => fun
  | [d1, d2, d3] => { results := [.lit (.bool true)], args := [d1, d2, d3] }
  | _ => none }
def bitpackBitsRow : OpenClaim := { program := "ytkkpcdpoldjmkaa", sum := "fc2330a886fa6bcbb334d553a684650e1a860832f527652ae124ce80e2aa78ef", func := "boathouse/boathouselaw6.BitpackBits", spec := "bitpackBits", plainKeys := false, apart := false }
def BitpackBitsSaid : Prop := bitpackBitsRow.holds Try.pinned (OpenSpec.ofChange bitpackBitsSpec)

/-- ITS FALSE NEIGHBOUR: 'it returns false'. Refute it at one input. -/
def bitpackBitsWrong : ChangeSpec := { name := "bitpackBits", fn := fun _ => fun
  | [d1, d2, d3] => { results := [.lit (.bool false)], args := [d1, d2, d3] }
  | _ => none }
def BitpackBitsWrongFalsely : Prop := bitpackBitsRow.holds Try.pinned (OpenSpec.ofChange bitpackBitsWrong)

/-- 'boathouselaw17.Aggs': WHATEVER THE INPUT: true; the input reads as it did. -/
def aggsSpec : ChangeSpec := { name := "aggs", fn := fun _ => fun
  | [d1, d2] => { results := [.lit (.bool true)], args := [d1, d2] }
  | _ => none }
def aggsRow : OpenClaim := { program := "ytkkpcdpoldjmkaa", sum := "fc2330a886fa6bcbb334d553a684650e1a860832f527652ae124ce80e2aa78ef", func := "boathouse/boathouselaw17.Aggs", spec := "aggs", inPlace := ["math/bits.Add64"], unfollowed := true, recurses := true, plainKeys := false, apart := false }
def AggsSaid : Prop := aggsRow.holds Try.pinned (OpenSpec.ofChange aggsSpec)

/-- ITS FALSE NEIGHBOUR: 'it returns false'. Refute it at one input. -/
def aggsWrong : ChangeSpec := { name := "aggs", fn := fun _ => fun
  | [d1, d2] => { results := [.lit (.bool false)], args := [d1, d2] }
  | _ => none }
def AggsWrongFalsely : Prop := aggsRow.holds Try.pinned (OpenSpec.ofChange aggsWrong)

/-- 'boathouselaw17.AggRows': WHATEVER THE INPUT: true; the input reads as it did. -/
def aggRowsSpec : ChangeSpec := { name := "aggRows", fn := fun _ => fun
  | [d1, d2, d3] => { results := [.lit (.bool true)], args := [d1, d2, d3] }
  | _ => none }
def aggRowsRow : OpenClaim := { program := "ytkkpcdpoldjmkaa", sum := "fc2330a886fa6bcbb334d553a684650e1a860832f527652ae124ce80e2aa78ef", func := "boathouse/boathouselaw17.AggRows", spec := "aggRows", inPlace := ["math/bits.Add64"], unfollowed := true, recurses := true, plainKeys := false, apart := false }
def AggRowsSaid : Prop := aggRowsRow.holds Try.pinned (OpenSpec.ofChange aggRowsSpec)

/-- ITS FALSE NEIGHBOUR: 'it returns false'. Refute it at one input. -/
def aggRowsWrong : ChangeSpec := { name := "aggRows", fn := fun _ => fun
  | [d1, d2, d3] => { results := [.lit (.bool false)], args := [d1, d2, d3] }
  | _ => none }
def AggRowsWrongFalsely : Prop := aggRowsRow.holds Try.pinned (OpenSpec.ofChange aggRowsWrong)

/-- 'boathouselaw17.AggEdges': WHATEVER THE INPUT: true; the input reads as it did. -/
def aggEdgesSpec : ChangeSpec := { name := "aggEdges", fn := fun _ => fun
  | [d1, d2, d3] => { results := [.lit (.bool true)], args := [d1, d2, d3] }
  | _ => none }
def aggEdgesRow : OpenClaim := { program := "ytkkpcdpoldjmkaa", sum := "fc2330a886fa6bcbb334d553a684650e1a860832f527652ae124ce80e2aa78ef", func := "boathouse/boathouselaw17.AggEdges", spec := "aggEdges", inPlace := ["math/bits.Add64"], unfollowed := true, recurses := true, plainKeys := false, apart := false }
def AggEdgesSaid : Prop := aggEdgesRow.holds Try.pinned (OpenSpec.ofChange aggEdgesSpec)

/-- ITS FALSE NEIGHBOUR: 'it returns false'. Refute it at one input. -/
def aggEdgesWrong : ChangeSpec := { name := "aggEdges", fn := fun _ => fun
  | [d1, d2, d3] => { results := [.lit (.bool false)], args := [d1, d2, d3] }
  | _ => none }
def AggEdgesWrongFalsely : Prop := aggEdgesRow.holds Try.pinned (OpenSpec.ofChange aggEdgesWrong)

/-- 'boathouselaw9.VecPuts': WHATEVER THE INPUT: true; the input reads as it did. -/
def vecPutsSpec : ChangeSpec := { name := "vecPuts", fn := fun _ => fun
  | [d1, d2, d3, d4] => { results := [.lit (.bool true)], args := [d1, d2, d3, d4] }
  | _ => none }
def vecPutsRow : OpenClaim := { program := "ytkkpcdpoldjmkaa", sum := "fc2330a886fa6bcbb334d553a684650e1a860832f527652ae124ce80e2aa78ef", func := "boathouse/boathouselaw9.VecPuts", spec := "vecPuts", inPlace := ["internal/abi.NoEscape"], plainKeys := false, apart := false }
def VecPutsSaid : Prop := vecPutsRow.holds Try.pinned (OpenSpec.ofChange vecPutsSpec)

/-- ITS FALSE NEIGHBOUR: 'it returns false'. Refute it at one input. -/
def vecPutsWrong : ChangeSpec := { name := "vecPuts", fn := fun _ => fun
  | [d1, d2, d3, d4] => { results := [.lit (.bool false)], args := [d1, d2, d3, d4] }
  | _ => none }
def VecPutsWrongFalsely : Prop := vecPutsRow.holds Try.pinned (OpenSpec.ofChange vecPutsWrong)

/-- 'boathouselaw9.VecGets': WHATEVER THE INPUT: true; the input reads as it did. -/
def vecGetsSpec : ChangeSpec := { name := "vecGets", fn := fun _ => fun
  | [d1, d2, d3] => { results := [.lit (.bool true)], args := [d1, d2, d3] }
  | _ => none }
def vecGetsRow : OpenClaim := { program := "ytkkpcdpoldjmkaa", sum := "fc2330a886fa6bcbb334d553a684650e1a860832f527652ae124ce80e2aa78ef", func := "boathouse/boathouselaw9.VecGets", spec := "vecGets", inPlace := ["internal/abi.NoEscape"], plainKeys := false, apart := false }
def VecGetsSaid : Prop := vecGetsRow.holds Try.pinned (OpenSpec.ofChange vecGetsSpec)

/-- ITS FALSE NEIGHBOUR: 'it returns false'. Refute it at one input. -/
def vecGetsWrong : ChangeSpec := { name := "vecGets", fn := fun _ => fun
  | [d1, d2, d3] => { results := [.lit (.bool false)], args := [d1, d2, d3] }
  | _ => none }
def VecGetsWrongFalsely : Prop := vecGetsRow.holds Try.pinned (OpenSpec.ofChange vecGetsWrong)

/-- 'boathouselaw9.VecBack': WHATEVER THE INPUT: true; the input reads as it did. -/
def vecBackSpec : ChangeSpec := { name := "vecBack", fn := fun _ => fun
  | [d1, d2, d3] => { results := [.lit (.bool true)], args := [d1, d2, d3] }
  | _ => none }
def vecBackRow : OpenClaim := { program := "ytkkpcdpoldjmkaa", sum := "fc2330a886fa6bcbb334d553a684650e1a860832f527652ae124ce80e2aa78ef", func := "boathouse/boathouselaw9.VecBack", spec := "vecBack", inPlace := ["internal/abi.NoEscape"], plainKeys := false, apart := false }
def VecBackSaid : Prop := vecBackRow.holds Try.pinned (OpenSpec.ofChange vecBackSpec)

/-- ITS FALSE NEIGHBOUR: 'it returns false'. Refute it at one input. -/
def vecBackWrong : ChangeSpec := { name := "vecBack", fn := fun _ => fun
  | [d1, d2, d3] => { results := [.lit (.bool false)], args := [d1, d2, d3] }
  | _ => none }
def VecBackWrongFalsely : Prop := vecBackRow.holds Try.pinned (OpenSpec.ofChange vecBackWrong)

/-- 'boathouselaw9.VecOrder': WHATEVER THE INPUT: true; the input reads as it did. -/
def vecOrderSpec : ChangeSpec := { name := "vecOrder", fn := fun _ => fun
  | [d1, d2, d3] => { results := [.lit (.bool true)], args := [d1, d2, d3] }
  | _ => none }
def vecOrderRow : OpenClaim := { program := "ytkkpcdpoldjmkaa", sum := "fc2330a886fa6bcbb334d553a684650e1a860832f527652ae124ce80e2aa78ef", func := "boathouse/boathouselaw9.VecOrder", spec := "vecOrder", inPlace := ["internal/abi.NoEscape"], plainKeys := false, apart := false }
def VecOrderSaid : Prop := vecOrderRow.holds Try.pinned (OpenSpec.ofChange vecOrderSpec)

/-- ITS FALSE NEIGHBOUR: 'it returns false'. Refute it at one input. -/
def vecOrderWrong : ChangeSpec := { name := "vecOrder", fn := fun _ => fun
  | [d1, d2, d3] => { results := [.lit (.bool false)], args := [d1, d2, d3] }
  | _ => none }
def VecOrderWrongFalsely : Prop := vecOrderRow.holds Try.pinned (OpenSpec.ofChange vecOrderWrong)

/-- 'boathouselaw9.VecShort': WHATEVER THE INPUT: true; the input reads as it did. -/
def vecShortSpec : ChangeSpec := { name := "vecShort", fn := fun _ => fun
  | [d1, d2, d3] => { results := [.lit (.bool true)], args := [d1, d2, d3] }
  | _ => none }
def vecShortRow : OpenClaim := { program := "ytkkpcdpoldjmkaa", sum := "fc2330a886fa6bcbb334d553a684650e1a860832f527652ae124ce80e2aa78ef", func := "boathouse/boathouselaw9.VecShort", spec := "vecShort", inPlace := ["internal/abi.NoEscape"], plainKeys := false, apart := false }
def VecShortSaid : Prop := vecShortRow.holds Try.pinned (OpenSpec.ofChange vecShortSpec)

/-- ITS FALSE NEIGHBOUR: 'it returns false'. Refute it at one input. -/
def vecShortWrong : ChangeSpec := { name := "vecShort", fn := fun _ => fun
  | [d1, d2, d3] => { results := [.lit (.bool false)], args := [d1, d2, d3] }
  | _ => none }
def VecShortWrongFalsely : Prop := vecShortRow.holds Try.pinned (OpenSpec.ofChange vecShortWrong)

/-- 'boathouselaw9.VecLimits': WHATEVER THE INPUT: true; the input reads as it did. -/
def vecLimitsSpec : ChangeSpec := { name := "vecLimits", fn := fun _ => fun
  | [d1, d2, d3] => { results := [.lit (.bool true)], args := [d1, d2, d3] }
  | _ => none }
def vecLimitsRow : OpenClaim := { program := "ytkkpcdpoldjmkaa", sum := "fc2330a886fa6bcbb334d553a684650e1a860832f527652ae124ce80e2aa78ef", func := "boathouse/boathouselaw9.VecLimits", spec := "vecLimits", inPlace := ["internal/abi.NoEscape"], plainKeys := false, apart := false }
def VecLimitsSaid : Prop := vecLimitsRow.holds Try.pinned (OpenSpec.ofChange vecLimitsSpec)

/-- ITS FALSE NEIGHBOUR: 'it returns false'. Refute it at one input. -/
def vecLimitsWrong : ChangeSpec := { name := "vecLimits", fn := fun _ => fun
  | [d1, d2, d3] => { results := [.lit (.bool false)], args := [d1, d2, d3] }
  | _ => none }
def VecLimitsWrongFalsely : Prop := vecLimitsRow.holds Try.pinned (OpenSpec.ofChange vecLimitsWrong)

/- THE SECOND FORM. 'bulk': how many values and letters a reading holds, each counted each time it is reached (what is shared counts as often as it is met; a slice's spare places count too). A statement '..UptoSaid' is the law's where the arguments, and the package variables that the reading takes, are together of bulk at most 1048576: NARROWER than '..Said'. Prove '..Said' where nothing that the law and all that it calls make is longer than what came in: it says more and counts as full. Else prove '..UptoSaid'. A law counts once. -/
mutual
def uptoBulk {H : Type} : DataW H → Nat
  | .lit (.string bytes) => bytes.length + 1
  | .lit _ => 1
  | .nil => 1
  | .ptr d => uptoBulk d + 1
  | .slice elems spare => uptoBulkAll elems + uptoBulkAll spare + 1
  | .agg parts => uptoBulkAll parts + 1
  | .iface _ d => uptoBulk d + 1
  | .map entries => uptoBulkEntries entries + 1
  | .held _ => 1
def uptoBulkAll {H : Type} : List (DataW H) → Nat
  | [] => 0
  | d :: r => uptoBulk d + uptoBulkAll r
def uptoBulkEntries {H : Type} : List (Lit × DataW H) → Nat
  | [] => 0
  | x :: r => uptoBulkEntry x + uptoBulkEntries r
def uptoBulkEntry {H : Type} : Lit × DataW H → Nat
  | (.string bytes, d) => bytes.length + uptoBulk d + 1
  | (_, d) => uptoBulk d + 1
 end
def uptoSmall : (H : Type) → List (DataW H) → Bool := fun _ ds => decide (uptoBulkAll ds ≤ 1048576)
def OpenSpec.upto (s : _root_.Go.ChangeSpec) : _root_.Go.OpenSpec := { _root_.Go.OpenSpec.ofChange s with cond := some uptoSmall }

/-- 'boathouselaw0.BoathouseNames', WHERE WHAT IT READS IS OF BULK AT MOST 1048576: true; the input reads as it did. -/
def boathouseNamesUptoRow : OpenClaim := { program := "ytkkpcdpoldjmkaa", sum := "fc2330a886fa6bcbb334d553a684650e1a860832f527652ae124ce80e2aa78ef", func := "boathouse/boathouselaw0.BoathouseNames", spec := "boathouseNames", plainKeys := false, apart := false, narrowed := true }
def BoathouseNamesUptoSaid : Prop := boathouseNamesUptoRow.holds Try.pinned (OpenSpec.upto boathouseNamesSpec)

/-- 'boathouselaw4.Crcs', WHERE WHAT IT READS IS OF BULK AT MOST 1048576: true; the input reads as it did. -/
def crcsUptoRow : OpenClaim := { program := "ytkkpcdpoldjmkaa", sum := "fc2330a886fa6bcbb334d553a684650e1a860832f527652ae124ce80e2aa78ef", func := "boathouse/boathouselaw4.Crcs", spec := "crcs", plainKeys := false, apart := false, narrowed := true }
def CrcsUptoSaid : Prop := crcsUptoRow.holds Try.pinned (OpenSpec.upto crcsSpec)

/-- 'boathouselaw4.CrcOne', WHERE WHAT IT READS IS OF BULK AT MOST 1048576: true; the input reads as it did. -/
def crcOneUptoRow : OpenClaim := { program := "ytkkpcdpoldjmkaa", sum := "fc2330a886fa6bcbb334d553a684650e1a860832f527652ae124ce80e2aa78ef", func := "boathouse/boathouselaw4.CrcOne", spec := "crcOne", plainKeys := false, apart := false, narrowed := true }
def CrcOneUptoSaid : Prop := crcOneUptoRow.holds Try.pinned (OpenSpec.upto crcOneSpec)

/-- 'boathouselaw4.CrcSteps', WHERE WHAT IT READS IS OF BULK AT MOST 1048576: true; the input reads as it did. -/
def crcStepsUptoRow : OpenClaim := { program := "ytkkpcdpoldjmkaa", sum := "fc2330a886fa6bcbb334d553a684650e1a860832f527652ae124ce80e2aa78ef", func := "boathouse/boathouselaw4.CrcSteps", spec := "crcSteps", plainKeys := false, apart := false, narrowed := true }
def CrcStepsUptoSaid : Prop := crcStepsUptoRow.holds Try.pinned (OpenSpec.upto crcStepsSpec)

/-- 'boathouselaw7.RunsAll', WHERE WHAT IT READS IS OF BULK AT MOST 1048576: true; the input reads as it did. -/
def runsAllUptoRow : OpenClaim := { program := "ytkkpcdpoldjmkaa", sum := "fc2330a886fa6bcbb334d553a684650e1a860832f527652ae124ce80e2aa78ef", func := "boathouse/boathouselaw7.RunsAll", spec := "runsAll", plainKeys := false, apart := false, narrowed := true }
def RunsAllUptoSaid : Prop := runsAllUptoRow.holds Try.pinned (OpenSpec.upto runsAllSpec)

/-- 'boathouselaw7.RunsBack', WHERE WHAT IT READS IS OF BULK AT MOST 1048576: true; the input reads as it did. -/
def runsBackUptoRow : OpenClaim := { program := "ytkkpcdpoldjmkaa", sum := "fc2330a886fa6bcbb334d553a684650e1a860832f527652ae124ce80e2aa78ef", func := "boathouse/boathouselaw7.RunsBack", spec := "runsBack", plainKeys := false, apart := false, narrowed := true }
def RunsBackUptoSaid : Prop := runsBackUptoRow.holds Try.pinned (OpenSpec.upto runsBackSpec)

/-- 'boathouselaw7.RunsMore', WHERE WHAT IT READS IS OF BULK AT MOST 1048576: true; the input reads as it did. -/
def runsMoreUptoRow : OpenClaim := { program := "ytkkpcdpoldjmkaa", sum := "fc2330a886fa6bcbb334d553a684650e1a860832f527652ae124ce80e2aa78ef", func := "boathouse/boathouselaw7.RunsMore", spec := "runsMore", plainKeys := false, apart := false, narrowed := true }
def RunsMoreUptoSaid : Prop := runsMoreUptoRow.holds Try.pinned (OpenSpec.upto runsMoreSpec)

/-- 'boathouselaw10.StatsAll', WHERE WHAT IT READS IS OF BULK AT MOST 1048576: true; the input reads as it did. -/
def statsAllUptoRow : OpenClaim := { program := "ytkkpcdpoldjmkaa", sum := "fc2330a886fa6bcbb334d553a684650e1a860832f527652ae124ce80e2aa78ef", func := "boathouse/boathouselaw10.StatsAll", spec := "statsAll", unfollowed := true, recurses := true, plainKeys := false, apart := false, narrowed := true }
def StatsAllUptoSaid : Prop := statsAllUptoRow.holds Try.pinned (OpenSpec.upto statsAllSpec)

/-- 'boathouselaw10.StatsParts', WHERE WHAT IT READS IS OF BULK AT MOST 1048576: true; the input reads as it did. -/
def statsPartsUptoRow : OpenClaim := { program := "ytkkpcdpoldjmkaa", sum := "fc2330a886fa6bcbb334d553a684650e1a860832f527652ae124ce80e2aa78ef", func := "boathouse/boathouselaw10.StatsParts", spec := "statsParts", unfollowed := true, recurses := true, plainKeys := false, apart := false, narrowed := true }
def StatsPartsUptoSaid : Prop := statsPartsUptoRow.holds Try.pinned (OpenSpec.upto statsPartsSpec)

/-- 'boathouselaw11.FileBack', WHERE WHAT IT READS IS OF BULK AT MOST 1048576: true; the input reads as it did. -/
def fileBackUptoRow : OpenClaim := { program := "ytkkpcdpoldjmkaa", sum := "fc2330a886fa6bcbb334d553a684650e1a860832f527652ae124ce80e2aa78ef", func := "boathouse/boathouselaw11.FileBack", spec := "fileBack", inPlace := ["internal/abi.NoEscape"], unfollowed := true, recurses := true, plainKeys := false, apart := false, narrowed := true }
def FileBackUptoSaid : Prop := fileBackUptoRow.holds Try.pinned (OpenSpec.upto fileBackSpec)

/-- 'boathouselaw10.StatsNone', WHERE WHAT IT READS IS OF BULK AT MOST 1048576: true; the input reads as it did. -/
def statsNoneUptoRow : OpenClaim := { program := "ytkkpcdpoldjmkaa", sum := "fc2330a886fa6bcbb334d553a684650e1a860832f527652ae124ce80e2aa78ef", func := "boathouse/boathouselaw10.StatsNone", spec := "statsNone", unfollowed := true, recurses := true, plainKeys := false, apart := false, narrowed := true }
def StatsNoneUptoSaid : Prop := statsNoneUptoRow.holds Try.pinned (OpenSpec.upto statsNoneSpec)

/-- 'boathouselaw8.WordsAll', WHERE WHAT IT READS IS OF BULK AT MOST 1048576: true; the input reads as it did. -/
def wordsAllUptoRow : OpenClaim := { program := "ytkkpcdpoldjmkaa", sum := "fc2330a886fa6bcbb334d553a684650e1a860832f527652ae124ce80e2aa78ef", func := "boathouse/boathouselaw8.WordsAll", spec := "wordsAll", plainKeys := false, apart := false, narrowed := true }
def WordsAllUptoSaid : Prop := wordsAllUptoRow.holds Try.pinned (OpenSpec.upto wordsAllSpec)

/-- 'boathouselaw8.WordsBack', WHERE WHAT IT READS IS OF BULK AT MOST 1048576: true; the input reads as it did. -/
def wordsBackUptoRow : OpenClaim := { program := "ytkkpcdpoldjmkaa", sum := "fc2330a886fa6bcbb334d553a684650e1a860832f527652ae124ce80e2aa78ef", func := "boathouse/boathouselaw8.WordsBack", spec := "wordsBack", plainKeys := false, apart := false, narrowed := true }
def WordsBackUptoSaid : Prop := wordsBackUptoRow.holds Try.pinned (OpenSpec.upto wordsBackSpec)

/-- 'boathouselaw11.FileColumns', WHERE WHAT IT READS IS OF BULK AT MOST 1048576: true; the input reads as it did. -/
def fileColumnsUptoRow : OpenClaim := { program := "ytkkpcdpoldjmkaa", sum := "fc2330a886fa6bcbb334d553a684650e1a860832f527652ae124ce80e2aa78ef", func := "boathouse/boathouselaw11.FileColumns", spec := "fileColumns", inPlace := ["internal/abi.NoEscape"], unfollowed := true, recurses := true, plainKeys := false, apart := false, narrowed := true }
def FileColumnsUptoSaid : Prop := fileColumnsUptoRow.holds Try.pinned (OpenSpec.upto fileColumnsSpec)

/-- 'boathouselaw8.WordsMore', WHERE WHAT IT READS IS OF BULK AT MOST 1048576: true; the input reads as it did. -/
def wordsMoreUptoRow : OpenClaim := { program := "ytkkpcdpoldjmkaa", sum := "fc2330a886fa6bcbb334d553a684650e1a860832f527652ae124ce80e2aa78ef", func := "boathouse/boathouselaw8.WordsMore", spec := "wordsMore", plainKeys := false, apart := false, narrowed := true }
def WordsMoreUptoSaid : Prop := wordsMoreUptoRow.holds Try.pinned (OpenSpec.upto wordsMoreSpec)

/-- 'boathouselaw5.Varints', WHERE WHAT IT READS IS OF BULK AT MOST 1048576: true; the input reads as it did. -/
def varintsUptoRow : OpenClaim := { program := "ytkkpcdpoldjmkaa", sum := "fc2330a886fa6bcbb334d553a684650e1a860832f527652ae124ce80e2aa78ef", func := "boathouse/boathouselaw5.Varints", spec := "varints", plainKeys := false, apart := false, narrowed := true }
def VarintsUptoSaid : Prop := varintsUptoRow.holds Try.pinned (OpenSpec.upto varintsSpec)

/-- 'boathouselaw5.VarintBack', WHERE WHAT IT READS IS OF BULK AT MOST 1048576: true; the input reads as it did. -/
def varintBackUptoRow : OpenClaim := { program := "ytkkpcdpoldjmkaa", sum := "fc2330a886fa6bcbb334d553a684650e1a860832f527652ae124ce80e2aa78ef", func := "boathouse/boathouselaw5.VarintBack", spec := "varintBack", plainKeys := false, apart := false, narrowed := true }
def VarintBackUptoSaid : Prop := varintBackUptoRow.holds Try.pinned (OpenSpec.upto varintBackSpec)

/-- 'boathouselaw5.VarintSizes', WHERE WHAT IT READS IS OF BULK AT MOST 1048576: true; the input reads as it did. -/
def varintSizesUptoRow : OpenClaim := { program := "ytkkpcdpoldjmkaa", sum := "fc2330a886fa6bcbb334d553a684650e1a860832f527652ae124ce80e2aa78ef", func := "boathouse/boathouselaw5.VarintSizes", spec := "varintSizes", plainKeys := false, apart := false, narrowed := true }
def VarintSizesUptoSaid : Prop := varintSizesUptoRow.holds Try.pinned (OpenSpec.upto varintSizesSpec)

/-- 'boathouselaw5.VarintRow', WHERE WHAT IT READS IS OF BULK AT MOST 1048576: true; the input reads as it did. -/
def varintRowUptoRow : OpenClaim := { program := "ytkkpcdpoldjmkaa", sum := "fc2330a886fa6bcbb334d553a684650e1a860832f527652ae124ce80e2aa78ef", func := "boathouse/boathouselaw5.VarintRow", spec := "varintRow", plainKeys := false, apart := false, narrowed := true }
def VarintRowUptoSaid : Prop := varintRowUptoRow.holds Try.pinned (OpenSpec.upto varintRowSpec)

/-- 'boathouselaw2.Utfs', WHERE WHAT IT READS IS OF BULK AT MOST 1048576: true; the input reads as it did. -/
def utfsUptoRow : OpenClaim := { program := "ytkkpcdpoldjmkaa", sum := "fc2330a886fa6bcbb334d553a684650e1a860832f527652ae124ce80e2aa78ef", func := "boathouse/boathouselaw2.Utfs", spec := "utfs", plainKeys := false, apart := false, narrowed := true }
def UtfsUptoSaid : Prop := utfsUptoRow.holds Try.pinned (OpenSpec.upto utfsSpec)

/-- 'boathouselaw2.UtfBack', WHERE WHAT IT READS IS OF BULK AT MOST 1048576: true; the input reads as it did. -/
def utfBackUptoRow : OpenClaim := { program := "ytkkpcdpoldjmkaa", sum := "fc2330a886fa6bcbb334d553a684650e1a860832f527652ae124ce80e2aa78ef", func := "boathouse/boathouselaw2.UtfBack", spec := "utfBack", plainKeys := false, apart := false, narrowed := true }
def UtfBackUptoSaid : Prop := utfBackUptoRow.holds Try.pinned (OpenSpec.upto utfBackSpec)

/-- 'boathouselaw2.UtfForms', WHERE WHAT IT READS IS OF BULK AT MOST 1048576: true; the input reads as it did. -/
def utfFormsUptoRow : OpenClaim := { program := "ytkkpcdpoldjmkaa", sum := "fc2330a886fa6bcbb334d553a684650e1a860832f527652ae124ce80e2aa78ef", func := "boathouse/boathouselaw2.UtfForms", spec := "utfForms", plainKeys := false, apart := false, narrowed := true }
def UtfFormsUptoSaid : Prop := utfFormsUptoRow.holds Try.pinned (OpenSpec.upto utfFormsSpec)

/-- 'boathouselaw2.UtfCut', WHERE WHAT IT READS IS OF BULK AT MOST 1048576: true; the input reads as it did. -/
def utfCutUptoRow : OpenClaim := { program := "ytkkpcdpoldjmkaa", sum := "fc2330a886fa6bcbb334d553a684650e1a860832f527652ae124ce80e2aa78ef", func := "boathouse/boathouselaw2.UtfCut", spec := "utfCut", plainKeys := false, apart := false, narrowed := true }
def UtfCutUptoSaid : Prop := utfCutUptoRow.holds Try.pinned (OpenSpec.upto utfCutSpec)

/-- 'boathouselaw6.Bitpacks', WHERE WHAT IT READS IS OF BULK AT MOST 1048576: true; the input reads as it did. -/
def bitpacksUptoRow : OpenClaim := { program := "ytkkpcdpoldjmkaa", sum := "fc2330a886fa6bcbb334d553a684650e1a860832f527652ae124ce80e2aa78ef", func := "boathouse/boathouselaw6.Bitpacks", spec := "bitpacks", plainKeys := false, apart := false, narrowed := true }
def BitpacksUptoSaid : Prop := bitpacksUptoRow.holds Try.pinned (OpenSpec.upto bitpacksSpec)

/-- 'boathouselaw6.BitpackBack', WHERE WHAT IT READS IS OF BULK AT MOST 1048576: true; the input reads as it did. -/
def bitpackBackUptoRow : OpenClaim := { program := "ytkkpcdpoldjmkaa", sum := "fc2330a886fa6bcbb334d553a684650e1a860832f527652ae124ce80e2aa78ef", func := "boathouse/boathouselaw6.BitpackBack", spec := "bitpackBack", plainKeys := false, apart := false, narrowed := true }
def BitpackBackUptoSaid : Prop := bitpackBackUptoRow.holds Try.pinned (OpenSpec.upto bitpackBackSpec)

/-- 'boathouselaw6.BitpackBits', WHERE WHAT IT READS IS OF BULK AT MOST 1048576: true; the input reads as it did. -/
def bitpackBitsUptoRow : OpenClaim := { program := "ytkkpcdpoldjmkaa", sum := "fc2330a886fa6bcbb334d553a684650e1a860832f527652ae124ce80e2aa78ef", func := "boathouse/boathouselaw6.BitpackBits", spec := "bitpackBits", plainKeys := false, apart := false, narrowed := true }
def BitpackBitsUptoSaid : Prop := bitpackBitsUptoRow.holds Try.pinned (OpenSpec.upto bitpackBitsSpec)

/-- 'boathouselaw17.Aggs', WHERE WHAT IT READS IS OF BULK AT MOST 1048576: true; the input reads as it did. -/
def aggsUptoRow : OpenClaim := { program := "ytkkpcdpoldjmkaa", sum := "fc2330a886fa6bcbb334d553a684650e1a860832f527652ae124ce80e2aa78ef", func := "boathouse/boathouselaw17.Aggs", spec := "aggs", inPlace := ["math/bits.Add64"], unfollowed := true, recurses := true, plainKeys := false, apart := false, narrowed := true }
def AggsUptoSaid : Prop := aggsUptoRow.holds Try.pinned (OpenSpec.upto aggsSpec)

/-- 'boathouselaw17.AggRows', WHERE WHAT IT READS IS OF BULK AT MOST 1048576: true; the input reads as it did. -/
def aggRowsUptoRow : OpenClaim := { program := "ytkkpcdpoldjmkaa", sum := "fc2330a886fa6bcbb334d553a684650e1a860832f527652ae124ce80e2aa78ef", func := "boathouse/boathouselaw17.AggRows", spec := "aggRows", inPlace := ["math/bits.Add64"], unfollowed := true, recurses := true, plainKeys := false, apart := false, narrowed := true }
def AggRowsUptoSaid : Prop := aggRowsUptoRow.holds Try.pinned (OpenSpec.upto aggRowsSpec)

/-- 'boathouselaw17.AggEdges', WHERE WHAT IT READS IS OF BULK AT MOST 1048576: true; the input reads as it did. -/
def aggEdgesUptoRow : OpenClaim := { program := "ytkkpcdpoldjmkaa", sum := "fc2330a886fa6bcbb334d553a684650e1a860832f527652ae124ce80e2aa78ef", func := "boathouse/boathouselaw17.AggEdges", spec := "aggEdges", inPlace := ["math/bits.Add64"], unfollowed := true, recurses := true, plainKeys := false, apart := false, narrowed := true }
def AggEdgesUptoSaid : Prop := aggEdgesUptoRow.holds Try.pinned (OpenSpec.upto aggEdgesSpec)

/-- 'boathouselaw9.VecPuts', WHERE WHAT IT READS IS OF BULK AT MOST 1048576: true; the input reads as it did. -/
def vecPutsUptoRow : OpenClaim := { program := "ytkkpcdpoldjmkaa", sum := "fc2330a886fa6bcbb334d553a684650e1a860832f527652ae124ce80e2aa78ef", func := "boathouse/boathouselaw9.VecPuts", spec := "vecPuts", inPlace := ["internal/abi.NoEscape"], plainKeys := false, apart := false, narrowed := true }
def VecPutsUptoSaid : Prop := vecPutsUptoRow.holds Try.pinned (OpenSpec.upto vecPutsSpec)

/-- 'boathouselaw9.VecGets', WHERE WHAT IT READS IS OF BULK AT MOST 1048576: true; the input reads as it did. -/
def vecGetsUptoRow : OpenClaim := { program := "ytkkpcdpoldjmkaa", sum := "fc2330a886fa6bcbb334d553a684650e1a860832f527652ae124ce80e2aa78ef", func := "boathouse/boathouselaw9.VecGets", spec := "vecGets", inPlace := ["internal/abi.NoEscape"], plainKeys := false, apart := false, narrowed := true }
def VecGetsUptoSaid : Prop := vecGetsUptoRow.holds Try.pinned (OpenSpec.upto vecGetsSpec)

/-- 'boathouselaw9.VecBack', WHERE WHAT IT READS IS OF BULK AT MOST 1048576: true; the input reads as it did. -/
def vecBackUptoRow : OpenClaim := { program := "ytkkpcdpoldjmkaa", sum := "fc2330a886fa6bcbb334d553a684650e1a860832f527652ae124ce80e2aa78ef", func := "boathouse/boathouselaw9.VecBack", spec := "vecBack", inPlace := ["internal/abi.NoEscape"], plainKeys := false, apart := false, narrowed := true }
def VecBackUptoSaid : Prop := vecBackUptoRow.holds Try.pinned (OpenSpec.upto vecBackSpec)

/-- 'boathouselaw9.VecOrder', WHERE WHAT IT READS IS OF BULK AT MOST 1048576: true; the input reads as it did. -/
def vecOrderUptoRow : OpenClaim := { program := "ytkkpcdpoldjmkaa", sum := "fc2330a886fa6bcbb334d553a684650e1a860832f527652ae124ce80e2aa78ef", func := "boathouse/boathouselaw9.VecOrder", spec := "vecOrder", inPlace := ["internal/abi.NoEscape"], plainKeys := false, apart := false, narrowed := true }
def VecOrderUptoSaid : Prop := vecOrderUptoRow.holds Try.pinned (OpenSpec.upto vecOrderSpec)

/-- 'boathouselaw9.VecShort', WHERE WHAT IT READS IS OF BULK AT MOST 1048576: true; the input reads as it did. -/
def vecShortUptoRow : OpenClaim := { program := "ytkkpcdpoldjmkaa", sum := "fc2330a886fa6bcbb334d553a684650e1a860832f527652ae124ce80e2aa78ef", func := "boathouse/boathouselaw9.VecShort", spec := "vecShort", inPlace := ["internal/abi.NoEscape"], plainKeys := false, apart := false, narrowed := true }
def VecShortUptoSaid : Prop := vecShortUptoRow.holds Try.pinned (OpenSpec.upto vecShortSpec)

/-- 'boathouselaw9.VecLimits', WHERE WHAT IT READS IS OF BULK AT MOST 1048576: true; the input reads as it did. -/
def vecLimitsUptoRow : OpenClaim := { program := "ytkkpcdpoldjmkaa", sum := "fc2330a886fa6bcbb334d553a684650e1a860832f527652ae124ce80e2aa78ef", func := "boathouse/boathouselaw9.VecLimits", spec := "vecLimits", inPlace := ["internal/abi.NoEscape"], plainKeys := false, apart := false, narrowed := true }
def VecLimitsUptoSaid : Prop := vecLimitsUptoRow.holds Try.pinned (OpenSpec.upto vecLimitsSpec)

end Rows
end Go.Proofs.Ytkkpcdpoldjmkaa
