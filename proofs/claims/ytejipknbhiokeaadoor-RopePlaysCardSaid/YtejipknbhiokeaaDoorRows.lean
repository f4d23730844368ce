/-
  NARROWER THAN 'FOR EVERY INPUT', by the rows' own cells (each row's printed sentence says how): UtfChars: laid · UtfPuts: laid · UtfBack: laid · UtfSteps: laid · RopeNil: laid · UtfWhole: laid · PlaceBack: laid · UtfJoins: laid · RopeFull: laid · RopeLines: laid · PlaceTells: laid · PlaceNil: laid · PlaceChars: laid · RopeOne: laid · RopeTells: laid · RopePlays: laid.
  DERIVED. THE GIVEN ROWS OF THIS SEAT. 16 by the template 'for every input the law returns true; each argument reads behind the call as it read before'; 0 by the template 'total and deterministic' (their statements: YtejipknbhiokeaaDoorTotals.lean).
  GIVEN WITH THE SEED: the statements are not yours to turn. If you find one false, say at which input.
  Laid BY PROGRAM, IN A SANDBOX (cutbox-rows.mjs): the forced cells as the released guide's own fill.sh prints them over the translation d7318fe4ef5e0fd8… (all of the seat's roots in one cut). By AI agents, Wed Nov 11 2026. No macro, syntax, notation, axiom, sorry.
-/
import Derived.Test.YtejipknbhiokeaaDoorChecked
import GoSem.Claim
import GoSem.ClaimJoined
import GoSem.ClaimMapViews
import Derived.JoinedTies
import Derived.KernelRfl
namespace Go.Proofs.YtejipknbhiokeaaDoor
/- THE CELL 'sum', in the pinned program and in every row, IS THE sha256 OF THE DUMP (.gsa) THAT YtejipknbhiokeaaDoorProg.lean LOADS. Nothing in Lean hashes anything: it is a label: what it is worth is what the hold of that sum in a sandbox is worth. -/
noncomputable def Tryd.pinned : Pinned := { name := "ytejipknbhiokeaadoor", sum := "d7318fe4ef5e0fd897f122c9c165cb40fe4f5b4bfa7b170f4c96552bcc71e7fb", checked := Tryd.checked }
namespace Rows
def none {H : Type} : Left H := { results := [], args := [] }

/- WHAT THE LISTED PACKAGE-LEVEL VARIABLES READ AS WHEN THE CALL BEGINS. Each datum BY PROGRAM (the guide's laid-datum.mjs) off the statement by which the dump's own 'gosem.cut.vars' lays the variable. In a bare row this is a premise. The card (YtejipknbhiokeaaDoorCards.lean) ties it to the program's text. -/
def laid_indenture_utf_rows {H : Type} : DataW H := .agg [.agg [.lit (.int .u64 7), .lit (.int .u8 0), .lit (.int .i32 0), .lit (.int .i32 127)], .agg [.lit (.int .u64 5), .lit (.int .u8 192), .lit (.int .i32 128), .lit (.int .i32 2047)], .agg [.lit (.int .u64 4), .lit (.int .u8 224), .lit (.int .i32 2048), .lit (.int .i32 65535)], .agg [.lit (.int .u64 3), .lit (.int .u8 240), .lit (.int .i32 65536), .lit (.int .i32 1114111)]]

/-- 'indenturelaw01.UtfChars': WHATEVER THE INPUT: true; the input reads as it did. -/
def utfCharsSpec : ChangeSpec := { name := "utfChars", fn := fun _ => fun
  | [d1, d2] => { results := [.lit (.bool true)], args := [d1, d2] }
  | _ => none }
def utfCharsRow : OpenClaim := { program := "ytejipknbhiokeaadoor", sum := "d7318fe4ef5e0fd897f122c9c165cb40fe4f5b4bfa7b170f4c96552bcc71e7fb", func := "indenture/indenturelaw01.UtfChars", spec := "utfChars", unfollowed := true, recurses := true, named := ["indenture/utf.rows"], apart := false, laid := [("indenture/utf.rows", laid_indenture_utf_rows)] }
def UtfCharsSaid : Prop := utfCharsRow.holds Tryd.pinned (OpenSpec.ofChange utfCharsSpec)

/-- ITS FALSE NEIGHBOUR: 'it returns false'. Refute it at one input. -/
def utfCharsWrong : ChangeSpec := { name := "utfChars", fn := fun _ => fun
  | [d1, d2] => { results := [.lit (.bool false)], args := [d1, d2] }
  | _ => none }
def UtfCharsWrongFalsely : Prop := utfCharsRow.holds Tryd.pinned (OpenSpec.ofChange utfCharsWrong)

/-- 'indenturelaw01.UtfPuts': WHATEVER THE INPUT: true; the input reads as it did. -/
def utfPutsSpec : ChangeSpec := { name := "utfPuts", fn := fun _ => fun
  | [d] => { results := [.lit (.bool true)], args := [d] }
  | _ => none }
def utfPutsRow : OpenClaim := { program := "ytejipknbhiokeaadoor", sum := "d7318fe4ef5e0fd897f122c9c165cb40fe4f5b4bfa7b170f4c96552bcc71e7fb", func := "indenture/indenturelaw01.UtfPuts", spec := "utfPuts", unfollowed := true, recurses := true, named := ["indenture/utf.rows"], apart := false, laid := [("indenture/utf.rows", laid_indenture_utf_rows)] }
def UtfPutsSaid : Prop := utfPutsRow.holds Tryd.pinned (OpenSpec.ofChange utfPutsSpec)

/-- ITS FALSE NEIGHBOUR: 'it returns false'. Refute it at one input. -/
def utfPutsWrong : ChangeSpec := { name := "utfPuts", fn := fun _ => fun
  | [d] => { results := [.lit (.bool false)], args := [d] }
  | _ => none }
def UtfPutsWrongFalsely : Prop := utfPutsRow.holds Tryd.pinned (OpenSpec.ofChange utfPutsWrong)

/-- 'indenturelaw01.UtfBack': WHATEVER THE INPUT: true; the input reads as it did. -/
def utfBackSpec : ChangeSpec := { name := "utfBack", fn := fun _ => fun
  | [d1, d2, d3] => { results := [.lit (.bool true)], args := [d1, d2, d3] }
  | _ => none }
def utfBackRow : OpenClaim := { program := "ytejipknbhiokeaadoor", sum := "d7318fe4ef5e0fd897f122c9c165cb40fe4f5b4bfa7b170f4c96552bcc71e7fb", func := "indenture/indenturelaw01.UtfBack", spec := "utfBack", unfollowed := true, recurses := true, named := ["indenture/utf.rows"], apart := false, laid := [("indenture/utf.rows", laid_indenture_utf_rows)] }
def UtfBackSaid : Prop := utfBackRow.holds Tryd.pinned (OpenSpec.ofChange utfBackSpec)

/-- ITS FALSE NEIGHBOUR: 'it returns false'. Refute it at one input. -/
def utfBackWrong : ChangeSpec := { name := "utfBack", fn := fun _ => fun
  | [d1, d2, d3] => { results := [.lit (.bool false)], args := [d1, d2, d3] }
  | _ => none }
def UtfBackWrongFalsely : Prop := utfBackRow.holds Tryd.pinned (OpenSpec.ofChange utfBackWrong)

/-- 'indenturelaw01.UtfSteps': WHATEVER THE INPUT: true; the input reads as it did. -/
def utfStepsSpec : ChangeSpec := { name := "utfSteps", fn := fun _ => fun
  | [d1, d2] => { results := [.lit (.bool true)], args := [d1, d2] }
  | _ => none }
def utfStepsRow : OpenClaim := { program := "ytejipknbhiokeaadoor", sum := "d7318fe4ef5e0fd897f122c9c165cb40fe4f5b4bfa7b170f4c96552bcc71e7fb", func := "indenture/indenturelaw01.UtfSteps", spec := "utfSteps", unfollowed := true, recurses := true, named := ["indenture/utf.rows"], apart := false, laid := [("indenture/utf.rows", laid_indenture_utf_rows)] }
def UtfStepsSaid : Prop := utfStepsRow.holds Tryd.pinned (OpenSpec.ofChange utfStepsSpec)

/-- ITS FALSE NEIGHBOUR: 'it returns false'. Refute it at one input. -/
def utfStepsWrong : ChangeSpec := { name := "utfSteps", fn := fun _ => fun
  | [d1, d2] => { results := [.lit (.bool false)], args := [d1, d2] }
  | _ => none }
def UtfStepsWrongFalsely : Prop := utfStepsRow.holds Tryd.pinned (OpenSpec.ofChange utfStepsWrong)

/-- 'indenturelaw02.RopeNil': WHATEVER THE INPUT: true; the input reads as it did. -/
def ropeNilSpec : ChangeSpec := { name := "ropeNil", fn := fun _ => fun
  | [d1, d2] => { results := [.lit (.bool true)], args := [d1, d2] }
  | _ => none }
def ropeNilRow : OpenClaim := { program := "ytejipknbhiokeaadoor", sum := "d7318fe4ef5e0fd897f122c9c165cb40fe4f5b4bfa7b170f4c96552bcc71e7fb", func := "indenture/indenturelaw02.RopeNil", spec := "ropeNil", inPlace := ["internal/abi.NoEscape", "internal/bytealg.CountString", "internal/bytealg.IndexByteString", "internal/bytealg.IndexString"], unfollowed := true, recurses := true, named := ["internal/bytealg.MaxLen", "indenture/utf.rows"], apart := false, laid := [("indenture/utf.rows", laid_indenture_utf_rows)] }
def RopeNilSaid : Prop := ropeNilRow.holds Tryd.pinned (OpenSpec.ofChange ropeNilSpec)

/-- ITS FALSE NEIGHBOUR: 'it returns false'. Refute it at one input. -/
def ropeNilWrong : ChangeSpec := { name := "ropeNil", fn := fun _ => fun
  | [d1, d2] => { results := [.lit (.bool false)], args := [d1, d2] }
  | _ => none }
def RopeNilWrongFalsely : Prop := ropeNilRow.holds Tryd.pinned (OpenSpec.ofChange ropeNilWrong)

/-- 'indenturelaw01.UtfWhole': WHATEVER THE INPUT: true; the input reads as it did. -/
def utfWholeSpec : ChangeSpec := { name := "utfWhole", fn := fun _ => fun
  | [d] => { results := [.lit (.bool true)], args := [d] }
  | _ => none }
def utfWholeRow : OpenClaim := { program := "ytejipknbhiokeaadoor", sum := "d7318fe4ef5e0fd897f122c9c165cb40fe4f5b4bfa7b170f4c96552bcc71e7fb", func := "indenture/indenturelaw01.UtfWhole", spec := "utfWhole", unfollowed := true, recurses := true, named := ["indenture/utf.rows"], apart := false, laid := [("indenture/utf.rows", laid_indenture_utf_rows)] }
def UtfWholeSaid : Prop := utfWholeRow.holds Tryd.pinned (OpenSpec.ofChange utfWholeSpec)

/-- ITS FALSE NEIGHBOUR: 'it returns false'. Refute it at one input. -/
def utfWholeWrong : ChangeSpec := { name := "utfWhole", fn := fun _ => fun
  | [d] => { results := [.lit (.bool false)], args := [d] }
  | _ => none }
def UtfWholeWrongFalsely : Prop := utfWholeRow.holds Tryd.pinned (OpenSpec.ofChange utfWholeWrong)

/-- 'indenturelaw03.PlaceBack': WHATEVER THE INPUT: true; the input reads as it did. -/
def placeBackSpec : ChangeSpec := { name := "placeBack", fn := fun _ => fun
  | [d1, d2, d3, d4] => { results := [.lit (.bool true)], args := [d1, d2, d3, d4] }
  | _ => none }
def placeBackRow : OpenClaim := { program := "ytejipknbhiokeaadoor", sum := "d7318fe4ef5e0fd897f122c9c165cb40fe4f5b4bfa7b170f4c96552bcc71e7fb", func := "indenture/indenturelaw03.PlaceBack", spec := "placeBack", inPlace := ["internal/bytealg.CountString", "internal/bytealg.IndexByteString", "internal/bytealg.IndexString", "internal/abi.NoEscape"], unfollowed := true, recurses := true, named := ["internal/bytealg.MaxLen", "indenture/utf.rows"], apart := false, laid := [("indenture/utf.rows", laid_indenture_utf_rows)] }
def PlaceBackSaid : Prop := placeBackRow.holds Tryd.pinned (OpenSpec.ofChange placeBackSpec)

/-- ITS FALSE NEIGHBOUR: 'it returns false'. Refute it at one input. -/
def placeBackWrong : ChangeSpec := { name := "placeBack", fn := fun _ => fun
  | [d1, d2, d3, d4] => { results := [.lit (.bool false)], args := [d1, d2, d3, d4] }
  | _ => none }
def PlaceBackWrongFalsely : Prop := placeBackRow.holds Tryd.pinned (OpenSpec.ofChange placeBackWrong)

/-- 'indenturelaw01.UtfJoins': WHATEVER THE INPUT: true; the input reads as it did. -/
def utfJoinsSpec : ChangeSpec := { name := "utfJoins", fn := fun _ => fun
  | [d1, d2] => { results := [.lit (.bool true)], args := [d1, d2] }
  | _ => none }
def utfJoinsRow : OpenClaim := { program := "ytejipknbhiokeaadoor", sum := "d7318fe4ef5e0fd897f122c9c165cb40fe4f5b4bfa7b170f4c96552bcc71e7fb", func := "indenture/indenturelaw01.UtfJoins", spec := "utfJoins", unfollowed := true, recurses := true, named := ["indenture/utf.rows"], apart := false, laid := [("indenture/utf.rows", laid_indenture_utf_rows)] }
def UtfJoinsSaid : Prop := utfJoinsRow.holds Tryd.pinned (OpenSpec.ofChange utfJoinsSpec)

/-- ITS FALSE NEIGHBOUR: 'it returns false'. Refute it at one input. -/
def utfJoinsWrong : ChangeSpec := { name := "utfJoins", fn := fun _ => fun
  | [d1, d2] => { results := [.lit (.bool false)], args := [d1, d2] }
  | _ => none }
def UtfJoinsWrongFalsely : Prop := utfJoinsRow.holds Tryd.pinned (OpenSpec.ofChange utfJoinsWrong)

/-- 'indenturelaw02.RopeFull': WHATEVER THE INPUT: true; the input reads as it did. -/
def ropeFullSpec : ChangeSpec := { name := "ropeFull", fn := fun _ => fun
  | [] => { results := [.lit (.bool true)], args := [] }
  | _ => none }
def ropeFullRow : OpenClaim := { program := "ytejipknbhiokeaadoor", sum := "d7318fe4ef5e0fd897f122c9c165cb40fe4f5b4bfa7b170f4c96552bcc71e7fb", func := "indenture/indenturelaw02.RopeFull", spec := "ropeFull", inPlace := ["internal/bytealg.CountString", "internal/bytealg.IndexByteString", "internal/bytealg.IndexString", "internal/abi.NoEscape"], unfollowed := true, recurses := true, named := ["internal/bytealg.MaxLen", "indenture/utf.rows"], apart := false, laid := [("indenture/utf.rows", laid_indenture_utf_rows)] }
def RopeFullSaid : Prop := ropeFullRow.holds Tryd.pinned (OpenSpec.ofChange ropeFullSpec)

/-- ITS FALSE NEIGHBOUR: 'it returns false'. Refute it at one input. -/
def ropeFullWrong : ChangeSpec := { name := "ropeFull", fn := fun _ => fun
  | [] => { results := [.lit (.bool false)], args := [] }
  | _ => none }
def RopeFullWrongFalsely : Prop := ropeFullRow.holds Tryd.pinned (OpenSpec.ofChange ropeFullWrong)

/-- 'indenturelaw02.RopeLines': WHATEVER THE INPUT: true; the input reads as it did. -/
def ropeLinesSpec : ChangeSpec := { name := "ropeLines", fn := fun _ => fun
  | [d1, d2] => { results := [.lit (.bool true)], args := [d1, d2] }
  | _ => none }
def ropeLinesRow : OpenClaim := { program := "ytejipknbhiokeaadoor", sum := "d7318fe4ef5e0fd897f122c9c165cb40fe4f5b4bfa7b170f4c96552bcc71e7fb", func := "indenture/indenturelaw02.RopeLines", spec := "ropeLines", inPlace := ["internal/bytealg.CountString", "internal/bytealg.IndexByteString", "internal/bytealg.IndexString", "internal/abi.NoEscape"], unfollowed := true, recurses := true, named := ["internal/bytealg.MaxLen", "indenture/utf.rows"], apart := false, laid := [("indenture/utf.rows", laid_indenture_utf_rows)] }
def RopeLinesSaid : Prop := ropeLinesRow.holds Tryd.pinned (OpenSpec.ofChange ropeLinesSpec)

/-- ITS FALSE NEIGHBOUR: 'it returns false'. Refute it at one input. -/
def ropeLinesWrong : ChangeSpec := { name := "ropeLines", fn := fun _ => fun
  | [d1, d2] => { results := [.lit (.bool false)], args := [d1, d2] }
  | _ => none }
def RopeLinesWrongFalsely : Prop := ropeLinesRow.holds Tryd.pinned (OpenSpec.ofChange ropeLinesWrong)

/-- 'indenturelaw03.PlaceTells': WHATEVER THE INPUT: true; the input reads as it did. -/
def placeTellsSpec : ChangeSpec := { name := "placeTells", fn := fun _ => fun
  | [d1, d2, d3, d4] => { results := [.lit (.bool true)], args := [d1, d2, d3, d4] }
  | _ => none }
def placeTellsRow : OpenClaim := { program := "ytejipknbhiokeaadoor", sum := "d7318fe4ef5e0fd897f122c9c165cb40fe4f5b4bfa7b170f4c96552bcc71e7fb", func := "indenture/indenturelaw03.PlaceTells", spec := "placeTells", inPlace := ["internal/bytealg.CountString", "internal/bytealg.IndexByteString", "internal/bytealg.IndexString", "internal/abi.NoEscape"], unfollowed := true, recurses := true, named := ["internal/bytealg.MaxLen", "indenture/utf.rows"], apart := false, laid := [("indenture/utf.rows", laid_indenture_utf_rows)] }
def PlaceTellsSaid : Prop := placeTellsRow.holds Tryd.pinned (OpenSpec.ofChange placeTellsSpec)

/-- ITS FALSE NEIGHBOUR: 'it returns false'. Refute it at one input. -/
def placeTellsWrong : ChangeSpec := { name := "placeTells", fn := fun _ => fun
  | [d1, d2, d3, d4] => { results := [.lit (.bool false)], args := [d1, d2, d3, d4] }
  | _ => none }
def PlaceTellsWrongFalsely : Prop := placeTellsRow.holds Tryd.pinned (OpenSpec.ofChange placeTellsWrong)

/-- 'indenturelaw03.PlaceNil': WHATEVER THE INPUT: true; the input reads as it did. -/
def placeNilSpec : ChangeSpec := { name := "placeNil", fn := fun _ => fun
  | [d1, d2, d3] => { results := [.lit (.bool true)], args := [d1, d2, d3] }
  | _ => none }
def placeNilRow : OpenClaim := { program := "ytejipknbhiokeaadoor", sum := "d7318fe4ef5e0fd897f122c9c165cb40fe4f5b4bfa7b170f4c96552bcc71e7fb", func := "indenture/indenturelaw03.PlaceNil", spec := "placeNil", inPlace := ["internal/bytealg.CountString", "internal/bytealg.IndexByteString", "internal/bytealg.IndexString", "internal/abi.NoEscape"], unfollowed := true, recurses := true, named := ["internal/bytealg.MaxLen", "indenture/utf.rows"], apart := false, laid := [("indenture/utf.rows", laid_indenture_utf_rows)] }
def PlaceNilSaid : Prop := placeNilRow.holds Tryd.pinned (OpenSpec.ofChange placeNilSpec)

/-- ITS FALSE NEIGHBOUR: 'it returns false'. Refute it at one input. -/
def placeNilWrong : ChangeSpec := { name := "placeNil", fn := fun _ => fun
  | [d1, d2, d3] => { results := [.lit (.bool false)], args := [d1, d2, d3] }
  | _ => none }
def PlaceNilWrongFalsely : Prop := placeNilRow.holds Tryd.pinned (OpenSpec.ofChange placeNilWrong)

/-- 'indenturelaw03.PlaceChars': WHATEVER THE INPUT: true; the input reads as it did. -/
def placeCharsSpec : ChangeSpec := { name := "placeChars", fn := fun _ => fun
  | [d1, d2, d3] => { results := [.lit (.bool true)], args := [d1, d2, d3] }
  | _ => none }
def placeCharsRow : OpenClaim := { program := "ytejipknbhiokeaadoor", sum := "d7318fe4ef5e0fd897f122c9c165cb40fe4f5b4bfa7b170f4c96552bcc71e7fb", func := "indenture/indenturelaw03.PlaceChars", spec := "placeChars", inPlace := ["internal/bytealg.CountString", "internal/bytealg.IndexByteString", "internal/bytealg.IndexString", "internal/abi.NoEscape"], unfollowed := true, recurses := true, named := ["internal/bytealg.MaxLen", "indenture/utf.rows"], apart := false, laid := [("indenture/utf.rows", laid_indenture_utf_rows)] }
def PlaceCharsSaid : Prop := placeCharsRow.holds Tryd.pinned (OpenSpec.ofChange placeCharsSpec)

/-- ITS FALSE NEIGHBOUR: 'it returns false'. Refute it at one input. -/
def placeCharsWrong : ChangeSpec := { name := "placeChars", fn := fun _ => fun
  | [d1, d2, d3] => { results := [.lit (.bool false)], args := [d1, d2, d3] }
  | _ => none }
def PlaceCharsWrongFalsely : Prop := placeCharsRow.holds Tryd.pinned (OpenSpec.ofChange placeCharsWrong)

/-- 'indenturelaw02.RopeOne': WHATEVER THE INPUT: true; the input reads as it did. -/
def ropeOneSpec : ChangeSpec := { name := "ropeOne", fn := fun _ => fun
  | [d1, d2, d3, d4, d5] => { results := [.lit (.bool true)], args := [d1, d2, d3, d4, d5] }
  | _ => none }
def ropeOneRow : OpenClaim := { program := "ytejipknbhiokeaadoor", sum := "d7318fe4ef5e0fd897f122c9c165cb40fe4f5b4bfa7b170f4c96552bcc71e7fb", func := "indenture/indenturelaw02.RopeOne", spec := "ropeOne", inPlace := ["internal/bytealg.CountString", "internal/bytealg.IndexByteString", "internal/bytealg.IndexString", "internal/abi.NoEscape"], unfollowed := true, recurses := true, named := ["internal/bytealg.MaxLen", "indenture/utf.rows"], apart := false, laid := [("indenture/utf.rows", laid_indenture_utf_rows)] }
def RopeOneSaid : Prop := ropeOneRow.holds Tryd.pinned (OpenSpec.ofChange ropeOneSpec)

/-- ITS FALSE NEIGHBOUR: 'it returns false'. Refute it at one input. -/
def ropeOneWrong : ChangeSpec := { name := "ropeOne", fn := fun _ => fun
  | [d1, d2, d3, d4, d5] => { results := [.lit (.bool false)], args := [d1, d2, d3, d4, d5] }
  | _ => none }
def RopeOneWrongFalsely : Prop := ropeOneRow.holds Tryd.pinned (OpenSpec.ofChange ropeOneWrong)

/-- 'indenturelaw02.RopeTells': WHATEVER THE INPUT: true; the input reads as it did. -/
def ropeTellsSpec : ChangeSpec := { name := "ropeTells", fn := fun _ => fun
  | [d1, d2, d3, d4, d5] => { results := [.lit (.bool true)], args := [d1, d2, d3, d4, d5] }
  | _ => none }
def ropeTellsRow : OpenClaim := { program := "ytejipknbhiokeaadoor", sum := "d7318fe4ef5e0fd897f122c9c165cb40fe4f5b4bfa7b170f4c96552bcc71e7fb", func := "indenture/indenturelaw02.RopeTells", spec := "ropeTells", inPlace := ["internal/bytealg.CountString", "internal/bytealg.IndexByteString", "internal/bytealg.IndexString", "internal/abi.NoEscape"], unfollowed := true, recurses := true, named := ["internal/bytealg.MaxLen", "indenture/utf.rows"], apart := false, laid := [("indenture/utf.rows", laid_indenture_utf_rows)] }
def RopeTellsSaid : Prop := ropeTellsRow.holds Tryd.pinned (OpenSpec.ofChange ropeTellsSpec)

/-- ITS FALSE NEIGHBOUR: 'it returns false'. Refute it at one input. -/
def ropeTellsWrong : ChangeSpec := { name := "ropeTells", fn := fun _ => fun
  | [d1, d2, d3, d4, d5] => { results := [.lit (.bool false)], args := [d1, d2, d3, d4, d5] }
  | _ => none }
def RopeTellsWrongFalsely : Prop := ropeTellsRow.holds Tryd.pinned (OpenSpec.ofChange ropeTellsWrong)

/-- 'indenturelaw02.RopePlays': WHATEVER THE INPUT: true; the input reads as it did. -/
def ropePlaysSpec : ChangeSpec := { name := "ropePlays", fn := fun _ => fun
  | [d1, d2, d3, d4, d5, d6] => { results := [.lit (.bool true)], args := [d1, d2, d3, d4, d5, d6] }
  | _ => none }
def ropePlaysRow : OpenClaim := { program := "ytejipknbhiokeaadoor", sum := "d7318fe4ef5e0fd897f122c9c165cb40fe4f5b4bfa7b170f4c96552bcc71e7fb", func := "indenture/indenturelaw02.RopePlays", spec := "ropePlays", inPlace := ["internal/bytealg.CountString", "internal/bytealg.IndexByteString", "internal/bytealg.IndexString", "internal/abi.NoEscape"], unfollowed := true, recurses := true, named := ["internal/bytealg.MaxLen", "indenture/utf.rows"], apart := false, laid := [("indenture/utf.rows", laid_indenture_utf_rows)] }
def RopePlaysSaid : Prop := ropePlaysRow.holds Tryd.pinned (OpenSpec.ofChange ropePlaysSpec)

/-- ITS FALSE NEIGHBOUR: 'it returns false'. Refute it at one input. -/
def ropePlaysWrong : ChangeSpec := { name := "ropePlays", fn := fun _ => fun
  | [d1, d2, d3, d4, d5, d6] => { results := [.lit (.bool false)], args := [d1, d2, d3, d4, d5, d6] }
  | _ => none }
def RopePlaysWrongFalsely : Prop := ropePlaysRow.holds Tryd.pinned (OpenSpec.ofChange ropePlaysWrong)

/- THE SECOND FORM. 'bulk': how many values and letters a reading holds, each counted each time it is reached (what is shared counts as often as it is met; a slice's spare places count too). A statement '..UptoSaid' is the law's where the arguments, and the package variables that the reading takes, are together of bulk at most 1048576: NARROWER than '..Said'. Prove '..Said' where nothing that the law and all that it calls make is longer than what came in: it says more and counts as full. Else prove '..UptoSaid'. A law counts once. -/
mutual
def uptoBulk {H : Type} : DataW H → Nat
  | .lit (.string bytes) => bytes.length + 1
  | .lit _ => 1
  | .nil => 1
  | .ptr d => uptoBulk d + 1
  | .slice elems spare => uptoBulkAll elems + uptoBulkAll spare + 1
  | .agg parts => uptoBulkAll parts + 1
  | .iface _ d => uptoBulk d + 1
  | .map entries => uptoBulkEntries entries + 1
  | .held _ => 1
def uptoBulkAll {H : Type} : List (DataW H) → Nat
  | [] => 0
  | d :: r => uptoBulk d + uptoBulkAll r
def uptoBulkEntries {H : Type} : List (Lit × DataW H) → Nat
  | [] => 0
  | x :: r => uptoBulkEntry x + uptoBulkEntries r
def uptoBulkEntry {H : Type} : Lit × DataW H → Nat
  | (.string bytes, d) => bytes.length + uptoBulk d + 1
  | (_, d) => uptoBulk d + 1
 end
def uptoSmall : (H : Type) → List (DataW H) → Bool := fun _ ds => decide (uptoBulkAll ds ≤ 1048576)
def OpenSpec.upto (s : _root_.Go.ChangeSpec) : _root_.Go.OpenSpec := { _root_.Go.OpenSpec.ofChange s with cond := some uptoSmall }

/-- 'indenturelaw01.UtfChars', WHERE WHAT IT READS IS OF BULK AT MOST 1048576: true; the input reads as it did. -/
def utfCharsUptoRow : OpenClaim := { program := "ytejipknbhiokeaadoor", sum := "d7318fe4ef5e0fd897f122c9c165cb40fe4f5b4bfa7b170f4c96552bcc71e7fb", func := "indenture/indenturelaw01.UtfChars", spec := "utfChars", unfollowed := true, recurses := true, named := ["indenture/utf.rows"], apart := false, laid := [("indenture/utf.rows", laid_indenture_utf_rows)], narrowed := true }
def UtfCharsUptoSaid : Prop := utfCharsUptoRow.holds Tryd.pinned (OpenSpec.upto utfCharsSpec)

/-- 'indenturelaw01.UtfPuts', WHERE WHAT IT READS IS OF BULK AT MOST 1048576: true; the input reads as it did. -/
def utfPutsUptoRow : OpenClaim := { program := "ytejipknbhiokeaadoor", sum := "d7318fe4ef5e0fd897f122c9c165cb40fe4f5b4bfa7b170f4c96552bcc71e7fb", func := "indenture/indenturelaw01.UtfPuts", spec := "utfPuts", unfollowed := true, recurses := true, named := ["indenture/utf.rows"], apart := false, laid := [("indenture/utf.rows", laid_indenture_utf_rows)], narrowed := true }
def UtfPutsUptoSaid : Prop := utfPutsUptoRow.holds Tryd.pinned (OpenSpec.upto utfPutsSpec)

/-- 'indenturelaw01.UtfBack', WHERE WHAT IT READS IS OF BULK AT MOST 1048576: true; the input reads as it did. -/
def utfBackUptoRow : OpenClaim := { program := "ytejipknbhiokeaadoor", sum := "d7318fe4ef5e0fd897f122c9c165cb40fe4f5b4bfa7b170f4c96552bcc71e7fb", func := "indenture/indenturelaw01.UtfBack", spec := "utfBack", unfollowed := true, recurses := true, named := ["indenture/utf.rows"], apart := false, laid := [("indenture/utf.rows", laid_indenture_utf_rows)], narrowed := true }
def UtfBackUptoSaid : Prop := utfBackUptoRow.holds Tryd.pinned (OpenSpec.upto utfBackSpec)

/-- 'indenturelaw01.UtfSteps', WHERE WHAT IT READS IS OF BULK AT MOST 1048576: true; the input reads as it did. -/
def utfStepsUptoRow : OpenClaim := { program := "ytejipknbhiokeaadoor", sum := "d7318fe4ef5e0fd897f122c9c165cb40fe4f5b4bfa7b170f4c96552bcc71e7fb", func := "indenture/indenturelaw01.UtfSteps", spec := "utfSteps", unfollowed := true, recurses := true, named := ["indenture/utf.rows"], apart := false, laid := [("indenture/utf.rows", laid_indenture_utf_rows)], narrowed := true }
def UtfStepsUptoSaid : Prop := utfStepsUptoRow.holds Tryd.pinned (OpenSpec.upto utfStepsSpec)

/-- 'indenturelaw02.RopeNil', WHERE WHAT IT READS IS OF BULK AT MOST 1048576: true; the input reads as it did. -/
def ropeNilUptoRow : OpenClaim := { program := "ytejipknbhiokeaadoor", sum := "d7318fe4ef5e0fd897f122c9c165cb40fe4f5b4bfa7b170f4c96552bcc71e7fb", func := "indenture/indenturelaw02.RopeNil", spec := "ropeNil", inPlace := ["internal/abi.NoEscape", "internal/bytealg.CountString", "internal/bytealg.IndexByteString", "internal/bytealg.IndexString"], unfollowed := true, recurses := true, named := ["internal/bytealg.MaxLen", "indenture/utf.rows"], apart := false, laid := [("indenture/utf.rows", laid_indenture_utf_rows)], narrowed := true }
def RopeNilUptoSaid : Prop := ropeNilUptoRow.holds Tryd.pinned (OpenSpec.upto ropeNilSpec)

/-- 'indenturelaw01.UtfWhole', WHERE WHAT IT READS IS OF BULK AT MOST 1048576: true; the input reads as it did. -/
def utfWholeUptoRow : OpenClaim := { program := "ytejipknbhiokeaadoor", sum := "d7318fe4ef5e0fd897f122c9c165cb40fe4f5b4bfa7b170f4c96552bcc71e7fb", func := "indenture/indenturelaw01.UtfWhole", spec := "utfWhole", unfollowed := true, recurses := true, named := ["indenture/utf.rows"], apart := false, laid := [("indenture/utf.rows", laid_indenture_utf_rows)], narrowed := true }
def UtfWholeUptoSaid : Prop := utfWholeUptoRow.holds Tryd.pinned (OpenSpec.upto utfWholeSpec)

/-- 'indenturelaw03.PlaceBack', WHERE WHAT IT READS IS OF BULK AT MOST 1048576: true; the input reads as it did. -/
def placeBackUptoRow : OpenClaim := { program := "ytejipknbhiokeaadoor", sum := "d7318fe4ef5e0fd897f122c9c165cb40fe4f5b4bfa7b170f4c96552bcc71e7fb", func := "indenture/indenturelaw03.PlaceBack", spec := "placeBack", inPlace := ["internal/bytealg.CountString", "internal/bytealg.IndexByteString", "internal/bytealg.IndexString", "internal/abi.NoEscape"], unfollowed := true, recurses := true, named := ["internal/bytealg.MaxLen", "indenture/utf.rows"], apart := false, laid := [("indenture/utf.rows", laid_indenture_utf_rows)], narrowed := true }
def PlaceBackUptoSaid : Prop := placeBackUptoRow.holds Tryd.pinned (OpenSpec.upto placeBackSpec)

/-- 'indenturelaw01.UtfJoins', WHERE WHAT IT READS IS OF BULK AT MOST 1048576: true; the input reads as it did. -/
def utfJoinsUptoRow : OpenClaim := { program := "ytejipknbhiokeaadoor", sum := "d7318fe4ef5e0fd897f122c9c165cb40fe4f5b4bfa7b170f4c96552bcc71e7fb", func := "indenture/indenturelaw01.UtfJoins", spec := "utfJoins", unfollowed := true, recurses := true, named := ["indenture/utf.rows"], apart := false, laid := [("indenture/utf.rows", laid_indenture_utf_rows)], narrowed := true }
def UtfJoinsUptoSaid : Prop := utfJoinsUptoRow.holds Tryd.pinned (OpenSpec.upto utfJoinsSpec)

/-- 'indenturelaw02.RopeFull', WHERE WHAT IT READS IS OF BULK AT MOST 1048576: true; the input reads as it did. -/
def ropeFullUptoRow : OpenClaim := { program := "ytejipknbhiokeaadoor", sum := "d7318fe4ef5e0fd897f122c9c165cb40fe4f5b4bfa7b170f4c96552bcc71e7fb", func := "indenture/indenturelaw02.RopeFull", spec := "ropeFull", inPlace := ["internal/bytealg.CountString", "internal/bytealg.IndexByteString", "internal/bytealg.IndexString", "internal/abi.NoEscape"], unfollowed := true, recurses := true, named := ["internal/bytealg.MaxLen", "indenture/utf.rows"], apart := false, laid := [("indenture/utf.rows", laid_indenture_utf_rows)], narrowed := true }
def RopeFullUptoSaid : Prop := ropeFullUptoRow.holds Tryd.pinned (OpenSpec.upto ropeFullSpec)

/-- 'indenturelaw02.RopeLines', WHERE WHAT IT READS IS OF BULK AT MOST 1048576: true; the input reads as it did. -/
def ropeLinesUptoRow : OpenClaim := { program := "ytejipknbhiokeaadoor", sum := "d7318fe4ef5e0fd897f122c9c165cb40fe4f5b4bfa7b170f4c96552bcc71e7fb", func := "indenture/indenturelaw02.RopeLines", spec := "ropeLines", inPlace := ["internal/bytealg.CountString", "internal/bytealg.IndexByteString", "internal/bytealg.IndexString", "internal/abi.NoEscape"], unfollowed := true, recurses := true, named := ["internal/bytealg.MaxLen", "indenture/utf.rows"], apart := false, laid := [("indenture/utf.rows", laid_indenture_utf_rows)], narrowed := true }
def RopeLinesUptoSaid : Prop := ropeLinesUptoRow.holds Tryd.pinned (OpenSpec.upto ropeLinesSpec)

/-- 'indenturelaw03.PlaceTells', WHERE WHAT IT READS IS OF BULK AT MOST 1048576: true; the input reads as it did. -/
def placeTellsUptoRow : OpenClaim := { program := "ytejipknbhiokeaadoor", sum := "d7318fe4ef5e0fd897f122c9c165cb40fe4f5b4bfa7b170f4c96552bcc71e7fb", func := "indenture/indenturelaw03.PlaceTells", spec := "placeTells", inPlace := ["internal/bytealg.CountString", "internal/bytealg.IndexByteString", "internal/bytealg.IndexString", "internal/abi.NoEscape"], unfollowed := true, recurses := true, named := ["internal/bytealg.MaxLen", "indenture/utf.rows"], apart := false, laid := [("indenture/utf.rows", laid_indenture_utf_rows)], narrowed := true }
def PlaceTellsUptoSaid : Prop := placeTellsUptoRow.holds Tryd.pinned (OpenSpec.upto placeTellsSpec)

/-- 'indenturelaw03.PlaceNil', WHERE WHAT IT READS IS OF BULK AT MOST 1048576: true; the input reads as it did. -/
def placeNilUptoRow : OpenClaim := { program := "ytejipknbhiokeaadoor", sum := "d7318fe4ef5e0fd897f122c9c165cb40fe4f5b4bfa7b170f4c96552bcc71e7fb", func := "indenture/indenturelaw03.PlaceNil", spec := "placeNil", inPlace := ["internal/bytealg.CountString", "internal/bytealg.IndexByteString", "internal/bytealg.IndexString", "internal/abi.NoEscape"], unfollowed := true, recurses := true, named := ["internal/bytealg.MaxLen", "indenture/utf.rows"], apart := false, laid := [("indenture/utf.rows", laid_indenture_utf_rows)], narrowed := true }
def PlaceNilUptoSaid : Prop := placeNilUptoRow.holds Tryd.pinned (OpenSpec.upto placeNilSpec)

/-- 'indenturelaw03.PlaceChars', WHERE WHAT IT READS IS OF BULK AT MOST 1048576: true; the input reads as it did. -/
def placeCharsUptoRow : OpenClaim := { program := "ytejipknbhiokeaadoor", sum := "d7318fe4ef5e0fd897f122c9c165cb40fe4f5b4bfa7b170f4c96552bcc71e7fb", func := "indenture/indenturelaw03.PlaceChars", spec := "placeChars", inPlace := ["internal/bytealg.CountString", "internal/bytealg.IndexByteString", "internal/bytealg.IndexString", "internal/abi.NoEscape"], unfollowed := true, recurses := true, named := ["internal/bytealg.MaxLen", "indenture/utf.rows"], apart := false, laid := [("indenture/utf.rows", laid_indenture_utf_rows)], narrowed := true }
def PlaceCharsUptoSaid : Prop := placeCharsUptoRow.holds Tryd.pinned (OpenSpec.upto placeCharsSpec)

/-- 'indenturelaw02.RopeOne', WHERE WHAT IT READS IS OF BULK AT MOST 1048576: true; the input reads as it did. -/
def ropeOneUptoRow : OpenClaim := { program := "ytejipknbhiokeaadoor", sum := "d7318fe4ef5e0fd897f122c9c165cb40fe4f5b4bfa7b170f4c96552bcc71e7fb", func := "indenture/indenturelaw02.RopeOne", spec := "ropeOne", inPlace := ["internal/bytealg.CountString", "internal/bytealg.IndexByteString", "internal/bytealg.IndexString", "internal/abi.NoEscape"], unfollowed := true, recurses := true, named := ["internal/bytealg.MaxLen", "indenture/utf.rows"], apart := false, laid := [("indenture/utf.rows", laid_indenture_utf_rows)], narrowed := true }
def RopeOneUptoSaid : Prop := ropeOneUptoRow.holds Tryd.pinned (OpenSpec.upto ropeOneSpec)

/-- 'indenturelaw02.RopeTells', WHERE WHAT IT READS IS OF BULK AT MOST 1048576: true; the input reads as it did. -/
def ropeTellsUptoRow : OpenClaim := { program := "ytejipknbhiokeaadoor", sum := "d7318fe4ef5e0fd897f122c9c165cb40fe4f5b4bfa7b170f4c96552bcc71e7fb", func := "indenture/indenturelaw02.RopeTells", spec := "ropeTells", inPlace := ["internal/bytealg.CountString", "internal/bytealg.IndexByteString", "internal/bytealg.IndexString", "internal/abi.NoEscape"], unfollowed := true, recurses := true, named := ["internal/bytealg.MaxLen", "indenture/utf.rows"], apart := false, laid := [("indenture/utf.rows", laid_indenture_utf_rows)], narrowed := true }
def RopeTellsUptoSaid : Prop := ropeTellsUptoRow.holds Tryd.pinned (OpenSpec.upto ropeTellsSpec)

/-- 'indenturelaw02.RopePlays', WHERE WHAT IT READS IS OF BULK AT MOST 1048576: true; the input reads as it did. -/
def ropePlaysUptoRow : OpenClaim := { program := "ytejipknbhiokeaadoor", sum := "d7318fe4ef5e0fd897f122c9c165cb40fe4f5b4bfa7b170f4c96552bcc71e7fb", func := "indenture/indenturelaw02.RopePlays", spec := "ropePlays", inPlace := ["internal/bytealg.CountString", "internal/bytealg.IndexByteString", "internal/bytealg.IndexString", "internal/abi.NoEscape"], unfollowed := true, recurses := true, named := ["internal/bytealg.MaxLen", "indenture/utf.rows"], apart := false, laid := [("indenture/utf.rows", laid_indenture_utf_rows)], narrowed := true }
def RopePlaysUptoSaid : Prop := ropePlaysUptoRow.holds Tryd.pinned (OpenSpec.upto ropePlaysSpec)

end Rows
end Go.Proofs.YtejipknbhiokeaaDoor
