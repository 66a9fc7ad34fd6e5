/-
  NARROWER THAN 'FOR EVERY INPUT', by the rows' own cells (each row's printed sentence says how): CountTwice: laid · BookKeeps: laid · BookOrder: laid.
  DERIVED. THE GIVEN ROWS OF THIS SEAT. 3 by the template 'for every input the law returns true; each argument reads behind the call as it read before'; 0 by the template 'total and deterministic' (their statements: YthnpemlmfekkgaaGreatDoorTotals.lean).
  GIVEN WITH THE SEED: the statements are not yours to turn. If you find one false, say at which input.
  Laid BY PROGRAM, IN A SANDBOX (cutbox-rows.mjs): the forced cells as the released guide's own fill.sh prints them over the translation 877f544ae719776b… (all of the seat's roots in one cut). By AI agents, Wed Nov 11 2026. No macro, syntax, notation, axiom, sorry.
-/
import Derived.Test.YthnpemlmfekkgaaGreatDoorChecked
import GoSem.PinnedTables
import GoSem.Claim
import GoSem.ClaimJoined
import GoSem.ClaimMapViews
import Derived.JoinedTies
import Derived.KernelRfl
namespace Go.Proofs.YthnpemlmfekkgaaGreatDoor
/- THE CELL 'sum', in the pinned program and in every row, IS THE sha256 OF THE DUMP (.gsa) THAT YthnpemlmfekkgaaGreatDoorProg.lean LOADS. Nothing in Lean hashes anything: it is a label: what it is worth is what the hold of that sum in a sandbox is worth. -/
noncomputable def Tryz.pinned : Pinned := { name := "ythnpemlmfekkgaagreatdoor", sum := "877f544ae719776bc796c7d157f2e26147eeb3df82f3604cafe4af21fe5ed7e4", checked := Tryz.checked }
namespace Rows
def none {H : Type} : Left H := { results := [], args := [] }

/- WHAT THE LISTED PACKAGE-LEVEL VARIABLES READ AS WHEN THE CALL BEGINS. Each datum BY PROGRAM (the guide's laid-datum.mjs) off the statement by which the dump's own 'gosem.cut.vars' lays the variable. In a bare row this is a premise. The card (YthnpemlmfekkgaaGreatDoorCards.lean) ties it to the program's text. -/
def laid_unicode_utf8_acceptRanges {H : Type} : DataW H := .agg [.agg [.lit (.int .u8 128), .lit (.int .u8 191)], .agg [.lit (.int .u8 160), .lit (.int .u8 191)], .agg [.lit (.int .u8 128), .lit (.int .u8 159)], .agg [.lit (.int .u8 144), .lit (.int .u8 191)], .agg [.lit (.int .u8 128), .lit (.int .u8 143)], .agg [.lit (.int .u8 0), .lit (.int .u8 0)], .agg [.lit (.int .u8 0), .lit (.int .u8 0)], .agg [.lit (.int .u8 0), .lit (.int .u8 0)], .agg [.lit (.int .u8 0), .lit (.int .u8 0)], .agg [.lit (.int .u8 0), .lit (.int .u8 0)], .agg [.lit (.int .u8 0), .lit (.int .u8 0)], .agg [.lit (.int .u8 0), .lit (.int .u8 0)], .agg [.lit (.int .u8 0), .lit (.int .u8 0)], .agg [.lit (.int .u8 0), .lit (.int .u8 0)], .agg [.lit (.int .u8 0), .lit (.int .u8 0)], .agg [.lit (.int .u8 0), .lit (.int .u8 0)]]
def laid_errors_errorType {H : Type} : DataW H := .iface "internal/reflectlite.rtype" (.agg [.ptr (.lit (.string [101, 114, 114, 111, 114]))])
def laid_tithebarn_api_ErrText {H : Type} : DataW H := .iface "*errors.errorString" (.ptr (.agg [.lit (.string [116, 105, 116, 104, 101, 98, 97, 114, 110, 58, 32, 116, 101, 120, 116])]))
def laid_tithebarn_api_ErrBound {H : Type} : DataW H := .iface "*errors.errorString" (.ptr (.agg [.lit (.string [116, 105, 116, 104, 101, 98, 97, 114, 110, 58, 32, 98, 111, 117, 110, 100])]))
def laid_tithebarn_api_ErrShape {H : Type} : DataW H := .iface "*errors.errorString" (.ptr (.agg [.lit (.string [116, 105, 116, 104, 101, 98, 97, 114, 110, 58, 32, 115, 104, 97, 112, 101])]))
def laid_tithebarn_api_ErrKind {H : Type} : DataW H := .iface "*errors.errorString" (.ptr (.agg [.lit (.string [116, 105, 116, 104, 101, 98, 97, 114, 110, 58, 32, 107, 105, 110, 100])]))
def laid_tithebarn_api_ErrName {H : Type} : DataW H := .iface "*errors.errorString" (.ptr (.agg [.lit (.string [116, 105, 116, 104, 101, 98, 97, 114, 110, 58, 32, 110, 97, 109, 101])]))
def laid_tithebarn_api_ErrNone {H : Type} : DataW H := .iface "*errors.errorString" (.ptr (.agg [.lit (.string [116, 105, 116, 104, 101, 98, 97, 114, 110, 58, 32, 110, 111, 110, 101])]))
def laid_tithebarn_api_ErrExist {H : Type} : DataW H := .iface "*errors.errorString" (.ptr (.agg [.lit (.string [116, 105, 116, 104, 101, 98, 97, 114, 110, 58, 32, 101, 120, 105, 115, 116])]))
def laid_tithebarn_api_ErrFull {H : Type} : DataW H := .iface "*errors.errorString" (.ptr (.agg [.lit (.string [116, 105, 116, 104, 101, 98, 97, 114, 110, 58, 32, 102, 117, 108, 108])]))
def laid_tithebarn_api_ErrShort {H : Type} : DataW H := .iface "*errors.errorString" (.ptr (.agg [.lit (.string [116, 105, 116, 104, 101, 98, 97, 114, 110, 58, 32, 115, 104, 111, 114, 116])]))
def laid_tithebarn_api_ErrOrder {H : Type} : DataW H := .iface "*errors.errorString" (.ptr (.agg [.lit (.string [116, 105, 116, 104, 101, 98, 97, 114, 110, 58, 32, 111, 114, 100, 101, 114])]))
def laid_tithebarn_api_ErrState {H : Type} : DataW H := .iface "*errors.errorString" (.ptr (.agg [.lit (.string [116, 105, 116, 104, 101, 98, 97, 114, 110, 58, 32, 115, 116, 97, 116, 101])]))
def laid_tithebarn_api_ErrOff {H : Type} : DataW H := .iface "*errors.errorString" (.ptr (.agg [.lit (.string [116, 105, 116, 104, 101, 98, 97, 114, 110, 58, 32, 111, 102, 102])]))
/-- One of Go's own tables, pinned by name: the form's constant. -/
def laid_unicode_utf8_first : DataW Unit := Go.Pinned.utf8First
def laid_math_bits_deBruijn32tab {H : Type} : DataW H := .agg [.lit (.int .u8 0), .lit (.int .u8 1), .lit (.int .u8 28), .lit (.int .u8 2), .lit (.int .u8 29), .lit (.int .u8 14), .lit (.int .u8 24), .lit (.int .u8 3), .lit (.int .u8 30), .lit (.int .u8 22), .lit (.int .u8 20), .lit (.int .u8 15), .lit (.int .u8 25), .lit (.int .u8 17), .lit (.int .u8 4), .lit (.int .u8 8), .lit (.int .u8 31), .lit (.int .u8 27), .lit (.int .u8 13), .lit (.int .u8 23), .lit (.int .u8 21), .lit (.int .u8 19), .lit (.int .u8 16), .lit (.int .u8 7), .lit (.int .u8 26), .lit (.int .u8 12), .lit (.int .u8 18), .lit (.int .u8 6), .lit (.int .u8 11), .lit (.int .u8 5), .lit (.int .u8 10), .lit (.int .u8 9)]
def laid_math_bits_deBruijn64tab {H : Type} : DataW H := .agg [.lit (.int .u8 0), .lit (.int .u8 1), .lit (.int .u8 56), .lit (.int .u8 2), .lit (.int .u8 57), .lit (.int .u8 49), .lit (.int .u8 28), .lit (.int .u8 3), .lit (.int .u8 61), .lit (.int .u8 58), .lit (.int .u8 42), .lit (.int .u8 50), .lit (.int .u8 38), .lit (.int .u8 29), .lit (.int .u8 17), .lit (.int .u8 4), .lit (.int .u8 62), .lit (.int .u8 47), .lit (.int .u8 59), .lit (.int .u8 36), .lit (.int .u8 45), .lit (.int .u8 43), .lit (.int .u8 51), .lit (.int .u8 22), .lit (.int .u8 53), .lit (.int .u8 39), .lit (.int .u8 33), .lit (.int .u8 30), .lit (.int .u8 24), .lit (.int .u8 18), .lit (.int .u8 12), .lit (.int .u8 5), .lit (.int .u8 63), .lit (.int .u8 55), .lit (.int .u8 48), .lit (.int .u8 27), .lit (.int .u8 60), .lit (.int .u8 41), .lit (.int .u8 37), .lit (.int .u8 16), .lit (.int .u8 46), .lit (.int .u8 35), .lit (.int .u8 44), .lit (.int .u8 21), .lit (.int .u8 52), .lit (.int .u8 32), .lit (.int .u8 23), .lit (.int .u8 11), .lit (.int .u8 54), .lit (.int .u8 26), .lit (.int .u8 40), .lit (.int .u8 15), .lit (.int .u8 34), .lit (.int .u8 20), .lit (.int .u8 31), .lit (.int .u8 10), .lit (.int .u8 25), .lit (.int .u8 14), .lit (.int .u8 19), .lit (.int .u8 9), .lit (.int .u8 13), .lit (.int .u8 8), .lit (.int .u8 7), .lit (.int .u8 6)]
def laid_internal_strconv_uint64pow10 {H : Type} : DataW H := .agg [.lit (.int .u64 1), .lit (.int .u64 10), .lit (.int .u64 100), .lit (.int .u64 1000), .lit (.int .u64 10000), .lit (.int .u64 100000), .lit (.int .u64 1000000), .lit (.int .u64 10000000), .lit (.int .u64 100000000), .lit (.int .u64 1000000000), .lit (.int .u64 10000000000), .lit (.int .u64 100000000000), .lit (.int .u64 1000000000000), .lit (.int .u64 10000000000000), .lit (.int .u64 100000000000000), .lit (.int .u64 1000000000000000), .lit (.int .u64 10000000000000000), .lit (.int .u64 100000000000000000), .lit (.int .u64 1000000000000000000), .lit (.int .u64 10000000000000000000)]

/-- 'tithebarnlaw2.CountTwice': WHATEVER THE INPUT: true; the input reads as it did. -/
def countTwiceSpec : ChangeSpec := { name := "countTwice", fn := fun _ => fun
  | [d1, d2] => { results := [.lit (.bool true)], args := [d1, d2] }
  | _ => none }
def countTwiceRow : OpenClaim := { program := "ythnpemlmfekkgaagreatdoor", sum := "877f544ae719776bc796c7d157f2e26147eeb3df82f3604cafe4af21fe5ed7e4", func := "tithebarn/tithebarnlaw2.CountTwice", spec := "countTwice", inPlace := ["internal/bytealg.IndexByteString", "internal/bytealg.IndexString", "maps.clone", "internal/reflectlite.ValueOf", "(internal/reflectlite.Value).Type", "(internal/reflectlite.Value).IsNil", "internal/reflectlite.TypeOf", "(internal/reflectlite.Value).Elem", "(internal/reflectlite.Value).Set"], unfollowed := true, recurses := true, named := ["tithebarn/api.ErrName", "tithebarn/api.ErrBound", "tithebarn/api.ErrExist", "unicode/utf8.first", "unicode/utf8.acceptRanges", "internal/bytealg.MaxLen", "tithebarn/api.ErrKind", "tithebarn/api.ErrShape", "tithebarn/api.ErrFull", "tithebarn/api.ErrNone", "tithebarn/api.ErrShort", "tithebarn/api.ErrText", "tithebarn/api.ErrOrder", "tithebarn/api.ErrState", "tithebarn/api.ErrOff", "errors.errorType"], plainKeys := false, apart := false, laid := [("unicode/utf8.acceptRanges", laid_unicode_utf8_acceptRanges), ("errors.errorType", laid_errors_errorType), ("tithebarn/api.ErrText", laid_tithebarn_api_ErrText), ("tithebarn/api.ErrBound", laid_tithebarn_api_ErrBound), ("tithebarn/api.ErrShape", laid_tithebarn_api_ErrShape), ("tithebarn/api.ErrKind", laid_tithebarn_api_ErrKind), ("tithebarn/api.ErrName", laid_tithebarn_api_ErrName), ("tithebarn/api.ErrNone", laid_tithebarn_api_ErrNone), ("tithebarn/api.ErrExist", laid_tithebarn_api_ErrExist), ("tithebarn/api.ErrFull", laid_tithebarn_api_ErrFull), ("tithebarn/api.ErrShort", laid_tithebarn_api_ErrShort), ("tithebarn/api.ErrOrder", laid_tithebarn_api_ErrOrder), ("tithebarn/api.ErrState", laid_tithebarn_api_ErrState), ("tithebarn/api.ErrOff", laid_tithebarn_api_ErrOff), ("unicode/utf8.first", laid_unicode_utf8_first)] }
def CountTwiceSaid : Prop := countTwiceRow.holds Tryz.pinned (OpenSpec.ofChange countTwiceSpec)

/-- ITS FALSE NEIGHBOUR: 'it returns false'. Refute it at one input. -/
def countTwiceWrong : ChangeSpec := { name := "countTwice", fn := fun _ => fun
  | [d1, d2] => { results := [.lit (.bool false)], args := [d1, d2] }
  | _ => none }
def CountTwiceWrongFalsely : Prop := countTwiceRow.holds Tryz.pinned (OpenSpec.ofChange countTwiceWrong)

/-- 'tithebarnlaw2.BookKeeps': WHATEVER THE INPUT: true; the input reads as it did. -/
def bookKeepsSpec : ChangeSpec := { name := "bookKeeps", fn := fun _ => fun
  | [d] => { results := [.lit (.bool true)], args := [d] }
  | _ => none }
def bookKeepsRow : OpenClaim := { program := "ythnpemlmfekkgaagreatdoor", sum := "877f544ae719776bc796c7d157f2e26147eeb3df82f3604cafe4af21fe5ed7e4", func := "tithebarn/tithebarnlaw2.BookKeeps", spec := "bookKeeps", inPlace := ["internal/bytealg.IndexByteString", "internal/bytealg.IndexString", "maps.clone", "internal/bytealg.abigen_runtime_cmpstring", "internal/abi.NoEscape"], unfollowed := true, recurses := true, named := ["tithebarn/api.ErrKind", "tithebarn/api.ErrShape", "tithebarn/api.ErrName", "tithebarn/api.ErrBound", "unicode/utf8.first", "unicode/utf8.acceptRanges", "tithebarn/api.ErrExist", "tithebarn/api.ErrFull", "tithebarn/api.ErrNone", "tithebarn/api.ErrShort", "internal/strconv.uint64pow10", "math/bits.deBruijn32tab", "math/bits.deBruijn64tab", "internal/bytealg.MaxLen"], plainKeys := false, apart := false, laid := [("math/bits.deBruijn32tab", laid_math_bits_deBruijn32tab), ("math/bits.deBruijn64tab", laid_math_bits_deBruijn64tab), ("internal/strconv.uint64pow10", laid_internal_strconv_uint64pow10), ("unicode/utf8.acceptRanges", laid_unicode_utf8_acceptRanges), ("tithebarn/api.ErrBound", laid_tithebarn_api_ErrBound), ("tithebarn/api.ErrShape", laid_tithebarn_api_ErrShape), ("tithebarn/api.ErrKind", laid_tithebarn_api_ErrKind), ("tithebarn/api.ErrName", laid_tithebarn_api_ErrName), ("tithebarn/api.ErrNone", laid_tithebarn_api_ErrNone), ("tithebarn/api.ErrExist", laid_tithebarn_api_ErrExist), ("tithebarn/api.ErrFull", laid_tithebarn_api_ErrFull), ("tithebarn/api.ErrShort", laid_tithebarn_api_ErrShort), ("unicode/utf8.first", laid_unicode_utf8_first)] }
def BookKeepsSaid : Prop := bookKeepsRow.holds Tryz.pinned (OpenSpec.ofChange bookKeepsSpec)

/-- ITS FALSE NEIGHBOUR: 'it returns false'. Refute it at one input. -/
def bookKeepsWrong : ChangeSpec := { name := "bookKeeps", fn := fun _ => fun
  | [d] => { results := [.lit (.bool false)], args := [d] }
  | _ => none }
def BookKeepsWrongFalsely : Prop := bookKeepsRow.holds Tryz.pinned (OpenSpec.ofChange bookKeepsWrong)

/-- 'tithebarnlaw2.BookOrder': WHATEVER THE INPUT: true; the input reads as it did. -/
def bookOrderSpec : ChangeSpec := { name := "bookOrder", fn := fun _ => fun
  | [d1, d2] => { results := [.lit (.bool true)], args := [d1, d2] }
  | _ => none }
def bookOrderRow : OpenClaim := { program := "ythnpemlmfekkgaagreatdoor", sum := "877f544ae719776bc796c7d157f2e26147eeb3df82f3604cafe4af21fe5ed7e4", func := "tithebarn/tithebarnlaw2.BookOrder", spec := "bookOrder", inPlace := ["internal/bytealg.IndexByteString", "internal/bytealg.IndexString", "maps.clone", "internal/reflectlite.ValueOf", "(internal/reflectlite.Value).Type", "(internal/reflectlite.Value).IsNil", "internal/reflectlite.TypeOf", "(internal/reflectlite.Value).Elem", "(internal/reflectlite.Value).Set", "internal/bytealg.abigen_runtime_cmpstring", "internal/abi.NoEscape"], unfollowed := true, recurses := true, named := ["tithebarn/api.ErrKind", "tithebarn/api.ErrShape", "tithebarn/api.ErrName", "tithebarn/api.ErrBound", "unicode/utf8.first", "unicode/utf8.acceptRanges", "tithebarn/api.ErrExist", "tithebarn/api.ErrFull", "tithebarn/api.ErrNone", "tithebarn/api.ErrShort", "tithebarn/api.ErrText", "tithebarn/api.ErrOrder", "tithebarn/api.ErrState", "tithebarn/api.ErrOff", "errors.errorType", "internal/strconv.uint64pow10", "math/bits.deBruijn32tab", "math/bits.deBruijn64tab", "internal/bytealg.MaxLen"], plainKeys := false, apart := false, laid := [("math/bits.deBruijn32tab", laid_math_bits_deBruijn32tab), ("math/bits.deBruijn64tab", laid_math_bits_deBruijn64tab), ("internal/strconv.uint64pow10", laid_internal_strconv_uint64pow10), ("unicode/utf8.acceptRanges", laid_unicode_utf8_acceptRanges), ("errors.errorType", laid_errors_errorType), ("tithebarn/api.ErrText", laid_tithebarn_api_ErrText), ("tithebarn/api.ErrBound", laid_tithebarn_api_ErrBound), ("tithebarn/api.ErrShape", laid_tithebarn_api_ErrShape), ("tithebarn/api.ErrKind", laid_tithebarn_api_ErrKind), ("tithebarn/api.ErrName", laid_tithebarn_api_ErrName), ("tithebarn/api.ErrNone", laid_tithebarn_api_ErrNone), ("tithebarn/api.ErrExist", laid_tithebarn_api_ErrExist), ("tithebarn/api.ErrFull", laid_tithebarn_api_ErrFull), ("tithebarn/api.ErrShort", laid_tithebarn_api_ErrShort), ("tithebarn/api.ErrOrder", laid_tithebarn_api_ErrOrder), ("tithebarn/api.ErrState", laid_tithebarn_api_ErrState), ("tithebarn/api.ErrOff", laid_tithebarn_api_ErrOff), ("unicode/utf8.first", laid_unicode_utf8_first)] }
def BookOrderSaid : Prop := bookOrderRow.holds Tryz.pinned (OpenSpec.ofChange bookOrderSpec)

/-- ITS FALSE NEIGHBOUR: 'it returns false'. Refute it at one input. -/
def bookOrderWrong : ChangeSpec := { name := "bookOrder", fn := fun _ => fun
  | [d1, d2] => { results := [.lit (.bool false)], args := [d1, d2] }
  | _ => none }
def BookOrderWrongFalsely : Prop := bookOrderRow.holds Tryz.pinned (OpenSpec.ofChange bookOrderWrong)

/- THE SECOND FORM. 'bulk': how many values and letters a reading holds, each counted each time it is reached (what is shared counts as often as it is met; a slice's spare places count too). A statement '..UptoSaid' is the law's where the arguments, and the package variables that the reading takes, are together of bulk at most 1048576: NARROWER than '..Said'. Prove '..Said' where nothing that the law and all that it calls make is longer than what came in: it says more and counts as full. Else prove '..UptoSaid'. A law counts once. -/
mutual
def uptoBulk {H : Type} : DataW H → Nat
  | .lit (.string bytes) => bytes.length + 1
  | .lit _ => 1
  | .nil => 1
  | .ptr d => uptoBulk d + 1
  | .slice elems spare => uptoBulkAll elems + uptoBulkAll spare + 1
  | .agg parts => uptoBulkAll parts + 1
  | .iface _ d => uptoBulk d + 1
  | .map entries => uptoBulkEntries entries + 1
  | .held _ => 1
def uptoBulkAll {H : Type} : List (DataW H) → Nat
  | [] => 0
  | d :: r => uptoBulk d + uptoBulkAll r
def uptoBulkEntries {H : Type} : List (Lit × DataW H) → Nat
  | [] => 0
  | x :: r => uptoBulkEntry x + uptoBulkEntries r
def uptoBulkEntry {H : Type} : Lit × DataW H → Nat
  | (.string bytes, d) => bytes.length + uptoBulk d + 1
  | (_, d) => uptoBulk d + 1
 end
def uptoSmall : (H : Type) → List (DataW H) → Bool := fun _ ds => decide (uptoBulkAll ds ≤ 1048576)
def OpenSpec.upto (s : _root_.Go.ChangeSpec) : _root_.Go.OpenSpec := { _root_.Go.OpenSpec.ofChange s with cond := some uptoSmall }

/-- 'tithebarnlaw2.CountTwice', WHERE WHAT IT READS IS OF BULK AT MOST 1048576: true; the input reads as it did. -/
def countTwiceUptoRow : OpenClaim := { program := "ythnpemlmfekkgaagreatdoor", sum := "877f544ae719776bc796c7d157f2e26147eeb3df82f3604cafe4af21fe5ed7e4", func := "tithebarn/tithebarnlaw2.CountTwice", spec := "countTwice", inPlace := ["internal/bytealg.IndexByteString", "internal/bytealg.IndexString", "maps.clone", "internal/reflectlite.ValueOf", "(internal/reflectlite.Value).Type", "(internal/reflectlite.Value).IsNil", "internal/reflectlite.TypeOf", "(internal/reflectlite.Value).Elem", "(internal/reflectlite.Value).Set"], unfollowed := true, recurses := true, named := ["tithebarn/api.ErrName", "tithebarn/api.ErrBound", "tithebarn/api.ErrExist", "unicode/utf8.first", "unicode/utf8.acceptRanges", "internal/bytealg.MaxLen", "tithebarn/api.ErrKind", "tithebarn/api.ErrShape", "tithebarn/api.ErrFull", "tithebarn/api.ErrNone", "tithebarn/api.ErrShort", "tithebarn/api.ErrText", "tithebarn/api.ErrOrder", "tithebarn/api.ErrState", "tithebarn/api.ErrOff", "errors.errorType"], plainKeys := false, apart := false, laid := [("unicode/utf8.acceptRanges", laid_unicode_utf8_acceptRanges), ("errors.errorType", laid_errors_errorType), ("tithebarn/api.ErrText", laid_tithebarn_api_ErrText), ("tithebarn/api.ErrBound", laid_tithebarn_api_ErrBound), ("tithebarn/api.ErrShape", laid_tithebarn_api_ErrShape), ("tithebarn/api.ErrKind", laid_tithebarn_api_ErrKind), ("tithebarn/api.ErrName", laid_tithebarn_api_ErrName), ("tithebarn/api.ErrNone", laid_tithebarn_api_ErrNone), ("tithebarn/api.ErrExist", laid_tithebarn_api_ErrExist), ("tithebarn/api.ErrFull", laid_tithebarn_api_ErrFull), ("tithebarn/api.ErrShort", laid_tithebarn_api_ErrShort), ("tithebarn/api.ErrOrder", laid_tithebarn_api_ErrOrder), ("tithebarn/api.ErrState", laid_tithebarn_api_ErrState), ("tithebarn/api.ErrOff", laid_tithebarn_api_ErrOff), ("unicode/utf8.first", laid_unicode_utf8_first)], narrowed := true }
def CountTwiceUptoSaid : Prop := countTwiceUptoRow.holds Tryz.pinned (OpenSpec.upto countTwiceSpec)

/-- 'tithebarnlaw2.BookKeeps', WHERE WHAT IT READS IS OF BULK AT MOST 1048576: true; the input reads as it did. -/
def bookKeepsUptoRow : OpenClaim := { program := "ythnpemlmfekkgaagreatdoor", sum := "877f544ae719776bc796c7d157f2e26147eeb3df82f3604cafe4af21fe5ed7e4", func := "tithebarn/tithebarnlaw2.BookKeeps", spec := "bookKeeps", inPlace := ["internal/bytealg.IndexByteString", "internal/bytealg.IndexString", "maps.clone", "internal/bytealg.abigen_runtime_cmpstring", "internal/abi.NoEscape"], unfollowed := true, recurses := true, named := ["tithebarn/api.ErrKind", "tithebarn/api.ErrShape", "tithebarn/api.ErrName", "tithebarn/api.ErrBound", "unicode/utf8.first", "unicode/utf8.acceptRanges", "tithebarn/api.ErrExist", "tithebarn/api.ErrFull", "tithebarn/api.ErrNone", "tithebarn/api.ErrShort", "internal/strconv.uint64pow10", "math/bits.deBruijn32tab", "math/bits.deBruijn64tab", "internal/bytealg.MaxLen"], plainKeys := false, apart := false, laid := [("math/bits.deBruijn32tab", laid_math_bits_deBruijn32tab), ("math/bits.deBruijn64tab", laid_math_bits_deBruijn64tab), ("internal/strconv.uint64pow10", laid_internal_strconv_uint64pow10), ("unicode/utf8.acceptRanges", laid_unicode_utf8_acceptRanges), ("tithebarn/api.ErrBound", laid_tithebarn_api_ErrBound), ("tithebarn/api.ErrShape", laid_tithebarn_api_ErrShape), ("tithebarn/api.ErrKind", laid_tithebarn_api_ErrKind), ("tithebarn/api.ErrName", laid_tithebarn_api_ErrName), ("tithebarn/api.ErrNone", laid_tithebarn_api_ErrNone), ("tithebarn/api.ErrExist", laid_tithebarn_api_ErrExist), ("tithebarn/api.ErrFull", laid_tithebarn_api_ErrFull), ("tithebarn/api.ErrShort", laid_tithebarn_api_ErrShort), ("unicode/utf8.first", laid_unicode_utf8_first)], narrowed := true }
def BookKeepsUptoSaid : Prop := bookKeepsUptoRow.holds Tryz.pinned (OpenSpec.upto bookKeepsSpec)

/-- 'tithebarnlaw2.BookOrder', WHERE WHAT IT READS IS OF BULK AT MOST 1048576: true; the input reads as it did. -/
def bookOrderUptoRow : OpenClaim := { program := "ythnpemlmfekkgaagreatdoor", sum := "877f544ae719776bc796c7d157f2e26147eeb3df82f3604cafe4af21fe5ed7e4", func := "tithebarn/tithebarnlaw2.BookOrder", spec := "bookOrder", inPlace := ["internal/bytealg.IndexByteString", "internal/bytealg.IndexString", "maps.clone", "internal/reflectlite.ValueOf", "(internal/reflectlite.Value).Type", "(internal/reflectlite.Value).IsNil", "internal/reflectlite.TypeOf", "(internal/reflectlite.Value).Elem", "(internal/reflectlite.Value).Set", "internal/bytealg.abigen_runtime_cmpstring", "internal/abi.NoEscape"], unfollowed := true, recurses := true, named := ["tithebarn/api.ErrKind", "tithebarn/api.ErrShape", "tithebarn/api.ErrName", "tithebarn/api.ErrBound", "unicode/utf8.first", "unicode/utf8.acceptRanges", "tithebarn/api.ErrExist", "tithebarn/api.ErrFull", "tithebarn/api.ErrNone", "tithebarn/api.ErrShort", "tithebarn/api.ErrText", "tithebarn/api.ErrOrder", "tithebarn/api.ErrState", "tithebarn/api.ErrOff", "errors.errorType", "internal/strconv.uint64pow10", "math/bits.deBruijn32tab", "math/bits.deBruijn64tab", "internal/bytealg.MaxLen"], plainKeys := false, apart := false, laid := [("math/bits.deBruijn32tab", laid_math_bits_deBruijn32tab), ("math/bits.deBruijn64tab", laid_math_bits_deBruijn64tab), ("internal/strconv.uint64pow10", laid_internal_strconv_uint64pow10), ("unicode/utf8.acceptRanges", laid_unicode_utf8_acceptRanges), ("errors.errorType", laid_errors_errorType), ("tithebarn/api.ErrText", laid_tithebarn_api_ErrText), ("tithebarn/api.ErrBound", laid_tithebarn_api_ErrBound), ("tithebarn/api.ErrShape", laid_tithebarn_api_ErrShape), ("tithebarn/api.ErrKind", laid_tithebarn_api_ErrKind), ("tithebarn/api.ErrName", laid_tithebarn_api_ErrName), ("tithebarn/api.ErrNone", laid_tithebarn_api_ErrNone), ("tithebarn/api.ErrExist", laid_tithebarn_api_ErrExist), ("tithebarn/api.ErrFull", laid_tithebarn_api_ErrFull), ("tithebarn/api.ErrShort", laid_tithebarn_api_ErrShort), ("tithebarn/api.ErrOrder", laid_tithebarn_api_ErrOrder), ("tithebarn/api.ErrState", laid_tithebarn_api_ErrState), ("tithebarn/api.ErrOff", laid_tithebarn_api_ErrOff), ("unicode/utf8.first", laid_unicode_utf8_first)], narrowed := true }
def BookOrderUptoSaid : Prop := bookOrderUptoRow.holds Tryz.pinned (OpenSpec.upto bookOrderSpec)

end Rows
end Go.Proofs.YthnpemlmfekkgaaGreatDoor
