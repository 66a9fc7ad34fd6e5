/-
  DERIVED. GIVEN WITH THE SEED: THE PROGRAM's TIES (one call each: nine closed facts by the kernel) AND EACH ROW's TIE, after the 31st guide's Derived/Test/Toyas{Tie, Card}.lean. No idea stands in it: it is a product of the set-up. Laid BY PROGRAM, IN A SANDBOX (cutbox-door.mjs). By AI agents, Wed Nov 11 2026. No macro, syntax, notation, axiom, sorry.
-/
import Derived.Test.YtphgakobfegpcaaGreatDoorRows
import Derived.LaidByTextLater
import Derived.SevenTiedAt
import Derived.LaidSub
import Derived.LaidOnce
namespace Go.Proofs.YtphgakobfegpcaaGreatDoor
open Go
set_option maxRecDepth 100000
theorem seatTie1 : Tryz.prog.laidByTextLater [("math/bits.deBruijn32tab", Rows.laid_math_bits_deBruijn32tab), ("math/bits.deBruijn64tab", Rows.laid_math_bits_deBruijn64tab), ("internal/strconv.uint64pow10", Rows.laid_internal_strconv_uint64pow10), ("unicode/utf8.acceptRanges", Rows.laid_unicode_utf8_acceptRanges), ("errors.errorType", Rows.laid_errors_errorType), ("tithebarn/api.ErrText", Rows.laid_tithebarn_api_ErrText), ("tithebarn/api.ErrBound", Rows.laid_tithebarn_api_ErrBound), ("tithebarn/api.ErrShape", Rows.laid_tithebarn_api_ErrShape), ("tithebarn/api.ErrKind", Rows.laid_tithebarn_api_ErrKind), ("tithebarn/api.ErrName", Rows.laid_tithebarn_api_ErrName), ("tithebarn/api.ErrNone", Rows.laid_tithebarn_api_ErrNone), ("tithebarn/api.ErrExist", Rows.laid_tithebarn_api_ErrExist), ("tithebarn/api.ErrFull", Rows.laid_tithebarn_api_ErrFull), ("tithebarn/api.ErrShort", Rows.laid_tithebarn_api_ErrShort), ("tithebarn/api.ErrOrder", Rows.laid_tithebarn_api_ErrOrder), ("tithebarn/api.ErrState", Rows.laid_tithebarn_api_ErrState), ("tithebarn/api.ErrOff", Rows.laid_tithebarn_api_ErrOff)] [.data, .data, .data, .data, .handle, .sentinel, .sentinel, .sentinel, .sentinel, .sentinel, .sentinel, .sentinel, .sentinel, .sentinel, .sentinel, .sentinel, .sentinel] true :=
  Program.laidByTextLater_by_one 269 8 65 (by kernel_rfl) (by kernel_rfl) (by kernel_rfl) (by kernel_rfl) (by kernel_rfl) (by kernel_rfl) (fun _ _ => by kernel_rfl)
theorem pin_laid_unicode_utf8_first : Tryz.pinned.checked.prog.pinnedFits "unicode/utf8.first" = true := by kernel_rfl
theorem noOwnUnsafe : Tryz.pinned.checked.prog.headLifts.contains "ownunsafe" = false := by kernel_rfl
theorem fits1 : Tryz.pinned.checked.prog.listedFits [("math/bits.deBruijn32tab", Rows.laid_math_bits_deBruijn32tab), ("math/bits.deBruijn64tab", Rows.laid_math_bits_deBruijn64tab), ("internal/strconv.uint64pow10", Rows.laid_internal_strconv_uint64pow10), ("unicode/utf8.acceptRanges", Rows.laid_unicode_utf8_acceptRanges), ("errors.errorType", Rows.laid_errors_errorType), ("tithebarn/api.ErrText", Rows.laid_tithebarn_api_ErrText), ("tithebarn/api.ErrBound", Rows.laid_tithebarn_api_ErrBound), ("tithebarn/api.ErrShape", Rows.laid_tithebarn_api_ErrShape), ("tithebarn/api.ErrKind", Rows.laid_tithebarn_api_ErrKind), ("tithebarn/api.ErrName", Rows.laid_tithebarn_api_ErrName), ("tithebarn/api.ErrNone", Rows.laid_tithebarn_api_ErrNone), ("tithebarn/api.ErrExist", Rows.laid_tithebarn_api_ErrExist), ("tithebarn/api.ErrFull", Rows.laid_tithebarn_api_ErrFull), ("tithebarn/api.ErrShort", Rows.laid_tithebarn_api_ErrShort), ("tithebarn/api.ErrOrder", Rows.laid_tithebarn_api_ErrOrder), ("tithebarn/api.ErrState", Rows.laid_tithebarn_api_ErrState), ("tithebarn/api.ErrOff", Rows.laid_tithebarn_api_ErrOff), ("unicode/utf8.first", Rows.laid_unicode_utf8_first)] = true := by
  unfold Program.listedFits
  rw [noOwnUnsafe]
  kernel_rfl
theorem tie : Tryz.prog.laidByTextLater [("math/bits.deBruijn32tab", Rows.laid_math_bits_deBruijn32tab), ("math/bits.deBruijn64tab", Rows.laid_math_bits_deBruijn64tab), ("internal/strconv.uint64pow10", Rows.laid_internal_strconv_uint64pow10), ("unicode/utf8.acceptRanges", Rows.laid_unicode_utf8_acceptRanges), ("errors.errorType", Rows.laid_errors_errorType), ("tithebarn/api.ErrText", Rows.laid_tithebarn_api_ErrText), ("tithebarn/api.ErrBound", Rows.laid_tithebarn_api_ErrBound), ("tithebarn/api.ErrShape", Rows.laid_tithebarn_api_ErrShape), ("tithebarn/api.ErrKind", Rows.laid_tithebarn_api_ErrKind), ("tithebarn/api.ErrName", Rows.laid_tithebarn_api_ErrName), ("tithebarn/api.ErrNone", Rows.laid_tithebarn_api_ErrNone), ("tithebarn/api.ErrExist", Rows.laid_tithebarn_api_ErrExist), ("tithebarn/api.ErrFull", Rows.laid_tithebarn_api_ErrFull), ("tithebarn/api.ErrShort", Rows.laid_tithebarn_api_ErrShort), ("tithebarn/api.ErrOrder", Rows.laid_tithebarn_api_ErrOrder), ("tithebarn/api.ErrState", Rows.laid_tithebarn_api_ErrState), ("tithebarn/api.ErrOff", Rows.laid_tithebarn_api_ErrOff)] [.data, .data, .data, .data, .handle, .sentinel, .sentinel, .sentinel, .sentinel, .sentinel, .sentinel, .sentinel, .sentinel, .sentinel, .sentinel, .sentinel, .sentinel] true :=
  Program.laidByTextLater.sub seatTie1 ["math/bits.deBruijn32tab", "math/bits.deBruijn64tab", "internal/strconv.uint64pow10", "unicode/utf8.acceptRanges", "errors.errorType", "tithebarn/api.ErrText", "tithebarn/api.ErrBound", "tithebarn/api.ErrShape", "tithebarn/api.ErrKind", "tithebarn/api.ErrName", "tithebarn/api.ErrNone", "tithebarn/api.ErrExist", "tithebarn/api.ErrFull", "tithebarn/api.ErrShort", "tithebarn/api.ErrOrder", "tithebarn/api.ErrState", "tithebarn/api.ErrOff"] (by kernel_rfl) (by kernel_rfl)
theorem costOf_row_tie : Rows.costOfRow.laidByTextAt .later Tryz.pinned [.data, .data, .data, .data, .handle, .sentinel, .sentinel, .sentinel, .sentinel, .sentinel, .sentinel, .sentinel, .sentinel, .sentinel, .sentinel, .sentinel, .sentinel, .pinned] true :=
  OpenClaim.laidByTextAt_pinned rfl rfl tie rfl rfl rfl rfl (fun y hy _e => by
    simp only [Rows.costOfRow, List.zip_cons_cons, List.zip_nil_right, List.mem_cons, List.mem_nil_iff, or_false] at hy
    rcases hy with rfl | rfl | rfl | rfl | rfl | rfl | rfl | rfl | rfl | rfl | rfl | rfl | rfl | rfl | rfl | rfl | rfl | rfl
    · cases _e
    · cases _e
    · cases _e
    · cases _e
    · cases _e
    · cases _e
    · cases _e
    · cases _e
    · cases _e
    · cases _e
    · cases _e
    · cases _e
    · cases _e
    · cases _e
    · cases _e
    · cases _e
    · cases _e
    · exact ⟨pin_laid_unicode_utf8_first, by kernel_rfl⟩) fits1
theorem bookOrder_row_tie : Rows.bookOrderRow.laidByTextAt .later Tryz.pinned [.data, .data, .data, .data, .handle, .sentinel, .sentinel, .sentinel, .sentinel, .sentinel, .sentinel, .sentinel, .sentinel, .sentinel, .sentinel, .sentinel, .sentinel, .pinned] true :=
  OpenClaim.laidByTextAt_pinned rfl rfl tie rfl rfl rfl rfl (fun y hy _e => by
    simp only [Rows.bookOrderRow, List.zip_cons_cons, List.zip_nil_right, List.mem_cons, List.mem_nil_iff, or_false] at hy
    rcases hy with rfl | rfl | rfl | rfl | rfl | rfl | rfl | rfl | rfl | rfl | rfl | rfl | rfl | rfl | rfl | rfl | rfl | rfl
    · cases _e
    · cases _e
    · cases _e
    · cases _e
    · cases _e
    · cases _e
    · cases _e
    · cases _e
    · cases _e
    · cases _e
    · cases _e
    · cases _e
    · cases _e
    · cases _e
    · cases _e
    · cases _e
    · cases _e
    · exact ⟨pin_laid_unicode_utf8_first, by kernel_rfl⟩) fits1
theorem bookDoes_row_tie : Rows.bookDoesRow.laidByTextAt .later Tryz.pinned [.data, .data, .data, .data, .handle, .sentinel, .sentinel, .sentinel, .sentinel, .sentinel, .sentinel, .sentinel, .sentinel, .sentinel, .sentinel, .sentinel, .sentinel, .pinned] true :=
  OpenClaim.laidByTextAt_pinned rfl rfl tie rfl rfl rfl rfl (fun y hy _e => by
    simp only [Rows.bookDoesRow, List.zip_cons_cons, List.zip_nil_right, List.mem_cons, List.mem_nil_iff, or_false] at hy
    rcases hy with rfl | rfl | rfl | rfl | rfl | rfl | rfl | rfl | rfl | rfl | rfl | rfl | rfl | rfl | rfl | rfl | rfl | rfl
    · cases _e
    · cases _e
    · cases _e
    · cases _e
    · cases _e
    · cases _e
    · cases _e
    · cases _e
    · cases _e
    · cases _e
    · cases _e
    · cases _e
    · cases _e
    · cases _e
    · cases _e
    · cases _e
    · cases _e
    · exact ⟨pin_laid_unicode_utf8_first, by kernel_rfl⟩) fits1
theorem fits2 : Tryz.pinned.checked.prog.listedFits [("unicode/utf8.acceptRanges", Rows.laid_unicode_utf8_acceptRanges), ("errors.errorType", Rows.laid_errors_errorType), ("tithebarn/api.ErrText", Rows.laid_tithebarn_api_ErrText), ("tithebarn/api.ErrBound", Rows.laid_tithebarn_api_ErrBound), ("tithebarn/api.ErrShape", Rows.laid_tithebarn_api_ErrShape), ("tithebarn/api.ErrKind", Rows.laid_tithebarn_api_ErrKind), ("tithebarn/api.ErrName", Rows.laid_tithebarn_api_ErrName), ("tithebarn/api.ErrNone", Rows.laid_tithebarn_api_ErrNone), ("tithebarn/api.ErrExist", Rows.laid_tithebarn_api_ErrExist), ("tithebarn/api.ErrFull", Rows.laid_tithebarn_api_ErrFull), ("tithebarn/api.ErrShort", Rows.laid_tithebarn_api_ErrShort), ("tithebarn/api.ErrOrder", Rows.laid_tithebarn_api_ErrOrder), ("tithebarn/api.ErrState", Rows.laid_tithebarn_api_ErrState), ("tithebarn/api.ErrOff", Rows.laid_tithebarn_api_ErrOff), ("unicode/utf8.first", Rows.laid_unicode_utf8_first)] = true := by
  unfold Program.listedFits
  rw [noOwnUnsafe]
  kernel_rfl
theorem tie2 : Tryz.prog.laidByTextLater [("unicode/utf8.acceptRanges", Rows.laid_unicode_utf8_acceptRanges), ("errors.errorType", Rows.laid_errors_errorType), ("tithebarn/api.ErrText", Rows.laid_tithebarn_api_ErrText), ("tithebarn/api.ErrBound", Rows.laid_tithebarn_api_ErrBound), ("tithebarn/api.ErrShape", Rows.laid_tithebarn_api_ErrShape), ("tithebarn/api.ErrKind", Rows.laid_tithebarn_api_ErrKind), ("tithebarn/api.ErrName", Rows.laid_tithebarn_api_ErrName), ("tithebarn/api.ErrNone", Rows.laid_tithebarn_api_ErrNone), ("tithebarn/api.ErrExist", Rows.laid_tithebarn_api_ErrExist), ("tithebarn/api.ErrFull", Rows.laid_tithebarn_api_ErrFull), ("tithebarn/api.ErrShort", Rows.laid_tithebarn_api_ErrShort), ("tithebarn/api.ErrOrder", Rows.laid_tithebarn_api_ErrOrder), ("tithebarn/api.ErrState", Rows.laid_tithebarn_api_ErrState), ("tithebarn/api.ErrOff", Rows.laid_tithebarn_api_ErrOff)] [.data, .handle, .sentinel, .sentinel, .sentinel, .sentinel, .sentinel, .sentinel, .sentinel, .sentinel, .sentinel, .sentinel, .sentinel, .sentinel] true :=
  Program.laidByTextLater.sub seatTie1 ["unicode/utf8.acceptRanges", "errors.errorType", "tithebarn/api.ErrText", "tithebarn/api.ErrBound", "tithebarn/api.ErrShape", "tithebarn/api.ErrKind", "tithebarn/api.ErrName", "tithebarn/api.ErrNone", "tithebarn/api.ErrExist", "tithebarn/api.ErrFull", "tithebarn/api.ErrShort", "tithebarn/api.ErrOrder", "tithebarn/api.ErrState", "tithebarn/api.ErrOff"] (by kernel_rfl) (by kernel_rfl)
theorem countClasses_row_tie : Rows.countClassesRow.laidByTextAt .later Tryz.pinned [.data, .handle, .sentinel, .sentinel, .sentinel, .sentinel, .sentinel, .sentinel, .sentinel, .sentinel, .sentinel, .sentinel, .sentinel, .sentinel, .pinned] true :=
  OpenClaim.laidByTextAt_pinned rfl rfl tie2 rfl rfl rfl rfl (fun y hy _e => by
    simp only [Rows.countClassesRow, List.zip_cons_cons, List.zip_nil_right, List.mem_cons, List.mem_nil_iff, or_false] at hy
    rcases hy with rfl | rfl | rfl | rfl | rfl | rfl | rfl | rfl | rfl | rfl | rfl | rfl | rfl | rfl | rfl
    · cases _e
    · cases _e
    · cases _e
    · cases _e
    · cases _e
    · cases _e
    · cases _e
    · cases _e
    · cases _e
    · cases _e
    · cases _e
    · cases _e
    · cases _e
    · cases _e
    · exact ⟨pin_laid_unicode_utf8_first, by kernel_rfl⟩) fits2
theorem countDiffs_row_tie : Rows.countDiffsRow.laidByTextAt .later Tryz.pinned [.data, .handle, .sentinel, .sentinel, .sentinel, .sentinel, .sentinel, .sentinel, .sentinel, .sentinel, .sentinel, .sentinel, .sentinel, .sentinel, .pinned] true :=
  OpenClaim.laidByTextAt_pinned rfl rfl tie2 rfl rfl rfl rfl (fun y hy _e => by
    simp only [Rows.countDiffsRow, List.zip_cons_cons, List.zip_nil_right, List.mem_cons, List.mem_nil_iff, or_false] at hy
    rcases hy with rfl | rfl | rfl | rfl | rfl | rfl | rfl | rfl | rfl | rfl | rfl | rfl | rfl | rfl | rfl
    · cases _e
    · cases _e
    · cases _e
    · cases _e
    · cases _e
    · cases _e
    · cases _e
    · cases _e
    · cases _e
    · cases _e
    · cases _e
    · cases _e
    · cases _e
    · cases _e
    · exact ⟨pin_laid_unicode_utf8_first, by kernel_rfl⟩) fits2
theorem fits3 : Tryz.pinned.checked.prog.listedFits [("math/bits.deBruijn32tab", Rows.laid_math_bits_deBruijn32tab), ("math/bits.deBruijn64tab", Rows.laid_math_bits_deBruijn64tab), ("internal/strconv.uint64pow10", Rows.laid_internal_strconv_uint64pow10), ("unicode/utf8.acceptRanges", Rows.laid_unicode_utf8_acceptRanges), ("tithebarn/api.ErrBound", Rows.laid_tithebarn_api_ErrBound), ("tithebarn/api.ErrShape", Rows.laid_tithebarn_api_ErrShape), ("tithebarn/api.ErrKind", Rows.laid_tithebarn_api_ErrKind), ("tithebarn/api.ErrName", Rows.laid_tithebarn_api_ErrName), ("tithebarn/api.ErrNone", Rows.laid_tithebarn_api_ErrNone), ("tithebarn/api.ErrExist", Rows.laid_tithebarn_api_ErrExist), ("tithebarn/api.ErrFull", Rows.laid_tithebarn_api_ErrFull), ("tithebarn/api.ErrShort", Rows.laid_tithebarn_api_ErrShort), ("unicode/utf8.first", Rows.laid_unicode_utf8_first)] = true := by
  unfold Program.listedFits
  rw [noOwnUnsafe]
  kernel_rfl
theorem tie3 : Tryz.prog.laidByTextLater [("math/bits.deBruijn32tab", Rows.laid_math_bits_deBruijn32tab), ("math/bits.deBruijn64tab", Rows.laid_math_bits_deBruijn64tab), ("internal/strconv.uint64pow10", Rows.laid_internal_strconv_uint64pow10), ("unicode/utf8.acceptRanges", Rows.laid_unicode_utf8_acceptRanges), ("tithebarn/api.ErrBound", Rows.laid_tithebarn_api_ErrBound), ("tithebarn/api.ErrShape", Rows.laid_tithebarn_api_ErrShape), ("tithebarn/api.ErrKind", Rows.laid_tithebarn_api_ErrKind), ("tithebarn/api.ErrName", Rows.laid_tithebarn_api_ErrName), ("tithebarn/api.ErrNone", Rows.laid_tithebarn_api_ErrNone), ("tithebarn/api.ErrExist", Rows.laid_tithebarn_api_ErrExist), ("tithebarn/api.ErrFull", Rows.laid_tithebarn_api_ErrFull), ("tithebarn/api.ErrShort", Rows.laid_tithebarn_api_ErrShort)] [.data, .data, .data, .data, .sentinel, .sentinel, .sentinel, .sentinel, .sentinel, .sentinel, .sentinel, .sentinel] true :=
  Program.laidByTextLater.sub seatTie1 ["math/bits.deBruijn32tab", "math/bits.deBruijn64tab", "internal/strconv.uint64pow10", "unicode/utf8.acceptRanges", "tithebarn/api.ErrBound", "tithebarn/api.ErrShape", "tithebarn/api.ErrKind", "tithebarn/api.ErrName", "tithebarn/api.ErrNone", "tithebarn/api.ErrExist", "tithebarn/api.ErrFull", "tithebarn/api.ErrShort"] (by kernel_rfl) (by kernel_rfl)
theorem bookKeeps_row_tie : Rows.bookKeepsRow.laidByTextAt .later Tryz.pinned [.data, .data, .data, .data, .sentinel, .sentinel, .sentinel, .sentinel, .sentinel, .sentinel, .sentinel, .sentinel, .pinned] true :=
  OpenClaim.laidByTextAt_pinned rfl rfl tie3 rfl rfl rfl rfl (fun y hy _e => by
    simp only [Rows.bookKeepsRow, List.zip_cons_cons, List.zip_nil_right, List.mem_cons, List.mem_nil_iff, or_false] at hy
    rcases hy with rfl | rfl | rfl | rfl | rfl | rfl | rfl | rfl | rfl | rfl | rfl | rfl | rfl
    · cases _e
    · cases _e
    · cases _e
    · cases _e
    · cases _e
    · cases _e
    · cases _e
    · cases _e
    · cases _e
    · cases _e
    · cases _e
    · cases _e
    · exact ⟨pin_laid_unicode_utf8_first, by kernel_rfl⟩) fits3
theorem costOfUpto_row_tie : Rows.costOfUptoRow.laidByTextAt .later Tryz.pinned [.data, .data, .data, .data, .handle, .sentinel, .sentinel, .sentinel, .sentinel, .sentinel, .sentinel, .sentinel, .sentinel, .sentinel, .sentinel, .sentinel, .sentinel, .pinned] true :=
  OpenClaim.laidByTextAt_pinned rfl rfl tie rfl rfl rfl rfl (fun y hy _e => by
    simp only [Rows.costOfUptoRow, List.zip_cons_cons, List.zip_nil_right, List.mem_cons, List.mem_nil_iff, or_false] at hy
    rcases hy with rfl | rfl | rfl | rfl | rfl | rfl | rfl | rfl | rfl | rfl | rfl | rfl | rfl | rfl | rfl | rfl | rfl | rfl
    · cases _e
    · cases _e
    · cases _e
    · cases _e
    · cases _e
    · cases _e
    · cases _e
    · cases _e
    · cases _e
    · cases _e
    · cases _e
    · cases _e
    · cases _e
    · cases _e
    · cases _e
    · cases _e
    · cases _e
    · exact ⟨pin_laid_unicode_utf8_first, by kernel_rfl⟩) fits1
theorem countClassesUpto_row_tie : Rows.countClassesUptoRow.laidByTextAt .later Tryz.pinned [.data, .handle, .sentinel, .sentinel, .sentinel, .sentinel, .sentinel, .sentinel, .sentinel, .sentinel, .sentinel, .sentinel, .sentinel, .sentinel, .pinned] true :=
  OpenClaim.laidByTextAt_pinned rfl rfl tie2 rfl rfl rfl rfl (fun y hy _e => by
    simp only [Rows.countClassesUptoRow, List.zip_cons_cons, List.zip_nil_right, List.mem_cons, List.mem_nil_iff, or_false] at hy
    rcases hy with rfl | rfl | rfl | rfl | rfl | rfl | rfl | rfl | rfl | rfl | rfl | rfl | rfl | rfl | rfl
    · cases _e
    · cases _e
    · cases _e
    · cases _e
    · cases _e
    · cases _e
    · cases _e
    · cases _e
    · cases _e
    · cases _e
    · cases _e
    · cases _e
    · cases _e
    · cases _e
    · exact ⟨pin_laid_unicode_utf8_first, by kernel_rfl⟩) fits2
theorem countDiffsUpto_row_tie : Rows.countDiffsUptoRow.laidByTextAt .later Tryz.pinned [.data, .handle, .sentinel, .sentinel, .sentinel, .sentinel, .sentinel, .sentinel, .sentinel, .sentinel, .sentinel, .sentinel, .sentinel, .sentinel, .pinned] true :=
  OpenClaim.laidByTextAt_pinned rfl rfl tie2 rfl rfl rfl rfl (fun y hy _e => by
    simp only [Rows.countDiffsUptoRow, List.zip_cons_cons, List.zip_nil_right, List.mem_cons, List.mem_nil_iff, or_false] at hy
    rcases hy with rfl | rfl | rfl | rfl | rfl | rfl | rfl | rfl | rfl | rfl | rfl | rfl | rfl | rfl | rfl
    · cases _e
    · cases _e
    · cases _e
    · cases _e
    · cases _e
    · cases _e
    · cases _e
    · cases _e
    · cases _e
    · cases _e
    · cases _e
    · cases _e
    · cases _e
    · cases _e
    · exact ⟨pin_laid_unicode_utf8_first, by kernel_rfl⟩) fits2
theorem bookKeepsUpto_row_tie : Rows.bookKeepsUptoRow.laidByTextAt .later Tryz.pinned [.data, .data, .data, .data, .sentinel, .sentinel, .sentinel, .sentinel, .sentinel, .sentinel, .sentinel, .sentinel, .pinned] true :=
  OpenClaim.laidByTextAt_pinned rfl rfl tie3 rfl rfl rfl rfl (fun y hy _e => by
    simp only [Rows.bookKeepsUptoRow, List.zip_cons_cons, List.zip_nil_right, List.mem_cons, List.mem_nil_iff, or_false] at hy
    rcases hy with rfl | rfl | rfl | rfl | rfl | rfl | rfl | rfl | rfl | rfl | rfl | rfl | rfl
    · cases _e
    · cases _e
    · cases _e
    · cases _e
    · cases _e
    · cases _e
    · cases _e
    · cases _e
    · cases _e
    · cases _e
    · cases _e
    · cases _e
    · exact ⟨pin_laid_unicode_utf8_first, by kernel_rfl⟩) fits3
theorem bookOrderUpto_row_tie : Rows.bookOrderUptoRow.laidByTextAt .later Tryz.pinned [.data, .data, .data, .data, .handle, .sentinel, .sentinel, .sentinel, .sentinel, .sentinel, .sentinel, .sentinel, .sentinel, .sentinel, .sentinel, .sentinel, .sentinel, .pinned] true :=
  OpenClaim.laidByTextAt_pinned rfl rfl tie rfl rfl rfl rfl (fun y hy _e => by
    simp only [Rows.bookOrderUptoRow, List.zip_cons_cons, List.zip_nil_right, List.mem_cons, List.mem_nil_iff, or_false] at hy
    rcases hy with rfl | rfl | rfl | rfl | rfl | rfl | rfl | rfl | rfl | rfl | rfl | rfl | rfl | rfl | rfl | rfl | rfl | rfl
    · cases _e
    · cases _e
    · cases _e
    · cases _e
    · cases _e
    · cases _e
    · cases _e
    · cases _e
    · cases _e
    · cases _e
    · cases _e
    · cases _e
    · cases _e
    · cases _e
    · cases _e
    · cases _e
    · cases _e
    · exact ⟨pin_laid_unicode_utf8_first, by kernel_rfl⟩) fits1
theorem bookDoesUpto_row_tie : Rows.bookDoesUptoRow.laidByTextAt .later Tryz.pinned [.data, .data, .data, .data, .handle, .sentinel, .sentinel, .sentinel, .sentinel, .sentinel, .sentinel, .sentinel, .sentinel, .sentinel, .sentinel, .sentinel, .sentinel, .pinned] true :=
  OpenClaim.laidByTextAt_pinned rfl rfl tie rfl rfl rfl rfl (fun y hy _e => by
    simp only [Rows.bookDoesUptoRow, List.zip_cons_cons, List.zip_nil_right, List.mem_cons, List.mem_nil_iff, or_false] at hy
    rcases hy with rfl | rfl | rfl | rfl | rfl | rfl | rfl | rfl | rfl | rfl | rfl | rfl | rfl | rfl | rfl | rfl | rfl | rfl
    · cases _e
    · cases _e
    · cases _e
    · cases _e
    · cases _e
    · cases _e
    · cases _e
    · cases _e
    · cases _e
    · cases _e
    · cases _e
    · cases _e
    · cases _e
    · cases _e
    · cases _e
    · cases _e
    · cases _e
    · exact ⟨pin_laid_unicode_utf8_first, by kernel_rfl⟩) fits1
end Go.Proofs.YtphgakobfegpcaaGreatDoor
