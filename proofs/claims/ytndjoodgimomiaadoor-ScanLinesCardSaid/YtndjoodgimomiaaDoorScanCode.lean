/- The code that the proof walks, as instructions; printed by Mprint. -/
import Derived.Test.YtndjoodgimomiaaDoorFw19
import Derived.Test.YtndjoodgimomiaaDoorProg
namespace Cr
open Go Go.RowKit
def y_ : TypeId := 0
def y_func : TypeId := 1
def y_int64 : TypeId := 2
def y_int : TypeId := 3
def y_bool : TypeId := 4
def y_uint8 : TypeId := 5
def y_abi_BoundsErrorCode : TypeId := 6
def y_struct_x_int64_y_int_signed_bool_code_abi_BoundsErrorCode : TypeId := 7
def y_runtime_boundsError : TypeId := 8
def y_string : TypeId := 9
def y_runtime_errorString : TypeId := 10
def y_runtime_plainError : TypeId := 11
def y_uintptr : TypeId := 12
def y_struct_msg_string_addr_uintptr : TypeId := 13
def y_runtime_errorAddressString : TypeId := 14
def y_ptr_runtime_TypeAssertionError : TypeId := 15
def y_ptr_runtime_PanicNilError : TypeId := 16
def y_ptr_abi_Type : TypeId := 17
def y_struct_typ_ptr_abi_Type : TypeId := 18
def y_maps_unhashableTypeError : TypeId := 19
def y_empty : TypeId := 20
def y_int32 : TypeId := 21
def y_sl_string : TypeId := 22
def y_func_string_sl_string : TypeId := 23
def y_func_sl_string_sl_string_bool : TypeId := 24
def y_func_string_string : TypeId := 25
def y_func_bool : TypeId := 26
def y_func_string_bool : TypeId := 27
def y_func_func_string_bool : TypeId := 28
def y_iter_Seq_string : TypeId := 29
def y_func_string_iter_Seq_string : TypeId := 30
def y_string_bool : TypeId := 31
def y_func_string_string_string_bool : TypeId := 32
def y_func_string_string_string : TypeId := 33
def y_sl_api_Token : TypeId := 34
def y_api_Errno : TypeId := 35
def y_sl_api_Token_int_api_Errno : TypeId := 36
def y_func_string_sl_api_Token_int_api_Errno : TypeId := 37
def y_struct_Kind_int_Text_string_Col_int : TypeId := 38
def y_api_Token : TypeId := 39
def y_func_var_api_Token_string : TypeId := 40
def y_func_string_uint8_int : TypeId := 41
def y_func_string_uint8_string : TypeId := 42
def y_256_bool : TypeId := 43
def y_strings_asciiSet : TypeId := 44
def y_strings_asciiSet_bool : TypeId := 45
def y_func_string_strings_asciiSet_bool : TypeId := 46
def y_func_string_ptr_strings_asciiSet_string : TypeId := 47
def y_ptr_strings_asciiSet : TypeId := 48
def y_string_string_bool : TypeId := 49
def y_func_string_string_string_string_bool : TypeId := 50
def y_func_string_int_api_Token : TypeId := 51
def y_ptr_strings_Builder : TypeId := 52
def y_sl_uint8 : TypeId := 53
def y_struct_addr_ptr_strings_Builder_buf_sl_uint8 : TypeId := 54
def y_strings_Builder : TypeId := 55
def y_interface_Error_string : TypeId := 56
def y_error : TypeId := 57
def y_int_error : TypeId := 58
def y_func_string_int_error : TypeId := 59
def y_func_string : TypeId := 60
def y_func_string_string_bool : TypeId := 61
def y_func_uint8_bool : TypeId := 62
def y_int32_int : TypeId := 63
def y_func_string_int32_int : TypeId := 64
def y_func_string_int32_bool : TypeId := 65
def y_func_string_int_int : TypeId := 66
def y_ptr_uint8 : TypeId := 67
def y_func_string_int32_int_68 : TypeId := 68
def y_func_string_string_int : TypeId := 69
def y_unsafe_Pointer : TypeId := 70
def y_func_unsafe_Pointer_unsafe_Pointer : TypeId := 71
def y_256_uint8 : TypeId := 72
def y_uint : TypeId := 73
def y_struct_lo_uint8_hi_uint8 : TypeId := 74
def y_utf8_acceptRange : TypeId := 75
def y_16_utf8_acceptRange : TypeId := 76
def y_func_int32_bool : TypeId := 77
def y_func_int_int : TypeId := 78
def y_func_string_func_uint8_bool_bool : TypeId := 79
def y_uint32 : TypeId := 80
def y_uint32_uint32 : TypeId := 81
def y_func_string_uint32_uint32 : TypeId := 82
def y_func_uint8_uint8_uint8_bool : TypeId := 83
def y_struct_interface_ptr_abi_Type_concrete_ptr_abi_Type_asserted_ptr_abi_Type_missingMethod_string : TypeId := 84
def y_runtime_TypeAssertionError : TypeId := 85
def y_0_ptr_runtime_PanicNilError : TypeId := 86
def y_struct_0_ptr_runtime_PanicNilError : TypeId := 87
def y_runtime_PanicNilError : TypeId := 88
def y_func_int : TypeId := 89
def y_abi_TFlag : TypeId := 90
def y_abi_Kind : TypeId := 91
def y_func_unsafe_Pointer_unsafe_Pointer_bool : TypeId := 92
def y_abi_NameOff : TypeId := 93
def y_abi_TypeOff : TypeId := 94
def y_struct_Size_uintptr_PtrBytes_uintptr_Hash_uint32_TFlag_abi_TFlag_Align_uint8_FieldAlign_uint8_Kind_abi_Kind_Equal_func_unsafe_Pointer_unsafe_Pointer_bool_GCData_ptr_uint8_Str_abi_NameOff_PtrToThis_abi_TypeOff : TypeId := 95
def y_abi_Type : TypeId := 96
def n_gosem_cut_init : Nat := 2
def n_law02_ScanLines : Nat := 3
def n_scan_Lines : Nat := 4
def n_ref01_Same : Nat := 5
def n_ref02_Lines : Nat := 6
def n_scan_Trim : Nat := 7
def n_ref02_Trim : Nat := 8
def n_law02_lives : Nat := 9
def n_strings_Lines : Nat := 10
def n_strings_CutSuffix : Nat := 11
def n_strings_Trim : Nat := 12
def n_scan_bare : Nat := 13
def n_ref02_Bare : Nat := 14
def n_scan_Tokens : Nat := 15
def n_scan_Print : Nat := 16
def n_strings_Lines_1 : Nat := 17
def n_strings_IndexByte : Nat := 18
def n_internal_stringslite_CutSuffix : Nat := 19
def n_strings_trimLeftByte : Nat := 20
def n_strings_trimRightByte : Nat := 21
def n_strings_makeASCIISet : Nat := 22
def n_strings_trimLeftASCII : Nat := 23
def n_strings_trimRightASCII : Nat := 24
def n_strings_trimLeftUnicode : Nat := 25
def n_strings_trimRightUnicode : Nat := 26
def n_strings_Cut : Nat := 27
def n_scan_one : Nat := 28
def n_strings_Builder_WriteString : Nat := 29
def n_strings_Builder_String : Nat := 30
def n_internal_stringslite_IndexByte : Nat := 31
def n_internal_stringslite_HasSuffix : Nat := 32
def n_strings_asciiSet_contains : Nat := 33
def n_unicode_utf8_DecodeRuneInString : Nat := 34
def n_strings_ContainsRune : Nat := 35
def n_unicode_utf8_DecodeLastRuneInString : Nat := 36
def n_internal_stringslite_Cut : Nat := 37
def n_strings_HasPrefix : Nat := 38
def n_scan_word : Nat := 39
def n_strings_Builder_copyCheck : Nat := 40
def n_internal_bytealg_IndexByteString : Nat := 41
def n_unicode_utf8_decodeRuneInStringSlow : Nat := 42
def n_strings_IndexRune : Nat := 43
def n_unicode_utf8_RuneStart : Nat := 44
def n_internal_stringslite_Index : Nat := 45
def n_internal_stringslite_HasPrefix : Nat := 46
def n_names_IsPrin : Nat := 47
def n_internal_abi_NoEscape : Nat := 48
def n_unicode_utf8_ValidRune : Nat := 49
def n_internal_bytealg_Cutover : Nat := 50
def n_internal_bytealg_IndexString : Nat := 51
def n_internal_bytealg_IndexRabinKarp_string : Nat := 52
def n_names_is : Nat := 53
def n_names_capital : Nat := 54
def n_internal_bytealg_hashStr_string : Nat := 55
def n_names_small : Nat := 56
def n_names_digit : Nat := 57
def n_names_between : Nat := 58
def n_gosem_cut_vars : Nat := 80
def m_law02_ScanLinesL1 : MCode :=
(.seq (.reg [⟨some 22, .bin .lss [] (.t 21) (.t 20), none⟩])
  (.seq (.cond (.t 22) .skip
  (.exit 0))
  (.seq (.block 1 (.seq (.reg [⟨some 23, .iadr 1 (.t 19) (.t 21), none⟩, ⟨some 24, .load false 1 (.t 23), none⟩, ⟨some 6, .mv (.t 24), none⟩])
  (.seq (.seq (.reg [⟨some 25, .mv (.t 6), none⟩, ⟨some 26, .call false (.c (.fnv n_scan_Trim)) [(.t 25)], none⟩, ⟨some 27, .mv (.t 6), none⟩, ⟨some 28, .call false (.c (.fnv n_ref02_Trim)) [(.t 27)], none⟩, ⟨some 29, .bin .neq [] (.t 26) (.t 28), none⟩])
  (.cond (.t 29) (.seq (.reg [⟨some 2, .mv (.c (.bool false)), none⟩])
  .ret)
  .skip))
  (.reg [⟨some 30, .mv (.t 4), none⟩, ⟨some 31, .mv (.t 6), none⟩, ⟨some 32, .bin .add [] (.t 31) (.c (.str [10])), none⟩, ⟨some 33, .bin .add [] (.t 30) (.t 32), none⟩, ⟨some 4, .mv (.t 33), none⟩]))))
  (.reg [⟨some 34, .bin .add [] (.t 21) (.c (.int .i64 1)), none⟩, ⟨some 21, .mv (.t 34), none⟩]))))
def m_law02_ScanLines : MCode :=
(.seq (.reg [⟨some 2, .mv (.c (.bool false)), none⟩])
  (.seq (.reg [⟨some 7, .mv (.t 0), none⟩, ⟨some 8, .mv (.t 0), none⟩, ⟨some 9, .len true (.t 8), none⟩, ⟨some 10, .minmax false [(.t 9), (.c (.int .i64 1000))], none⟩, ⟨some 11, .slc true 0 (.t 7) none (some (.t 10)) none, none⟩, ⟨some 0, .mv (.t 11), none⟩])
  (.seq (.reg [⟨some 12, .mv (.t 0), none⟩, ⟨some 13, .call false (.c (.fnv n_scan_Lines)) [(.t 12)], none⟩, ⟨some 3, .mv (.t 13), none⟩])
  (.seq (.seq (.reg [⟨some 14, .mv (.t 3), none⟩, ⟨some 15, .mv (.t 0), none⟩, ⟨some 16, .call false (.c (.fnv n_ref02_Lines)) [(.t 15)], none⟩, ⟨some 17, .call false (.c (.fnv n_ref01_Same)) [(.t 14), (.t 16)], none⟩, ⟨some 18, .not (.t 17), none⟩])
  (.cond (.t 18) (.seq (.reg [⟨some 2, .mv (.c (.bool false)), none⟩])
  .ret)
  .skip))
  (.seq (.reg [⟨some 4, .mv (.c (.str [])), none⟩])
  (.seq (.seq (.reg [⟨some 19, .mv (.t 3), none⟩, ⟨some 20, .len false (.t 19), none⟩, ⟨some 21, .mv (.c (.int .i64 0)), none⟩])
  (.block 0 (.loop m_law02_ScanLinesL1)))
  (.seq (.reg [⟨some 35, .mv (.t 4), none⟩, ⟨some 36, .mv (.t 0), none⟩, ⟨some 37, .bin .eql [] (.t 35) (.t 36), none⟩, ⟨some 38, .mv (.t 37), none⟩, ⟨some 39, .mv (.t 4), some (38, false)⟩, ⟨some 40, .mv (.t 0), some (38, false)⟩, ⟨some 41, .bin .add [] (.t 40) (.c (.str [10])), some (38, false)⟩, ⟨some 42, .bin .eql [] (.t 39) (.t 41), some (38, false)⟩, ⟨some 43, .pick (.t 38) (.c (.bool true)) (.t 42), none⟩, ⟨some 44, .mv (.t 43), none⟩, ⟨some 45, .mv (.t 0), some (44, false)⟩, ⟨some 46, .bin .eql [] (.t 45) (.c (.str [])), some (44, false)⟩, ⟨some 47, .pick (.t 44) (.c (.bool true)) (.t 46), none⟩, ⟨some 48, .mv (.t 47), none⟩, ⟨some 49, .call false (.c (.fnv n_law02_lives)) [], some (48, true)⟩, ⟨some 50, .pick (.t 48) (.t 49) (.c (.bool false)), none⟩, ⟨some 2, .mv (.t 50), none⟩])
  .ret)))))))
theorem c_law02_ScanLines : cFn Go.Proofs.Tryd.prog Go.Proofs.Tryd.f3 = some (51, m_law02_ScanLines, [.tmp 2]) := by kernel_rfl
theorem e_law02_ScanLines : Go.Proofs.Tryd.prog.funcs[n_law02_ScanLines]? = some Go.Proofs.Tryd.f3 := Go.Proofs.Tryd.func3
def m_scan_LinesA1 : MCode :=
(.reg [⟨some 3, .mv (.t 8), none⟩])
def m_scan_LinesB2 : MCode :=
(.block 1 (.seq (.reg [⟨some 10, .mv (.t 3), none⟩, ⟨some 11, .call false (.c (.fnv n_strings_CutSuffix)) [(.t 10), (.c (.str [10]))], none⟩, ⟨some 9, .mv (.t 11), none⟩, ⟨some 12, .ext (.t 9) 0, none⟩, ⟨some 13, .ext (.t 9) 1, none⟩, ⟨some 4, .mv (.t 12), none⟩, ⟨some 5, .mv (.t 13), none⟩])
  (.reg [⟨some 14, .load false 1 (.t 2), none⟩, ⟨some 15, .mv (.t 4), none⟩, ⟨some 16, .bsl 1 (.str []) 1 [(0, (.t 15))], none⟩, ⟨some 17, .app y_string 1 16 (.t 14) (.t 16), none⟩, ⟨none, .store 1 (.t 2) (.t 17), none⟩])))
def m_scan_Lines : MCode :=
(.seq (.reg [⟨some 2, .zero y_sl_string [.sl (some 0) []], none⟩])
  (.seq (.seq (.reg [⟨some 6, .mv (.t 0), none⟩, ⟨some 7, .call false (.c (.fnv n_strings_Lines)) [(.t 6)], none⟩])
  (.block 0 (.range (.t 7) [8] m_scan_LinesA1 m_scan_LinesB2)))
  (.seq (.reg [⟨some 18, .load false 1 (.t 2), none⟩, ⟨none, .store 1 (.t 2) (.t 18), none⟩])
  .ret)))
theorem c_scan_Lines : cFn Go.Proofs.Tryd.prog Go.Proofs.Tryd.f4 = some (19, m_scan_Lines, [.cell 2 false 1]) := by kernel_rfl
theorem e_scan_Lines : Go.Proofs.Tryd.prog.funcs[n_scan_Lines]? = some Go.Proofs.Tryd.f4 := Go.Proofs.Tryd.func4
def m_ref01_SameL1 : MCode :=
(.seq (.reg [⟨some 14, .bin .lss [] (.t 13) (.t 12), none⟩])
  (.seq (.cond (.t 14) .skip
  (.exit 0))
  (.seq (.block 1 (.seq (.reg [⟨some 15, .mv (.t 13), none⟩, ⟨some 5, .mv (.t 15), none⟩])
  (.seq (.reg [⟨some 16, .mv (.t 0), none⟩, ⟨some 17, .mv (.t 5), none⟩, ⟨some 18, .iadr 1 (.t 16) (.t 17), none⟩, ⟨some 19, .load false 1 (.t 18), none⟩, ⟨some 20, .mv (.t 1), none⟩, ⟨some 21, .mv (.t 5), none⟩, ⟨some 22, .iadr 1 (.t 20) (.t 21), none⟩, ⟨some 23, .load false 1 (.t 22), none⟩, ⟨some 24, .bin .neq [] (.t 19) (.t 23), none⟩])
  (.cond (.t 24) (.seq (.reg [⟨some 4, .mv (.c (.bool false)), none⟩])
  .ret)
  .skip))))
  (.reg [⟨some 25, .bin .add [] (.t 13) (.c (.int .i64 1)), none⟩, ⟨some 13, .mv (.t 25), none⟩]))))
def m_ref01_Same : MCode :=
(.seq (.reg [⟨some 4, .mv (.c (.bool false)), none⟩])
  (.seq (.seq (.reg [⟨some 6, .mv (.t 0), none⟩, ⟨some 7, .len false (.t 6), none⟩, ⟨some 8, .mv (.t 1), none⟩, ⟨some 9, .len false (.t 8), none⟩, ⟨some 10, .bin .neq [] (.t 7) (.t 9), none⟩])
  (.cond (.t 10) (.seq (.reg [⟨some 4, .mv (.c (.bool false)), none⟩])
  .ret)
  .skip))
  (.seq (.seq (.reg [⟨some 11, .mv (.t 0), none⟩, ⟨some 12, .len false (.t 11), none⟩, ⟨some 13, .mv (.c (.int .i64 0)), none⟩])
  (.block 0 (.loop m_ref01_SameL1)))
  (.seq (.reg [⟨some 4, .mv (.c (.bool true)), none⟩])
  .ret))))
theorem c_ref01_Same : cFn Go.Proofs.Tryd.prog Go.Proofs.Tryd.f5 = some (26, m_ref01_Same, [.tmp 4]) := by kernel_rfl
theorem e_ref01_Same : Go.Proofs.Tryd.prog.funcs[n_ref01_Same]? = some Go.Proofs.Tryd.f5 := Go.Proofs.Tryd.func5
def m_ref02_LinesL1 : MCode :=
(.seq (.seq (.reg [⟨some 6, .mv (.t 5), none⟩, ⟨some 7, .mv (.t 0), none⟩, ⟨some 8, .len true (.t 7), none⟩, ⟨some 9, .bin .lss [] (.t 6) (.t 8), none⟩])
  (.cond (.t 9) .skip
  (.exit 0)))
  (.seq (.block 1 (.seq (.reg [⟨some 12, .mv (.t 0), none⟩, ⟨some 13, .mv (.t 5), none⟩, ⟨some 14, .idx (.t 12) (.t 13), none⟩, ⟨some 15, .bin .eql [] (.t 14) (.c (.int .u8 10)), none⟩])
  (.cond (.t 15) (.seq (.reg [⟨some 16, .mv (.t 3), none⟩, ⟨some 17, .mv (.t 0), none⟩, ⟨some 18, .mv (.t 4), none⟩, ⟨some 19, .mv (.t 5), none⟩, ⟨some 20, .slc true 0 (.t 17) (some (.t 18)) (some (.t 19)) none, none⟩, ⟨some 21, .bsl 1 (.str []) 1 [(0, (.t 20))], none⟩, ⟨some 22, .app y_string 1 16 (.t 16) (.t 21), none⟩, ⟨some 3, .mv (.t 22), none⟩])
  (.reg [⟨some 23, .mv (.t 5), none⟩, ⟨some 24, .bin .add [] (.t 23) (.c (.int .i64 1)), none⟩, ⟨some 4, .mv (.t 24), none⟩]))
  .skip)))
  (.reg [⟨some 10, .mv (.t 5), none⟩, ⟨some 11, .bin .add [] (.t 10) (.c (.int .i64 1)), none⟩, ⟨some 5, .mv (.t 11), none⟩])))
def m_ref02_Lines : MCode :=
(.seq (.reg [⟨some 2, .mv (.c (.sl (some 0) [])), none⟩])
  (.seq (.reg [⟨some 3, .mv (.c (.sl (some 0) [])), none⟩])
  (.seq (.reg [⟨some 4, .mv (.c (.int .i64 0)), none⟩])
  (.seq (.seq (.reg [⟨some 5, .mv (.c (.int .i64 0)), none⟩])
  (.block 0 (.loop m_ref02_LinesL1)))
  (.seq (.seq (.reg [⟨some 25, .mv (.t 4), none⟩, ⟨some 26, .mv (.t 0), none⟩, ⟨some 27, .len true (.t 26), none⟩, ⟨some 28, .bin .lss [] (.t 25) (.t 27), none⟩])
  (.cond (.t 28) (.reg [⟨some 29, .mv (.t 3), none⟩, ⟨some 30, .mv (.t 0), none⟩, ⟨some 31, .mv (.t 4), none⟩, ⟨some 32, .slc true 0 (.t 30) (some (.t 31)) none none, none⟩, ⟨some 33, .bsl 1 (.str []) 1 [(0, (.t 32))], none⟩, ⟨some 34, .app y_string 1 16 (.t 29) (.t 33), none⟩, ⟨some 3, .mv (.t 34), none⟩])
  .skip))
  (.seq (.reg [⟨some 35, .mv (.t 3), none⟩, ⟨some 2, .mv (.t 35), none⟩])
  .ret))))))
theorem c_ref02_Lines : cFn Go.Proofs.Tryd.prog Go.Proofs.Tryd.f6 = some (36, m_ref02_Lines, [.tmp 2]) := by kernel_rfl
theorem e_ref02_Lines : Go.Proofs.Tryd.prog.funcs[n_ref02_Lines]? = some Go.Proofs.Tryd.f6 := Go.Proofs.Tryd.func6
def m_scan_Trim : MCode :=
(.seq (.reg [⟨some 2, .mv (.c (.str [])), none⟩])
  (.seq (.reg [⟨some 3, .mv (.t 0), none⟩, ⟨some 4, .call false (.c (.fnv n_scan_bare)) [(.t 3)], none⟩, ⟨some 5, .call false (.c (.fnv n_strings_Trim)) [(.t 4), (.c (.str [32]))], none⟩, ⟨some 2, .mv (.t 5), none⟩])
  .ret))
theorem c_scan_Trim : cFn Go.Proofs.Tryd.prog Go.Proofs.Tryd.f7 = some (6, m_scan_Trim, [.tmp 2]) := by kernel_rfl
theorem e_scan_Trim : Go.Proofs.Tryd.prog.funcs[n_scan_Trim]? = some Go.Proofs.Tryd.f7 := Go.Proofs.Tryd.func7
def m_ref02_TrimL1 : MCode :=
(.seq (.seq (.reg [⟨some 6, .mv (.t 3), none⟩, ⟨some 7, .len true (.t 6), none⟩, ⟨some 8, .bin .gtr [] (.t 7) (.c (.int .i64 0)), none⟩, ⟨some 9, .mv (.t 8), none⟩, ⟨some 10, .mv (.t 3), some (9, true)⟩, ⟨some 11, .idx (.t 10) (.c (.int .i64 0)), some (9, true)⟩, ⟨some 12, .bin .eql [] (.t 11) (.c (.int .u8 32)), some (9, true)⟩, ⟨some 13, .pick (.t 9) (.t 12) (.c (.bool false)), none⟩])
  (.cond (.t 13) .skip
  (.exit 0)))
  (.block 1 (.reg [⟨some 14, .mv (.t 3), none⟩, ⟨some 15, .slc true 0 (.t 14) (some (.c (.int .i64 1))) none none, none⟩, ⟨some 3, .mv (.t 15), none⟩])))
def m_ref02_TrimL2 : MCode :=
(.seq (.seq (.reg [⟨some 16, .mv (.t 3), none⟩, ⟨some 17, .len true (.t 16), none⟩, ⟨some 18, .bin .gtr [] (.t 17) (.c (.int .i64 0)), none⟩, ⟨some 19, .mv (.t 18), none⟩, ⟨some 20, .mv (.t 3), some (19, true)⟩, ⟨some 21, .mv (.t 3), some (19, true)⟩, ⟨some 22, .len true (.t 21), some (19, true)⟩, ⟨some 23, .bin .sub [] (.t 22) (.c (.int .i64 1)), some (19, true)⟩, ⟨some 24, .idx (.t 20) (.t 23), some (19, true)⟩, ⟨some 25, .bin .eql [] (.t 24) (.c (.int .u8 32)), some (19, true)⟩, ⟨some 26, .pick (.t 19) (.t 25) (.c (.bool false)), none⟩])
  (.cond (.t 26) .skip
  (.exit 2)))
  (.block 3 (.reg [⟨some 27, .mv (.t 3), none⟩, ⟨some 28, .mv (.t 3), none⟩, ⟨some 29, .len true (.t 28), none⟩, ⟨some 30, .bin .sub [] (.t 29) (.c (.int .i64 1)), none⟩, ⟨some 31, .slc true 0 (.t 27) none (some (.t 30)) none, none⟩, ⟨some 3, .mv (.t 31), none⟩])))
def m_ref02_Trim : MCode :=
(.seq (.reg [⟨some 2, .mv (.c (.str [])), none⟩])
  (.seq (.reg [⟨some 4, .mv (.t 0), none⟩, ⟨some 5, .call false (.c (.fnv n_ref02_Bare)) [(.t 4)], none⟩, ⟨some 3, .mv (.t 5), none⟩])
  (.seq (.block 0 (.loop m_ref02_TrimL1))
  (.seq (.block 2 (.loop m_ref02_TrimL2))
  (.seq (.reg [⟨some 32, .mv (.t 3), none⟩, ⟨some 2, .mv (.t 32), none⟩])
  .ret)))))
theorem c_ref02_Trim : cFn Go.Proofs.Tryd.prog Go.Proofs.Tryd.f8 = some (33, m_ref02_Trim, [.tmp 2]) := by kernel_rfl
theorem e_ref02_Trim : Go.Proofs.Tryd.prog.funcs[n_ref02_Trim]? = some Go.Proofs.Tryd.f8 := Go.Proofs.Tryd.func8
def m_law02_lives : MCode :=
(.seq (.reg [⟨some 0, .mv (.c (.bool false)), none⟩])
  (.seq (.reg [⟨some 5, .call false (.c (.fnv n_scan_Tokens)) [(.c (.str [65, 46, 114, 32, 60, 45, 32, 66, 32, 35, 32, 120]))], none⟩, ⟨some 4, .mv (.t 5), none⟩, ⟨some 6, .ext (.t 4) 0, none⟩, ⟨some 7, .ext (.t 4) 1, none⟩, ⟨some 8, .ext (.t 4) 2, none⟩, ⟨some 1, .mv (.t 6), none⟩, ⟨some 2, .mv (.t 7), none⟩, ⟨some 3, .mv (.t 8), none⟩])
  (.seq (.reg [⟨some 9, .mv (.t 3), none⟩, ⟨some 10, .bin .eql [] (.t 9) (.c (.int .i64 0)), none⟩, ⟨some 11, .mv (.t 10), none⟩, ⟨some 12, .mv (.t 1), some (11, true)⟩, ⟨some 13, .len false (.t 12), some (11, true)⟩, ⟨some 14, .bin .eql [] (.t 13) (.c (.int .i64 5)), some (11, true)⟩, ⟨some 15, .pick (.t 11) (.t 14) (.c (.bool false)), none⟩, ⟨some 16, .mv (.t 15), none⟩, ⟨some 17, .mv (.t 1), some (16, true)⟩, ⟨some 18, .iadr 3 (.t 17) (.c (.int .i64 3)), some (16, true)⟩, ⟨some 19, .fadr 2 (.t 18), some (16, true)⟩, ⟨some 20, .load false 1 (.t 19), some (16, true)⟩, ⟨some 21, .bin .eql [] (.t 20) (.c (.int .i64 5)), some (16, true)⟩, ⟨some 22, .pick (.t 16) (.t 21) (.c (.bool false)), none⟩, ⟨some 23, .mv (.t 22), none⟩, ⟨some 24, .mv (.t 1), some (23, true)⟩, ⟨some 25, .iadr 3 (.t 24) (.c (.int .i64 4)), some (23, true)⟩, ⟨some 26, .fadr 2 (.t 25), some (23, true)⟩, ⟨some 27, .load false 1 (.t 26), some (23, true)⟩, ⟨some 28, .bin .eql [] (.t 27) (.c (.int .i64 8)), some (23, true)⟩, ⟨some 29, .pick (.t 23) (.t 28) (.c (.bool false)), none⟩, ⟨some 30, .mv (.t 29), none⟩, ⟨some 31, .mv (.t 1), some (30, true)⟩, ⟨some 32, .iadr 3 (.t 31) (.c (.int .i64 3)), some (30, true)⟩, ⟨some 33, .fadr 0 (.t 32), some (30, true)⟩, ⟨some 34, .load false 1 (.t 33), some (30, true)⟩, ⟨some 35, .bin .eql [] (.t 34) (.c (.int .i64 4)), some (30, true)⟩, ⟨some 36, .pick (.t 30) (.t 35) (.c (.bool false)), none⟩, ⟨some 37, .mv (.t 36), none⟩, ⟨some 38, .mv (.t 1), some (37, true)⟩, ⟨some 39, .call false (.c (.fnv n_scan_Print)) [(.t 38)], some (37, true)⟩, ⟨some 40, .bin .eql [] (.t 39) (.c (.str [65, 46, 114, 32, 60, 45, 32, 66])), some (37, true)⟩, ⟨some 41, .pick (.t 37) (.t 40) (.c (.bool false)), none⟩, ⟨some 0, .mv (.t 41), none⟩])
  .ret)))
theorem c_law02_lives : cFn Go.Proofs.Tryd.prog Go.Proofs.Tryd.f9 = some (42, m_law02_lives, [.tmp 0]) := by kernel_rfl
theorem e_law02_lives : Go.Proofs.Tryd.prog.funcs[n_law02_lives]? = some Go.Proofs.Tryd.f9 := Go.Proofs.Tryd.func9
def m_strings_Lines : MCode :=
(.seq (.reg [⟨some 1, .box y_string (.t 0), none⟩, ⟨some 2, .mv (.c (.lit .nilFunc)), none⟩])
  (.seq (.reg [⟨some 3, .mkfn n_strings_Lines_1 [(.t 1)], none⟩, ⟨some 2, .mv (.t 3), none⟩])
  .ret))
theorem c_strings_Lines : cFn Go.Proofs.Tryd.prog Go.Proofs.Tryd.f10 = some (4, m_strings_Lines, [.tmp 2]) := by kernel_rfl
theorem e_strings_Lines : Go.Proofs.Tryd.prog.funcs[n_strings_Lines]? = some Go.Proofs.Tryd.f10 := Go.Proofs.Tryd.func10
def m_strings_CutSuffix : MCode :=
(.seq (.reg [⟨some 4, .mv (.c (.str [])), none⟩, ⟨some 5, .mv (.c (.bool false)), none⟩])
  (.seq (.reg [⟨some 6, .mv (.t 0), none⟩, ⟨some 7, .mv (.t 1), none⟩, ⟨some 8, .call false (.c (.fnv n_internal_stringslite_CutSuffix)) [(.t 6), (.t 7)], none⟩, ⟨some 9, .ext (.t 8) 0, none⟩, ⟨some 10, .ext (.t 8) 1, none⟩, ⟨some 4, .mv (.t 9), none⟩, ⟨some 5, .mv (.t 10), none⟩])
  .ret))
theorem c_strings_CutSuffix : cFn Go.Proofs.Tryd.prog Go.Proofs.Tryd.f11 = some (11, m_strings_CutSuffix, [.tmp 4, .tmp 5]) := by kernel_rfl
theorem e_strings_CutSuffix : Go.Proofs.Tryd.prog.funcs[n_strings_CutSuffix]? = some Go.Proofs.Tryd.f11 := Go.Proofs.Tryd.func11
def m_strings_Trim : MCode :=
(.seq (.reg [⟨some 4, .mv (.c (.str [])), none⟩])
  (.seq (.seq (.reg [⟨some 7, .mv (.t 0), none⟩, ⟨some 8, .bin .eql [] (.t 7) (.c (.str [])), none⟩, ⟨some 9, .mv (.t 8), none⟩, ⟨some 10, .mv (.t 1), some (9, false)⟩, ⟨some 11, .bin .eql [] (.t 10) (.c (.str [])), some (9, false)⟩, ⟨some 12, .pick (.t 9) (.c (.bool true)) (.t 11), none⟩])
  (.cond (.t 12) (.seq (.reg [⟨some 13, .mv (.t 0), none⟩, ⟨some 4, .mv (.t 13), none⟩])
  .ret)
  .skip))
  (.seq (.seq (.reg [⟨some 14, .mv (.t 1), none⟩, ⟨some 15, .len true (.t 14), none⟩, ⟨some 16, .bin .eql [] (.t 15) (.c (.int .i64 1)), none⟩, ⟨some 17, .mv (.t 16), none⟩, ⟨some 18, .mv (.t 1), some (17, true)⟩, ⟨some 19, .idx (.t 18) (.c (.int .i64 0)), some (17, true)⟩, ⟨some 20, .bin .lss [] (.t 19) (.c (.int .u8 128)), some (17, true)⟩, ⟨some 21, .pick (.t 17) (.t 20) (.c (.bool false)), none⟩])
  (.cond (.t 21) (.seq (.reg [⟨some 22, .mv (.t 0), none⟩, ⟨some 23, .mv (.t 1), none⟩, ⟨some 24, .idx (.t 23) (.c (.int .i64 0)), none⟩, ⟨some 25, .call true (.c (.fnv n_strings_trimRightByte)) [(.t 22), (.t 24)], none⟩, ⟨some 26, .mv (.t 1), none⟩, ⟨some 27, .idx (.t 26) (.c (.int .i64 0)), none⟩, ⟨some 28, .call true (.c (.fnv n_strings_trimLeftByte)) [(.t 25), (.t 27)], none⟩, ⟨some 4, .mv (.t 28), none⟩])
  .ret)
  .skip))
  (.seq (.seq (.reg [⟨some 30, .mv (.t 1), none⟩, ⟨some 31, .call false (.c (.fnv n_strings_makeASCIISet)) [(.t 30)], none⟩, ⟨some 29, .mv (.t 31), none⟩, ⟨some 32, .ext (.t 29) 0, none⟩, ⟨some 33, .ext (.t 29) 1, none⟩, ⟨some 5, .zero y_strings_asciiSet (rep 256 (.bool false)), none⟩, ⟨none, .store 256 (.t 5) (.t 32), none⟩, ⟨some 6, .mv (.t 33), none⟩])
  (.seq (.reg [⟨some 34, .mv (.t 6), none⟩])
  (.cond (.t 34) (.seq (.reg [⟨some 35, .mv (.t 0), none⟩, ⟨some 36, .call false (.c (.fnv n_strings_trimRightASCII)) [(.t 35), (.t 5)], none⟩, ⟨some 37, .call false (.c (.fnv n_strings_trimLeftASCII)) [(.t 36), (.t 5)], none⟩, ⟨some 4, .mv (.t 37), none⟩])
  .ret)
  .skip)))
  (.seq (.reg [⟨some 38, .mv (.t 0), none⟩, ⟨some 39, .mv (.t 1), none⟩, ⟨some 40, .call false (.c (.fnv n_strings_trimRightUnicode)) [(.t 38), (.t 39)], none⟩, ⟨some 41, .mv (.t 1), none⟩, ⟨some 42, .call false (.c (.fnv n_strings_trimLeftUnicode)) [(.t 40), (.t 41)], none⟩, ⟨some 4, .mv (.t 42), none⟩])
  .ret)))))
theorem c_strings_Trim : cFn Go.Proofs.Tryd.prog Go.Proofs.Tryd.f12 = some (43, m_strings_Trim, [.tmp 4]) := by kernel_rfl
theorem e_strings_Trim : Go.Proofs.Tryd.prog.funcs[n_strings_Trim]? = some Go.Proofs.Tryd.f12 := Go.Proofs.Tryd.func12
def m_scan_bare : MCode :=
(.seq (.reg [⟨some 2, .mv (.c (.str [])), none⟩])
  (.seq (.reg [⟨some 7, .mv (.t 0), none⟩, ⟨some 8, .call false (.c (.fnv n_strings_Cut)) [(.t 7), (.c (.str [35]))], none⟩, ⟨some 6, .mv (.t 8), none⟩, ⟨some 9, .ext (.t 6) 0, none⟩, ⟨some 10, .ext (.t 6) 1, none⟩, ⟨some 11, .ext (.t 6) 2, none⟩, ⟨some 3, .mv (.t 9), none⟩, ⟨some 4, .mv (.t 10), none⟩, ⟨some 5, .mv (.t 11), none⟩])
  (.seq (.reg [⟨some 12, .mv (.t 3), none⟩, ⟨some 2, .mv (.t 12), none⟩])
  .ret)))
theorem c_scan_bare : cFn Go.Proofs.Tryd.prog Go.Proofs.Tryd.f13 = some (13, m_scan_bare, [.tmp 2]) := by kernel_rfl
theorem e_scan_bare : Go.Proofs.Tryd.prog.funcs[n_scan_bare]? = some Go.Proofs.Tryd.f13 := Go.Proofs.Tryd.func13
def m_ref02_BareL1 : MCode :=
(.seq (.seq (.reg [⟨some 4, .mv (.t 3), none⟩, ⟨some 5, .mv (.t 0), none⟩, ⟨some 6, .len true (.t 5), none⟩, ⟨some 7, .bin .lss [] (.t 4) (.t 6), none⟩])
  (.cond (.t 7) .skip
  (.exit 0)))
  (.seq (.block 1 (.seq (.reg [⟨some 10, .mv (.t 0), none⟩, ⟨some 11, .mv (.t 3), none⟩, ⟨some 12, .idx (.t 10) (.t 11), none⟩, ⟨some 13, .bin .eql [] (.t 12) (.c (.int .u8 35)), none⟩])
  (.cond (.t 13) (.seq (.reg [⟨some 14, .mv (.t 0), none⟩, ⟨some 15, .mv (.t 3), none⟩, ⟨some 16, .slc true 0 (.t 14) none (some (.t 15)) none, none⟩, ⟨some 2, .mv (.t 16), none⟩])
  .ret)
  .skip)))
  (.reg [⟨some 8, .mv (.t 3), none⟩, ⟨some 9, .bin .add [] (.t 8) (.c (.int .i64 1)), none⟩, ⟨some 3, .mv (.t 9), none⟩])))
def m_ref02_Bare : MCode :=
(.seq (.reg [⟨some 2, .mv (.c (.str [])), none⟩])
  (.seq (.seq (.reg [⟨some 3, .mv (.c (.int .i64 0)), none⟩])
  (.block 0 (.loop m_ref02_BareL1)))
  (.seq (.reg [⟨some 17, .mv (.t 0), none⟩, ⟨some 2, .mv (.t 17), none⟩])
  .ret)))
theorem c_ref02_Bare : cFn Go.Proofs.Tryd.prog Go.Proofs.Tryd.f14 = some (18, m_ref02_Bare, [.tmp 2]) := by kernel_rfl
theorem e_ref02_Bare : Go.Proofs.Tryd.prog.funcs[n_ref02_Bare]? = some Go.Proofs.Tryd.f14 := Go.Proofs.Tryd.func14
def m_scan_TokensL1 : MCode :=
(.seq (.seq (.reg [⟨some 13, .mv (.t 6), none⟩, ⟨some 14, .mv (.t 5), none⟩, ⟨some 15, .len true (.t 14), none⟩, ⟨some 16, .bin .lss [] (.t 13) (.t 15), none⟩])
  (.cond (.t 16) .skip
  (.exit 0)))
  (.block 1 (.seq (.seq (.reg [⟨some 17, .mv (.t 5), none⟩, ⟨some 18, .mv (.t 6), none⟩, ⟨some 19, .idx (.t 17) (.t 18), none⟩, ⟨some 20, .bin .eql [] (.t 19) (.c (.int .u8 32)), none⟩])
  (.cond (.t 20) (.seq (.reg [⟨some 21, .mv (.t 6), none⟩, ⟨some 22, .bin .add [] (.t 21) (.c (.int .i64 1)), none⟩, ⟨some 6, .mv (.t 22), none⟩])
  (.exit 1))
  .skip))
  (.seq (.reg [⟨some 23, .mv (.t 5), none⟩, ⟨some 24, .mv (.t 6), none⟩, ⟨some 25, .call false (.c (.fnv n_scan_one)) [(.t 23), (.t 24)], none⟩, ⟨some 7, .zero y_api_Token [.int .i64 0, .str [], .int .i64 0], none⟩, ⟨none, .store 3 (.t 7) (.t 25), none⟩])
  (.seq (.block 2 (.seq (.reg [⟨some 27, .fadr 0 (.t 7), none⟩, ⟨some 28, .load false 1 (.t 27), none⟩, ⟨some 29, .bin .eql [] (.t 28) (.c (.int .i64 0)), none⟩, ⟨some 26, .mv (.t 29), none⟩])
  (.cond (.t 26) (.seq (.reg [⟨some 30, .fadr 2 (.t 7), none⟩, ⟨some 31, .load false 1 (.t 30), none⟩, ⟨some 2, .mv (.c (.sl (some 0) [])), none⟩, ⟨some 3, .mv (.t 31), none⟩, ⟨some 4, .mv (.c (.int .i64 1)), none⟩])
  .ret)
  (.seq (.reg [⟨some 33, .fadr 1 (.t 7), none⟩, ⟨some 34, .load false 1 (.t 33), none⟩, ⟨some 35, .len true (.t 34), none⟩, ⟨some 36, .bin .gtr [] (.t 35) (.c (.int .i64 8)), none⟩, ⟨some 32, .mv (.t 36), none⟩])
  (.cond (.t 32) (.seq (.reg [⟨some 37, .fadr 2 (.t 7), none⟩, ⟨some 38, .load false 1 (.t 37), none⟩, ⟨some 2, .mv (.c (.sl (some 0) [])), none⟩, ⟨some 3, .mv (.t 38), none⟩, ⟨some 4, .mv (.c (.int .i64 4)), none⟩])
  .ret)
  .skip)))))
  (.seq (.reg [⟨some 39, .mv (.t 2), none⟩, ⟨some 40, .load true 3 (.t 7), none⟩, ⟨some 41, .bsl 3 (.agg [.int .i64 0, .str [], .int .i64 0]) 1 [(0, (.t 40))], none⟩, ⟨some 42, .app y_api_Token 3 32 (.t 39) (.t 41), none⟩, ⟨some 2, .mv (.t 42), none⟩])
  (.reg [⟨some 43, .mv (.t 6), none⟩, ⟨some 44, .fadr 1 (.t 7), none⟩, ⟨some 45, .load false 1 (.t 44), none⟩, ⟨some 46, .len true (.t 45), none⟩, ⟨some 47, .bin .add [] (.t 43) (.t 46), none⟩, ⟨some 6, .mv (.t 47), none⟩])))))))
def m_scan_Tokens : MCode :=
(.seq (.reg [⟨some 2, .mv (.c (.sl (some 0) [])), none⟩, ⟨some 3, .mv (.c (.int .i64 0)), none⟩, ⟨some 4, .mv (.c (.int .i64 0)), none⟩])
  (.seq (.seq (.reg [⟨some 8, .mv (.t 0), none⟩, ⟨some 9, .len true (.t 8), none⟩, ⟨some 10, .bin .gtr [] (.t 9) (.c (.int .i64 200)), none⟩])
  (.cond (.t 10) (.seq (.reg [⟨some 2, .mv (.c (.sl (some 0) [])), none⟩, ⟨some 3, .mv (.c (.int .i64 201)), none⟩, ⟨some 4, .mv (.c (.int .i64 4)), none⟩])
  .ret)
  .skip))
  (.seq (.reg [⟨some 11, .mv (.t 0), none⟩, ⟨some 12, .call false (.c (.fnv n_scan_bare)) [(.t 11)], none⟩, ⟨some 5, .mv (.t 12), none⟩])
  (.seq (.seq (.reg [⟨some 6, .mv (.c (.int .i64 0)), none⟩])
  (.block 0 (.loop m_scan_TokensL1)))
  (.seq (.reg [⟨some 48, .mv (.t 2), none⟩, ⟨some 2, .mv (.t 48), none⟩, ⟨some 3, .mv (.c (.int .i64 0)), none⟩, ⟨some 4, .mv (.c (.int .i64 0)), none⟩])
  .ret)))))
theorem c_scan_Tokens : cFn Go.Proofs.Tryd.prog Go.Proofs.Tryd.f15 = some (49, m_scan_Tokens, [.tmp 2, .tmp 3, .tmp 4]) := by kernel_rfl
theorem e_scan_Tokens : Go.Proofs.Tryd.prog.funcs[n_scan_Tokens]? = some Go.Proofs.Tryd.f15 := Go.Proofs.Tryd.func15
def m_scan_PrintL1 : MCode :=
(.seq (.reg [⟨some 9, .bin .lss [] (.t 8) (.t 7), none⟩])
  (.seq (.cond (.t 9) .skip
  (.exit 0))
  (.seq (.block 1 (.seq (.reg [⟨some 10, .mv (.t 8), none⟩, ⟨some 11, .iadr 3 (.t 6) (.t 8), none⟩, ⟨some 12, .load true 3 (.t 11), none⟩, ⟨some 5, .zero y_api_Token [.int .i64 0, .str [], .int .i64 0], none⟩, ⟨some 4, .mv (.t 10), none⟩, ⟨none, .store 3 (.t 5) (.t 12), none⟩])
  (.seq (.seq (.reg [⟨some 13, .mv (.t 4), none⟩, ⟨some 14, .bin .gtr [] (.t 13) (.c (.int .i64 0)), none⟩, ⟨some 15, .mv (.t 14), none⟩, ⟨some 16, .fadr 0 (.t 5), some (15, true)⟩, ⟨some 17, .load false 1 (.t 16), some (15, true)⟩, ⟨some 18, .bin .neq [] (.t 17) (.c (.int .i64 3)), some (15, true)⟩, ⟨some 19, .pick (.t 15) (.t 18) (.c (.bool false)), none⟩, ⟨some 20, .mv (.t 19), none⟩, ⟨some 21, .mv (.t 0), some (20, true)⟩, ⟨some 22, .mv (.t 4), some (20, true)⟩, ⟨some 23, .bin .sub [] (.t 22) (.c (.int .i64 1)), some (20, true)⟩, ⟨some 24, .iadr 3 (.t 21) (.t 23), some (20, true)⟩, ⟨some 25, .fadr 0 (.t 24), some (20, true)⟩, ⟨some 26, .load false 1 (.t 25), some (20, true)⟩, ⟨some 27, .bin .neq [] (.t 26) (.c (.int .i64 3)), some (20, true)⟩, ⟨some 28, .pick (.t 20) (.t 27) (.c (.bool false)), none⟩])
  (.cond (.t 28) (.reg [⟨some 29, .call false (.c (.fnv n_strings_Builder_WriteString)) [(.t 3), (.c (.str [32]))], none⟩])
  .skip))
  (.reg [⟨some 30, .fadr 1 (.t 5), none⟩, ⟨some 31, .load false 1 (.t 30), none⟩, ⟨some 32, .call false (.c (.fnv n_strings_Builder_WriteString)) [(.t 3), (.t 31)], none⟩]))))
  (.reg [⟨some 33, .bin .add [] (.t 8) (.c (.int .i64 1)), none⟩, ⟨some 8, .mv (.t 33), none⟩]))))
def m_scan_Print : MCode :=
(.seq (.reg [⟨some 2, .mv (.c (.str [])), none⟩])
  (.seq (.reg [⟨some 3, .zero y_strings_Builder [.lit (.pointer none), .sl (some 0) []], none⟩])
  (.seq (.seq (.reg [⟨some 6, .mv (.t 0), none⟩, ⟨some 7, .len false (.t 6), none⟩, ⟨some 8, .mv (.c (.int .i64 0)), none⟩])
  (.block 0 (.loop m_scan_PrintL1)))
  (.seq (.reg [⟨some 34, .call false (.c (.fnv n_strings_Builder_String)) [(.t 3)], none⟩, ⟨some 2, .mv (.t 34), none⟩])
  .ret))))
theorem c_scan_Print : cFn Go.Proofs.Tryd.prog Go.Proofs.Tryd.f16 = some (35, m_scan_Print, [.tmp 2]) := by kernel_rfl
theorem e_scan_Print : Go.Proofs.Tryd.prog.funcs[n_scan_Print]? = some Go.Proofs.Tryd.f16 := Go.Proofs.Tryd.func16
def m_strings_Lines_1L1 : MCode :=
(.seq (.seq (.reg [⟨some 5, .load false 1 (.t 1), none⟩, ⟨some 6, .len true (.t 5), none⟩, ⟨some 7, .bin .gtr [] (.t 6) (.c (.int .i64 0)), none⟩])
  (.cond (.t 7) .skip
  (.exit 0)))
  (.block 1 (.seq (.reg [⟨some 3, .mv (.c (.str [])), none⟩])
  (.seq (.seq (.reg [⟨some 8, .load false 1 (.t 1), none⟩, ⟨some 9, .call false (.c (.fnv n_strings_IndexByte)) [(.t 8), (.c (.int .u8 10))], none⟩, ⟨some 4, .mv (.t 9), none⟩])
  (.seq (.reg [⟨some 10, .mv (.t 4), none⟩, ⟨some 11, .bin .geq [] (.t 10) (.c (.int .i64 0)), none⟩])
  (.cond (.t 11) (.reg [⟨some 12, .load false 1 (.t 1), none⟩, ⟨some 13, .mv (.t 4), none⟩, ⟨some 14, .bin .add [] (.t 13) (.c (.int .i64 1)), none⟩, ⟨some 15, .slc true 0 (.t 12) none (some (.t 14)) none, none⟩, ⟨some 16, .load false 1 (.t 1), none⟩, ⟨some 17, .mv (.t 4), none⟩, ⟨some 18, .bin .add [] (.t 17) (.c (.int .i64 1)), none⟩, ⟨some 19, .slc true 0 (.t 16) (some (.t 18)) none none, none⟩, ⟨some 3, .mv (.t 15), none⟩, ⟨none, .store 1 (.t 1) (.t 19), none⟩])
  (.reg [⟨some 20, .load false 1 (.t 1), none⟩, ⟨some 3, .mv (.t 20), none⟩, ⟨none, .store 1 (.t 1) (.c (.str [])), none⟩]))))
  (.seq (.reg [⟨some 21, .mv (.t 0), none⟩, ⟨some 22, .mv (.t 3), none⟩, ⟨some 23, .call false (.t 21) [(.t 22)], none⟩, ⟨some 24, .not (.t 23), none⟩])
  (.cond (.t 24) .ret
  .skip))))))
def m_strings_Lines_1 : MCode :=
(.block 0 (.loop m_strings_Lines_1L1))
theorem c_strings_Lines_1 : cFn Go.Proofs.Tryd.prog Go.Proofs.Tryd.f17 = some (25, m_strings_Lines_1, []) := by kernel_rfl
theorem e_strings_Lines_1 : Go.Proofs.Tryd.prog.funcs[n_strings_Lines_1]? = some Go.Proofs.Tryd.f17 := Go.Proofs.Tryd.func17
def m_strings_IndexByte : MCode :=
(.seq (.reg [⟨some 4, .mv (.c (.int .i64 0)), none⟩])
  (.seq (.reg [⟨some 5, .mv (.t 0), none⟩, ⟨some 6, .mv (.t 1), none⟩, ⟨some 7, .call false (.c (.fnv n_internal_stringslite_IndexByte)) [(.t 5), (.t 6)], none⟩, ⟨some 4, .mv (.t 7), none⟩])
  .ret))
theorem c_strings_IndexByte : cFn Go.Proofs.Tryd.prog Go.Proofs.Tryd.f18 = some (8, m_strings_IndexByte, [.tmp 4]) := by kernel_rfl
theorem e_strings_IndexByte : Go.Proofs.Tryd.prog.funcs[n_strings_IndexByte]? = some Go.Proofs.Tryd.f18 := Go.Proofs.Tryd.func18
def m_internal_stringslite_CutSuffix : MCode :=
(.seq (.reg [⟨some 4, .mv (.c (.str [])), none⟩, ⟨some 5, .mv (.c (.bool false)), none⟩])
  (.seq (.seq (.reg [⟨some 6, .mv (.t 0), none⟩, ⟨some 7, .mv (.t 1), none⟩, ⟨some 8, .call false (.c (.fnv n_internal_stringslite_HasSuffix)) [(.t 6), (.t 7)], none⟩, ⟨some 9, .not (.t 8), none⟩])
  (.cond (.t 9) (.seq (.reg [⟨some 10, .mv (.t 0), none⟩, ⟨some 4, .mv (.t 10), none⟩, ⟨some 5, .mv (.c (.bool false)), none⟩])
  .ret)
  .skip))
  (.seq (.reg [⟨some 11, .mv (.t 0), none⟩, ⟨some 12, .mv (.t 0), none⟩, ⟨some 13, .len true (.t 12), none⟩, ⟨some 14, .mv (.t 1), none⟩, ⟨some 15, .len true (.t 14), none⟩, ⟨some 16, .bin .sub [] (.t 13) (.t 15), none⟩, ⟨some 17, .slc true 0 (.t 11) none (some (.t 16)) none, none⟩, ⟨some 4, .mv (.t 17), none⟩, ⟨some 5, .mv (.c (.bool true)), none⟩])
  .ret)))
theorem c_internal_stringslite_CutSuffix : cFn Go.Proofs.Tryd.prog Go.Proofs.Tryd.f19 = some (18, m_internal_stringslite_CutSuffix, [.tmp 4, .tmp 5]) := by kernel_rfl
theorem e_internal_stringslite_CutSuffix : Go.Proofs.Tryd.prog.funcs[n_internal_stringslite_CutSuffix]? = some Go.Proofs.Tryd.f19 := Go.Proofs.Tryd.func19
def m_strings_trimLeftByteL1 : MCode :=
(.seq (.seq (.reg [⟨some 5, .mv (.t 0), none⟩, ⟨some 6, .len true (.t 5), none⟩, ⟨some 7, .bin .gtr [] (.t 6) (.c (.int .i64 0)), none⟩, ⟨some 8, .mv (.t 7), none⟩, ⟨some 9, .mv (.t 0), some (8, true)⟩, ⟨some 10, .idx (.t 9) (.c (.int .i64 0)), some (8, true)⟩, ⟨some 11, .mv (.t 1), some (8, true)⟩, ⟨some 12, .bin .eql [] (.t 10) (.t 11), some (8, true)⟩, ⟨some 13, .pick (.t 8) (.t 12) (.c (.bool false)), none⟩])
  (.cond (.t 13) .skip
  (.exit 0)))
  (.block 1 (.reg [⟨some 14, .mv (.t 0), none⟩, ⟨some 15, .slc true 0 (.t 14) (some (.c (.int .i64 1))) none none, none⟩, ⟨some 0, .mv (.t 15), none⟩])))
def m_strings_trimLeftByte : MCode :=
(.seq (.reg [⟨some 4, .mv (.c (.str [])), none⟩])
  (.seq (.block 0 (.loop m_strings_trimLeftByteL1))
  (.seq (.reg [⟨some 16, .mv (.t 0), none⟩, ⟨some 4, .mv (.t 16), none⟩])
  .ret)))
theorem c_strings_trimLeftByte : cFn Go.Proofs.Tryd.prog Go.Proofs.Tryd.f20 = some (17, m_strings_trimLeftByte, [.tmp 4]) := by kernel_rfl
theorem e_strings_trimLeftByte : Go.Proofs.Tryd.prog.funcs[n_strings_trimLeftByte]? = some Go.Proofs.Tryd.f20 := Go.Proofs.Tryd.func20
def m_strings_trimRightByteL1 : MCode :=
(.seq (.seq (.reg [⟨some 5, .mv (.t 0), none⟩, ⟨some 6, .len true (.t 5), none⟩, ⟨some 7, .bin .gtr [] (.t 6) (.c (.int .i64 0)), none⟩, ⟨some 8, .mv (.t 7), none⟩, ⟨some 9, .mv (.t 0), some (8, true)⟩, ⟨some 10, .mv (.t 0), some (8, true)⟩, ⟨some 11, .len true (.t 10), some (8, true)⟩, ⟨some 12, .bin .sub [] (.t 11) (.c (.int .i64 1)), some (8, true)⟩, ⟨some 13, .idx (.t 9) (.t 12), some (8, true)⟩, ⟨some 14, .mv (.t 1), some (8, true)⟩, ⟨some 15, .bin .eql [] (.t 13) (.t 14), some (8, true)⟩, ⟨some 16, .pick (.t 8) (.t 15) (.c (.bool false)), none⟩])
  (.cond (.t 16) .skip
  (.exit 0)))
  (.block 1 (.reg [⟨some 17, .mv (.t 0), none⟩, ⟨some 18, .mv (.t 0), none⟩, ⟨some 19, .len true (.t 18), none⟩, ⟨some 20, .bin .sub [] (.t 19) (.c (.int .i64 1)), none⟩, ⟨some 21, .slc true 0 (.t 17) none (some (.t 20)) none, none⟩, ⟨some 0, .mv (.t 21), none⟩])))
def m_strings_trimRightByte : MCode :=
(.seq (.reg [⟨some 4, .mv (.c (.str [])), none⟩])
  (.seq (.block 0 (.loop m_strings_trimRightByteL1))
  (.seq (.reg [⟨some 22, .mv (.t 0), none⟩, ⟨some 4, .mv (.t 22), none⟩])
  .ret)))
theorem c_strings_trimRightByte : cFn Go.Proofs.Tryd.prog Go.Proofs.Tryd.f21 = some (23, m_strings_trimRightByte, [.tmp 4]) := by kernel_rfl
theorem e_strings_trimRightByte : Go.Proofs.Tryd.prog.funcs[n_strings_trimRightByte]? = some Go.Proofs.Tryd.f21 := Go.Proofs.Tryd.func21
def m_strings_Cut : MCode :=
(.seq (.reg [⟨some 4, .mv (.c (.str [])), none⟩, ⟨some 5, .mv (.c (.str [])), none⟩, ⟨some 6, .mv (.c (.bool false)), none⟩])
  (.seq (.reg [⟨some 7, .mv (.t 0), none⟩, ⟨some 8, .mv (.t 1), none⟩, ⟨some 9, .call false (.c (.fnv n_internal_stringslite_Cut)) [(.t 7), (.t 8)], none⟩, ⟨some 10, .ext (.t 9) 0, none⟩, ⟨some 11, .ext (.t 9) 1, none⟩, ⟨some 12, .ext (.t 9) 2, none⟩, ⟨some 4, .mv (.t 10), none⟩, ⟨some 5, .mv (.t 11), none⟩, ⟨some 6, .mv (.t 12), none⟩])
  .ret))
theorem c_strings_Cut : cFn Go.Proofs.Tryd.prog Go.Proofs.Tryd.f27 = some (13, m_strings_Cut, [.tmp 4, .tmp 5, .tmp 6]) := by kernel_rfl
theorem e_strings_Cut : Go.Proofs.Tryd.prog.funcs[n_strings_Cut]? = some Go.Proofs.Tryd.f27 := Go.Proofs.Tryd.func27
def m_scan_one : MCode :=
(.seq (.reg [⟨some 4, .zero y_api_Token [.int .i64 0, .str [], .int .i64 0], none⟩])
  (.seq (.reg [⟨some 7, .mv (.t 0), none⟩, ⟨some 8, .mv (.t 1), none⟩, ⟨some 9, .mv (.t 1), none⟩, ⟨some 10, .bin .add [] (.t 9) (.c (.int .i64 1)), none⟩, ⟨some 11, .slc true 0 (.t 7) (some (.t 8)) (some (.t 10)) none, none⟩, ⟨some 12, .mv (.t 1), none⟩, ⟨some 13, .bin .add [] (.t 12) (.c (.int .i64 1)), none⟩, ⟨some 14, .build [.int .i64 0, .str [], .int .i64 0] [(1, 1, (.t 11)), (2, 1, (.t 13))], none⟩, ⟨some 5, .zero y_api_Token [.int .i64 0, .str [], .int .i64 0], none⟩, ⟨none, .store 3 (.t 5) (.t 14), none⟩])
  (.seq (.seq (.reg [⟨some 15, .mv (.t 0), none⟩, ⟨some 16, .mv (.t 1), none⟩, ⟨some 17, .idx (.t 15) (.t 16), none⟩, ⟨some 6, .mv (.t 17), none⟩])
  (.block 0 (.seq (.block 5 (.seq (.block 4 (.seq (.block 3 (.seq (.block 2 (.seq (.block 1 (.seq (.seq (.seq (.reg [⟨some 19, .mv (.t 6), none⟩, ⟨some 20, .bin .eql [] (.t 19) (.c (.int .u8 46)), none⟩, ⟨some 18, .mv (.t 20), none⟩])
  (.cond (.t 18) (.exit 1)
  .skip))
  (.seq (.seq (.reg [⟨some 22, .mv (.t 6), none⟩, ⟨some 23, .bin .eql [] (.t 22) (.c (.int .u8 38)), none⟩, ⟨some 21, .mv (.t 23), none⟩])
  (.cond (.t 21) (.exit 2)
  .skip))
  (.seq (.seq (.reg [⟨some 25, .mv (.t 0), none⟩, ⟨some 26, .mv (.t 1), none⟩, ⟨some 27, .slc true 0 (.t 25) (some (.t 26)) none none, none⟩, ⟨some 28, .call false (.c (.fnv n_strings_HasPrefix)) [(.t 27), (.c (.str [60, 45]))], none⟩, ⟨some 24, .mv (.t 28), none⟩])
  (.cond (.t 24) (.exit 3)
  .skip))
  (.seq (.seq (.reg [⟨some 30, .mv (.t 6), none⟩, ⟨some 31, .bin .geq [] (.t 30) (.c (.int .u8 65)), none⟩, ⟨some 32, .mv (.t 31), none⟩, ⟨some 33, .mv (.t 6), some (32, true)⟩, ⟨some 34, .bin .leq [] (.t 33) (.c (.int .u8 90)), some (32, true)⟩, ⟨some 35, .pick (.t 32) (.t 34) (.c (.bool false)), none⟩, ⟨some 29, .mv (.t 35), none⟩])
  (.cond (.t 29) (.exit 4)
  .skip))
  (.seq (.reg [⟨some 37, .mv (.t 6), none⟩, ⟨some 38, .bin .geq [] (.t 37) (.c (.int .u8 97)), none⟩, ⟨some 39, .mv (.t 38), none⟩, ⟨some 40, .mv (.t 6), some (39, true)⟩, ⟨some 41, .bin .leq [] (.t 40) (.c (.int .u8 122)), some (39, true)⟩, ⟨some 42, .pick (.t 39) (.t 41) (.c (.bool false)), none⟩, ⟨some 36, .mv (.t 42), none⟩])
  (.cond (.t 36) (.exit 5)
  .skip))))))
  (.exit 0)))
  (.seq (.reg [⟨some 43, .fadr 0 (.t 5), none⟩, ⟨none, .store 1 (.t 43) (.c (.int .i64 3)), none⟩])
  (.exit 0))))
  (.seq (.reg [⟨some 44, .fadr 0 (.t 5), none⟩, ⟨none, .store 1 (.t 44) (.c (.int .i64 5)), none⟩])
  (.exit 0))))
  (.seq (.reg [⟨some 45, .fadr 0 (.t 5), none⟩, ⟨none, .store 1 (.t 45) (.c (.int .i64 4)), none⟩, ⟨some 46, .fadr 1 (.t 5), none⟩, ⟨none, .store 1 (.t 46) (.c (.str [60, 45])), none⟩])
  (.exit 0))))
  (.reg [⟨some 47, .fadr 0 (.t 5), none⟩, ⟨none, .store 1 (.t 47) (.c (.int .i64 1)), none⟩])))
  (.seq (.seq (.reg [⟨some 48, .fadr 0 (.t 5), none⟩, ⟨some 49, .load false 1 (.t 48), none⟩, ⟨some 50, .minmax true [(.t 49), (.c (.int .i64 2))], none⟩, ⟨some 51, .fadr 0 (.t 5), none⟩, ⟨none, .store 1 (.t 51) (.t 50), none⟩])
  (.seq (.seq (.reg [⟨some 52, .mv (.t 6), none⟩, ⟨some 53, .bin .leq [] (.t 52) (.c (.int .u8 90)), none⟩])
  (.cond (.t 53) (.reg [⟨some 54, .fadr 0 (.t 5), none⟩, ⟨none, .store 1 (.t 54) (.c (.int .i64 1)), none⟩])
  .skip))
  (.reg [⟨some 55, .mv (.t 0), none⟩, ⟨some 56, .mv (.t 1), none⟩, ⟨some 57, .mv (.t 1), none⟩, ⟨some 58, .mv (.t 0), none⟩, ⟨some 59, .mv (.t 1), none⟩, ⟨some 60, .call false (.c (.fnv n_scan_word)) [(.t 58), (.t 59)], none⟩, ⟨some 61, .bin .add [] (.t 57) (.t 60), none⟩, ⟨some 62, .slc true 0 (.t 55) (some (.t 56)) (some (.t 61)) none, none⟩, ⟨some 63, .fadr 1 (.t 5), none⟩, ⟨none, .store 1 (.t 63) (.t 62), none⟩])))
  (.exit 0)))))
  (.seq (.reg [⟨some 64, .load true 3 (.t 5), none⟩, ⟨none, .store 3 (.t 4) (.t 64), none⟩])
  .ret))))
theorem c_scan_one : cFn Go.Proofs.Tryd.prog Go.Proofs.Tryd.f28 = some (65, m_scan_one, [.cell 4 true 3]) := by kernel_rfl
theorem e_scan_one : Go.Proofs.Tryd.prog.funcs[n_scan_one]? = some Go.Proofs.Tryd.f28 := Go.Proofs.Tryd.func28
def m_strings_Builder_WriteString : MCode :=
(.seq (.reg [⟨some 4, .mv (.c (.int .i64 0)), none⟩, ⟨some 5, .mv (.c (.lit .nilIface)), none⟩])
  (.seq (.reg [⟨some 6, .mv (.t 0), none⟩, ⟨some 7, .call false (.c (.fnv n_strings_Builder_copyCheck)) [(.t 6)], none⟩])
  (.seq (.reg [⟨some 8, .mv (.t 0), none⟩, ⟨some 9, .mv (.t 0), none⟩, ⟨some 10, .nilck (.t 9), none⟩, ⟨some 11, .fadr 1 (.t 10), none⟩, ⟨some 12, .load false 1 (.t 11), none⟩, ⟨some 13, .mv (.t 1), none⟩, ⟨some 14, .apps y_uint8 (.t 12) (.t 13), none⟩, ⟨some 15, .nilck (.t 8), none⟩, ⟨some 16, .fadr 1 (.t 15), none⟩, ⟨none, .store 1 (.t 16) (.t 14), none⟩])
  (.seq (.reg [⟨some 17, .mv (.t 1), none⟩, ⟨some 18, .len true (.t 17), none⟩, ⟨some 4, .mv (.t 18), none⟩, ⟨some 5, .mv (.c (.lit .nilIface)), none⟩])
  .ret))))
theorem c_strings_Builder_WriteString : cFn Go.Proofs.Tryd.prog Go.Proofs.Tryd.f29 = some (19, m_strings_Builder_WriteString, [.tmp 4, .tmp 5]) := by kernel_rfl
theorem e_strings_Builder_WriteString : Go.Proofs.Tryd.prog.funcs[n_strings_Builder_WriteString]? = some Go.Proofs.Tryd.f29 := Go.Proofs.Tryd.func29
def m_strings_Builder_String : MCode :=
(.seq (.reg [⟨some 2, .mv (.c (.str [])), none⟩])
  (.seq (.reg [⟨some 3, .mv (.t 0), none⟩, ⟨some 4, .nilck (.t 3), none⟩, ⟨some 5, .fadr 1 (.t 4), none⟩, ⟨some 6, .load false 1 (.t 5), none⟩, ⟨some 7, .sdat (.t 6), none⟩, ⟨some 8, .mv (.t 0), none⟩, ⟨some 9, .nilck (.t 8), none⟩, ⟨some 10, .fadr 1 (.t 9), none⟩, ⟨some 11, .load false 1 (.t 10), none⟩, ⟨some 12, .len false (.t 11), none⟩, ⟨some 13, .ustr y_uint8 (.t 7) (.t 12), none⟩, ⟨some 2, .mv (.t 13), none⟩])
  .ret))
theorem c_strings_Builder_String : cFn Go.Proofs.Tryd.prog Go.Proofs.Tryd.f30 = some (14, m_strings_Builder_String, [.tmp 2]) := by kernel_rfl
theorem e_strings_Builder_String : Go.Proofs.Tryd.prog.funcs[n_strings_Builder_String]? = some Go.Proofs.Tryd.f30 := Go.Proofs.Tryd.func30
def m_internal_stringslite_IndexByte : MCode :=
(.seq (.reg [⟨some 4, .mv (.c (.int .i64 0)), none⟩])
  (.seq (.reg [⟨some 5, .mv (.t 0), none⟩, ⟨some 6, .mv (.t 1), none⟩, ⟨some 7, .call false (.c (.fnv n_internal_bytealg_IndexByteString)) [(.t 5), (.t 6)], none⟩, ⟨some 4, .mv (.t 7), none⟩])
  .ret))
theorem c_internal_stringslite_IndexByte : cFn Go.Proofs.Tryd.prog Go.Proofs.Tryd.f31 = some (8, m_internal_stringslite_IndexByte, [.tmp 4]) := by kernel_rfl
theorem e_internal_stringslite_IndexByte : Go.Proofs.Tryd.prog.funcs[n_internal_stringslite_IndexByte]? = some Go.Proofs.Tryd.f31 := Go.Proofs.Tryd.func31
def m_internal_stringslite_HasSuffix : MCode :=
(.seq (.reg [⟨some 4, .mv (.c (.bool false)), none⟩])
  (.seq (.reg [⟨some 5, .mv (.t 0), none⟩, ⟨some 6, .len true (.t 5), none⟩, ⟨some 7, .mv (.t 1), none⟩, ⟨some 8, .len true (.t 7), none⟩, ⟨some 9, .bin .geq [] (.t 6) (.t 8), none⟩, ⟨some 10, .mv (.t 9), none⟩, ⟨some 11, .mv (.t 0), some (10, true)⟩, ⟨some 12, .mv (.t 0), some (10, true)⟩, ⟨some 13, .len true (.t 12), some (10, true)⟩, ⟨some 14, .mv (.t 1), some (10, true)⟩, ⟨some 15, .len true (.t 14), some (10, true)⟩, ⟨some 16, .bin .sub [] (.t 13) (.t 15), some (10, true)⟩, ⟨some 17, .slc true 0 (.t 11) (some (.t 16)) none none, some (10, true)⟩, ⟨some 18, .mv (.t 1), some (10, true)⟩, ⟨some 19, .bin .eql [] (.t 17) (.t 18), some (10, true)⟩, ⟨some 20, .pick (.t 10) (.t 19) (.c (.bool false)), none⟩, ⟨some 4, .mv (.t 20), none⟩])
  .ret))
theorem c_internal_stringslite_HasSuffix : cFn Go.Proofs.Tryd.prog Go.Proofs.Tryd.f32 = some (21, m_internal_stringslite_HasSuffix, [.tmp 4]) := by kernel_rfl
theorem e_internal_stringslite_HasSuffix : Go.Proofs.Tryd.prog.funcs[n_internal_stringslite_HasSuffix]? = some Go.Proofs.Tryd.f32 := Go.Proofs.Tryd.func32
def m_internal_stringslite_Cut : MCode :=
(.seq (.reg [⟨some 4, .mv (.c (.str [])), none⟩, ⟨some 5, .mv (.c (.str [])), none⟩, ⟨some 6, .mv (.c (.bool false)), none⟩])
  (.seq (.seq (.reg [⟨some 8, .mv (.t 0), none⟩, ⟨some 9, .mv (.t 1), none⟩, ⟨some 10, .call false (.c (.fnv n_internal_stringslite_Index)) [(.t 8), (.t 9)], none⟩, ⟨some 7, .mv (.t 10), none⟩])
  (.seq (.reg [⟨some 11, .mv (.t 7), none⟩, ⟨some 12, .bin .geq [] (.t 11) (.c (.int .i64 0)), none⟩])
  (.cond (.t 12) (.seq (.reg [⟨some 13, .mv (.t 0), none⟩, ⟨some 14, .mv (.t 7), none⟩, ⟨some 15, .slc true 0 (.t 13) none (some (.t 14)) none, none⟩, ⟨some 16, .mv (.t 0), none⟩, ⟨some 17, .mv (.t 7), none⟩, ⟨some 18, .mv (.t 1), none⟩, ⟨some 19, .len true (.t 18), none⟩, ⟨some 20, .bin .add [] (.t 17) (.t 19), none⟩, ⟨some 21, .slc true 0 (.t 16) (some (.t 20)) none none, none⟩, ⟨some 4, .mv (.t 15), none⟩, ⟨some 5, .mv (.t 21), none⟩, ⟨some 6, .mv (.c (.bool true)), none⟩])
  .ret)
  .skip)))
  (.seq (.reg [⟨some 22, .mv (.t 0), none⟩, ⟨some 4, .mv (.t 22), none⟩, ⟨some 5, .mv (.c (.str [])), none⟩, ⟨some 6, .mv (.c (.bool false)), none⟩])
  .ret)))
theorem c_internal_stringslite_Cut : cFn Go.Proofs.Tryd.prog Go.Proofs.Tryd.f37 = some (23, m_internal_stringslite_Cut, [.tmp 4, .tmp 5, .tmp 6]) := by kernel_rfl
theorem e_internal_stringslite_Cut : Go.Proofs.Tryd.prog.funcs[n_internal_stringslite_Cut]? = some Go.Proofs.Tryd.f37 := Go.Proofs.Tryd.func37
def m_strings_HasPrefix : MCode :=
(.seq (.reg [⟨some 4, .mv (.c (.bool false)), none⟩])
  (.seq (.reg [⟨some 5, .mv (.t 0), none⟩, ⟨some 6, .mv (.t 1), none⟩, ⟨some 7, .call false (.c (.fnv n_internal_stringslite_HasPrefix)) [(.t 5), (.t 6)], none⟩, ⟨some 4, .mv (.t 7), none⟩])
  .ret))
theorem c_strings_HasPrefix : cFn Go.Proofs.Tryd.prog Go.Proofs.Tryd.f38 = some (8, m_strings_HasPrefix, [.tmp 4]) := by kernel_rfl
theorem e_strings_HasPrefix : Go.Proofs.Tryd.prog.funcs[n_strings_HasPrefix]? = some Go.Proofs.Tryd.f38 := Go.Proofs.Tryd.func38
def m_scan_wordL1 : MCode :=
(.seq (.seq (.reg [⟨some 6, .mv (.t 1), none⟩, ⟨some 7, .mv (.t 5), none⟩, ⟨some 8, .bin .add [] (.t 6) (.t 7), none⟩, ⟨some 9, .mv (.t 0), none⟩, ⟨some 10, .len true (.t 9), none⟩, ⟨some 11, .bin .lss [] (.t 8) (.t 10), none⟩, ⟨some 12, .mv (.t 11), none⟩, ⟨some 13, .mv (.t 0), some (12, true)⟩, ⟨some 14, .mv (.t 1), some (12, true)⟩, ⟨some 15, .mv (.t 5), some (12, true)⟩, ⟨some 16, .bin .add [] (.t 14) (.t 15), some (12, true)⟩, ⟨some 17, .mv (.t 1), some (12, true)⟩, ⟨some 18, .mv (.t 5), some (12, true)⟩, ⟨some 19, .bin .add [] (.t 17) (.t 18), some (12, true)⟩, ⟨some 20, .bin .add [] (.t 19) (.c (.int .i64 1)), some (12, true)⟩, ⟨some 21, .slc true 0 (.t 13) (some (.t 16)) (some (.t 20)) none, some (12, true)⟩, ⟨some 22, .bin .add [] (.c (.str [65])) (.t 21), some (12, true)⟩, ⟨some 23, .call false (.c (.fnv n_names_IsPrin)) [(.t 22)], some (12, true)⟩, ⟨some 24, .pick (.t 12) (.t 23) (.c (.bool false)), none⟩])
  (.cond (.t 24) .skip
  (.exit 0)))
  (.block 1 (.reg [⟨some 25, .mv (.t 5), none⟩, ⟨some 26, .bin .add [] (.t 25) (.c (.int .i64 1)), none⟩, ⟨some 5, .mv (.t 26), none⟩])))
def m_scan_word : MCode :=
(.seq (.reg [⟨some 4, .mv (.c (.int .i64 0)), none⟩])
  (.seq (.reg [⟨some 5, .mv (.c (.int .i64 0)), none⟩])
  (.seq (.block 0 (.loop m_scan_wordL1))
  (.seq (.reg [⟨some 27, .mv (.t 5), none⟩, ⟨some 4, .mv (.t 27), none⟩])
  .ret))))
theorem c_scan_word : cFn Go.Proofs.Tryd.prog Go.Proofs.Tryd.f39 = some (28, m_scan_word, [.tmp 4]) := by kernel_rfl
theorem e_scan_word : Go.Proofs.Tryd.prog.funcs[n_scan_word]? = some Go.Proofs.Tryd.f39 := Go.Proofs.Tryd.func39
def m_strings_Builder_copyCheck : MCode :=
(.seq (.reg [⟨some 2, .mv (.t 0), none⟩, ⟨some 3, .nilck (.t 2), none⟩, ⟨some 4, .fadr 0 (.t 3), none⟩, ⟨some 5, .load false 1 (.t 4), none⟩, ⟨some 6, .bin .eql [4] (.t 5) (.c (.lit (.pointer none))), none⟩])
  (.cond (.t 6) (.reg [⟨some 7, .mv (.t 0), none⟩, ⟨some 8, .mv (.t 0), none⟩, ⟨some 9, .toU (.t 8), none⟩, ⟨some 10, .call false (.c (.fnv n_internal_abi_NoEscape)) [(.t 9)], none⟩, ⟨some 11, .frU y_strings_Builder 2 (.t 10), none⟩, ⟨some 12, .nilck (.t 7), none⟩, ⟨some 13, .fadr 0 (.t 12), none⟩, ⟨none, .store 1 (.t 13) (.t 11), none⟩])
  (.seq (.reg [⟨some 14, .mv (.t 0), none⟩, ⟨some 15, .nilck (.t 14), none⟩, ⟨some 16, .fadr 0 (.t 15), none⟩, ⟨some 17, .load false 1 (.t 16), none⟩, ⟨some 18, .mv (.t 0), none⟩, ⟨some 19, .bin .neq [4] (.t 17) (.t 18), none⟩])
  (.cond (.t 19) .stuck
  .skip))))
theorem c_strings_Builder_copyCheck : cFn Go.Proofs.Tryd.prog Go.Proofs.Tryd.f40 = some (20, m_strings_Builder_copyCheck, []) := by kernel_rfl
theorem e_strings_Builder_copyCheck : Go.Proofs.Tryd.prog.funcs[n_strings_Builder_copyCheck]? = some Go.Proofs.Tryd.f40 := Go.Proofs.Tryd.func40
theorem e_internal_bytealg_IndexByteString : Go.Proofs.Tryd.prog.funcs[n_internal_bytealg_IndexByteString]? = some Go.Proofs.Tryd.f41 := Go.Proofs.Tryd.func41
def m_internal_stringslite_IndexL1 : MCode :=
(.seq (.seq (.reg [⟨some 57, .mv (.t 8), none⟩, ⟨some 58, .mv (.t 9), none⟩, ⟨some 59, .bin .lss [] (.t 57) (.t 58), none⟩])
  (.cond (.t 59) .skip
  (.exit 1)))
  (.block 2 (.seq (.seq (.reg [⟨some 60, .mv (.t 0), none⟩, ⟨some 61, .mv (.t 8), none⟩, ⟨some 62, .idx (.t 60) (.t 61), none⟩, ⟨some 63, .mv (.t 6), none⟩, ⟨some 64, .bin .neq [] (.t 62) (.t 63), none⟩])
  (.cond (.t 64) (.seq (.reg [⟨some 65, .mv (.t 0), none⟩, ⟨some 66, .mv (.t 8), none⟩, ⟨some 67, .bin .add [] (.t 66) (.c (.int .i64 1)), none⟩, ⟨some 68, .mv (.t 9), none⟩, ⟨some 69, .slc true 0 (.t 65) (some (.t 67)) (some (.t 68)) none, none⟩, ⟨some 70, .mv (.t 6), none⟩, ⟨some 71, .call false (.c (.fnv n_internal_stringslite_IndexByte)) [(.t 69), (.t 70)], none⟩, ⟨some 11, .mv (.t 71), none⟩])
  (.seq (.seq (.reg [⟨some 72, .mv (.t 11), none⟩, ⟨some 73, .bin .lss [] (.t 72) (.c (.int .i64 0)), none⟩])
  (.cond (.t 73) (.seq (.reg [⟨some 4, .mv (.c (.int .i64 (-1))), none⟩])
  .ret)
  .skip))
  (.reg [⟨some 74, .mv (.t 8), none⟩, ⟨some 75, .mv (.t 11), none⟩, ⟨some 76, .bin .add [] (.t 75) (.c (.int .i64 1)), none⟩, ⟨some 77, .bin .add [] (.t 74) (.t 76), none⟩, ⟨some 8, .mv (.t 77), none⟩])))
  .skip))
  (.seq (.seq (.reg [⟨some 78, .mv (.t 0), none⟩, ⟨some 79, .mv (.t 8), none⟩, ⟨some 80, .bin .add [] (.t 79) (.c (.int .i64 1)), none⟩, ⟨some 81, .idx (.t 78) (.t 80), none⟩, ⟨some 82, .mv (.t 7), none⟩, ⟨some 83, .bin .eql [] (.t 81) (.t 82), none⟩, ⟨some 84, .mv (.t 83), none⟩, ⟨some 85, .mv (.t 0), some (84, true)⟩, ⟨some 86, .mv (.t 8), some (84, true)⟩, ⟨some 87, .mv (.t 8), some (84, true)⟩, ⟨some 88, .mv (.t 5), some (84, true)⟩, ⟨some 89, .bin .add [] (.t 87) (.t 88), some (84, true)⟩, ⟨some 90, .slc true 0 (.t 85) (some (.t 86)) (some (.t 89)) none, some (84, true)⟩, ⟨some 91, .mv (.t 1), some (84, true)⟩, ⟨some 92, .bin .eql [] (.t 90) (.t 91), some (84, true)⟩, ⟨some 93, .pick (.t 84) (.t 92) (.c (.bool false)), none⟩])
  (.cond (.t 93) (.seq (.reg [⟨some 94, .mv (.t 8), none⟩, ⟨some 4, .mv (.t 94), none⟩])
  .ret)
  .skip))
  (.seq (.reg [⟨some 95, .mv (.t 8), none⟩, ⟨some 96, .bin .add [] (.t 95) (.c (.int .i64 1)), none⟩, ⟨some 8, .mv (.t 96), none⟩])
  (.seq (.reg [⟨some 97, .mv (.t 10), none⟩, ⟨some 98, .bin .add [] (.t 97) (.c (.int .i64 1)), none⟩, ⟨some 10, .mv (.t 98), none⟩])
  (.seq .stuck
  (.cond (.t 107) (.seq (.reg [⟨some 108, .mv (.t 0), none⟩, ⟨some 109, .mv (.t 8), none⟩, ⟨some 110, .slc true 0 (.t 108) (some (.t 109)) none none, none⟩, ⟨some 111, .mv (.t 1), none⟩, ⟨some 112, .call false (.c (.fnv n_internal_bytealg_IndexString)) [(.t 110), (.t 111)], none⟩, ⟨some 12, .mv (.t 112), none⟩])
  (.seq (.seq (.reg [⟨some 113, .mv (.t 12), none⟩, ⟨some 114, .bin .geq [] (.t 113) (.c (.int .i64 0)), none⟩])
  (.cond (.t 114) (.seq (.reg [⟨some 115, .mv (.t 12), none⟩, ⟨some 116, .mv (.t 8), none⟩, ⟨some 117, .bin .add [] (.t 115) (.t 116), none⟩, ⟨some 4, .mv (.t 117), none⟩])
  .ret)
  .skip))
  (.seq (.reg [⟨some 4, .mv (.c (.int .i64 (-1))), none⟩])
  .ret)))
  (.seq .stuck
  (.cond (.t 132) (.seq (.reg [⟨some 133, .mv (.t 0), none⟩, ⟨some 134, .mv (.t 8), none⟩, ⟨some 135, .slc true 0 (.t 133) (some (.t 134)) none none, none⟩, ⟨some 136, .mv (.t 1), none⟩, ⟨some 137, .call false (.c (.fnv n_internal_bytealg_IndexRabinKarp_string)) [(.t 135), (.t 136)], none⟩, ⟨some 13, .mv (.t 137), none⟩])
  (.seq (.seq (.reg [⟨some 138, .mv (.t 13), none⟩, ⟨some 139, .bin .lss [] (.t 138) (.c (.int .i64 0)), none⟩])
  (.cond (.t 139) (.seq (.reg [⟨some 4, .mv (.c (.int .i64 (-1))), none⟩])
  .ret)
  .skip))
  (.seq (.reg [⟨some 140, .mv (.t 8), none⟩, ⟨some 141, .mv (.t 13), none⟩, ⟨some 142, .bin .add [] (.t 140) (.t 141), none⟩, ⟨some 4, .mv (.t 142), none⟩])
  .ret)))
  .skip))))))))))
def m_internal_stringslite_Index : MCode :=
(.seq (.reg [⟨some 4, .mv (.c (.int .i64 0)), none⟩])
  (.seq (.reg [⟨some 14, .mv (.t 1), none⟩, ⟨some 15, .len true (.t 14), none⟩, ⟨some 5, .mv (.t 15), none⟩])
  (.seq (.block 0 (.seq (.reg [⟨some 17, .mv (.t 5), none⟩, ⟨some 18, .bin .eql [] (.t 17) (.c (.int .i64 0)), none⟩, ⟨some 19, .mv (.t 18), none⟩, ⟨some 20, .mv (.t 1), some (19, false)⟩, ⟨some 21, .mv (.t 0), some (19, false)⟩, ⟨some 22, .bin .eql [] (.t 20) (.t 21), some (19, false)⟩, ⟨some 23, .pick (.t 19) (.c (.bool true)) (.t 22), none⟩, ⟨some 16, .mv (.t 23), none⟩])
  (.cond (.t 16) (.seq (.reg [⟨some 4, .mv (.c (.int .i64 0)), none⟩])
  .ret)
  (.seq (.reg [⟨some 25, .mv (.t 5), none⟩, ⟨some 26, .bin .eql [] (.t 25) (.c (.int .i64 1)), none⟩, ⟨some 24, .mv (.t 26), none⟩])
  (.cond (.t 24) (.seq (.reg [⟨some 27, .mv (.t 0), none⟩, ⟨some 28, .mv (.t 1), none⟩, ⟨some 29, .idx (.t 28) (.c (.int .i64 0)), none⟩, ⟨some 30, .call false (.c (.fnv n_internal_stringslite_IndexByte)) [(.t 27), (.t 29)], none⟩, ⟨some 4, .mv (.t 30), none⟩])
  .ret)
  (.seq (.reg [⟨some 32, .mv (.t 5), none⟩, ⟨some 33, .mv (.t 0), none⟩, ⟨some 34, .len true (.t 33), none⟩, ⟨some 35, .bin .geq [] (.t 32) (.t 34), none⟩, ⟨some 31, .mv (.t 35), none⟩])
  (.cond (.t 31) (.seq (.reg [⟨some 4, .mv (.c (.int .i64 (-1))), none⟩])
  .ret)
  (.seq .stuck
  (.cond (.t 36) (.seq (.reg [⟨some 45, .mv (.t 0), none⟩, ⟨some 46, .mv (.t 1), none⟩, ⟨some 47, .call false (.c (.fnv n_internal_bytealg_IndexString)) [(.t 45), (.t 46)], none⟩, ⟨some 4, .mv (.t 47), none⟩])
  .ret)
  .skip)))))))))
  (.seq (.reg [⟨some 48, .mv (.t 1), none⟩, ⟨some 49, .idx (.t 48) (.c (.int .i64 0)), none⟩, ⟨some 6, .mv (.t 49), none⟩])
  (.seq (.reg [⟨some 50, .mv (.t 1), none⟩, ⟨some 51, .idx (.t 50) (.c (.int .i64 1)), none⟩, ⟨some 7, .mv (.t 51), none⟩])
  (.seq (.reg [⟨some 8, .mv (.c (.int .i64 0)), none⟩])
  (.seq (.reg [⟨some 52, .mv (.t 0), none⟩, ⟨some 53, .len true (.t 52), none⟩, ⟨some 54, .mv (.t 5), none⟩, ⟨some 55, .bin .sub [] (.t 53) (.t 54), none⟩, ⟨some 56, .bin .add [] (.t 55) (.c (.int .i64 1)), none⟩, ⟨some 9, .mv (.t 56), none⟩])
  (.seq (.reg [⟨some 10, .mv (.c (.int .i64 0)), none⟩])
  (.seq (.block 1 (.loop m_internal_stringslite_IndexL1))
  (.seq (.reg [⟨some 4, .mv (.c (.int .i64 (-1))), none⟩])
  .ret))))))))))
theorem c_internal_stringslite_Index : cFn Go.Proofs.Tryd.prog Go.Proofs.Tryd.f45 = some (143, m_internal_stringslite_Index, [.tmp 4]) := by kernel_rfl
theorem e_internal_stringslite_Index : Go.Proofs.Tryd.prog.funcs[n_internal_stringslite_Index]? = some Go.Proofs.Tryd.f45 := Go.Proofs.Tryd.func45
def m_internal_stringslite_HasPrefix : MCode :=
(.seq (.reg [⟨some 4, .mv (.c (.bool false)), none⟩])
  (.seq (.reg [⟨some 5, .mv (.t 0), none⟩, ⟨some 6, .len true (.t 5), none⟩, ⟨some 7, .mv (.t 1), none⟩, ⟨some 8, .len true (.t 7), none⟩, ⟨some 9, .bin .geq [] (.t 6) (.t 8), none⟩, ⟨some 10, .mv (.t 9), none⟩, ⟨some 11, .mv (.t 0), some (10, true)⟩, ⟨some 12, .mv (.t 1), some (10, true)⟩, ⟨some 13, .len true (.t 12), some (10, true)⟩, ⟨some 14, .slc true 0 (.t 11) none (some (.t 13)) none, some (10, true)⟩, ⟨some 15, .mv (.t 1), some (10, true)⟩, ⟨some 16, .bin .eql [] (.t 14) (.t 15), some (10, true)⟩, ⟨some 17, .pick (.t 10) (.t 16) (.c (.bool false)), none⟩, ⟨some 4, .mv (.t 17), none⟩])
  .ret))
theorem c_internal_stringslite_HasPrefix : cFn Go.Proofs.Tryd.prog Go.Proofs.Tryd.f46 = some (18, m_internal_stringslite_HasPrefix, [.tmp 4]) := by kernel_rfl
theorem e_internal_stringslite_HasPrefix : Go.Proofs.Tryd.prog.funcs[n_internal_stringslite_HasPrefix]? = some Go.Proofs.Tryd.f46 := Go.Proofs.Tryd.func46
def m_names_IsPrin : MCode :=
(.seq (.reg [⟨some 2, .mv (.c (.bool false)), none⟩])
  (.seq (.reg [⟨some 3, .mv (.t 0), none⟩, ⟨some 4, .call false (.c (.fnv n_names_is)) [(.t 3), (.c (.fnv n_names_capital))], none⟩, ⟨some 2, .mv (.t 4), none⟩])
  .ret))
theorem c_names_IsPrin : cFn Go.Proofs.Tryd.prog Go.Proofs.Tryd.f47 = some (5, m_names_IsPrin, [.tmp 2]) := by kernel_rfl
theorem e_names_IsPrin : Go.Proofs.Tryd.prog.funcs[n_names_IsPrin]? = some Go.Proofs.Tryd.f47 := Go.Proofs.Tryd.func47
theorem e_internal_abi_NoEscape : Go.Proofs.Tryd.prog.funcs[n_internal_abi_NoEscape]? = some Go.Proofs.Tryd.f48 := Go.Proofs.Tryd.func48
theorem e_internal_bytealg_IndexString : Go.Proofs.Tryd.prog.funcs[n_internal_bytealg_IndexString]? = some Go.Proofs.Tryd.f51 := Go.Proofs.Tryd.func51
def m_names_isL1 : MCode :=
(.seq (.reg [⟨some 25, .bin .lss [] (.t 24) (.t 23), none⟩])
  (.seq (.cond (.t 25) .skip
  (.exit 0))
  (.seq (.block 1 (.seq (.reg [⟨some 26, .mv (.t 24), none⟩, ⟨some 5, .mv (.t 26), none⟩])
  (.seq (.reg [⟨some 27, .mv (.t 0), none⟩, ⟨some 28, .mv (.t 5), none⟩, ⟨some 29, .idx (.t 27) (.t 28), none⟩, ⟨some 6, .mv (.t 29), none⟩])
  (.seq (.reg [⟨some 30, .mv (.t 6), none⟩, ⟨some 31, .call false (.c (.fnv n_names_small)) [(.t 30)], none⟩, ⟨some 32, .not (.t 31), none⟩, ⟨some 33, .mv (.t 32), none⟩, ⟨some 34, .mv (.t 6), some (33, true)⟩, ⟨some 35, .call false (.c (.fnv n_names_capital)) [(.t 34)], some (33, true)⟩, ⟨some 36, .not (.t 35), some (33, true)⟩, ⟨some 37, .pick (.t 33) (.t 36) (.c (.bool false)), none⟩, ⟨some 38, .mv (.t 37), none⟩, ⟨some 39, .mv (.t 6), some (38, true)⟩, ⟨some 40, .call false (.c (.fnv n_names_digit)) [(.t 39)], some (38, true)⟩, ⟨some 41, .not (.t 40), some (38, true)⟩, ⟨some 42, .pick (.t 38) (.t 41) (.c (.bool false)), none⟩])
  (.cond (.t 42) (.seq (.reg [⟨some 4, .mv (.c (.bool false)), none⟩])
  .ret)
  .skip)))))
  (.reg [⟨some 43, .bin .add [] (.t 24) (.c (.int .i64 1)), none⟩, ⟨some 24, .mv (.t 43), none⟩]))))
def m_names_is : MCode :=
(.seq (.reg [⟨some 4, .mv (.c (.bool false)), none⟩])
  (.seq (.seq (.reg [⟨some 7, .mv (.t 0), none⟩, ⟨some 8, .len true (.t 7), none⟩, ⟨some 9, .bin .eql [] (.t 8) (.c (.int .i64 0)), none⟩, ⟨some 10, .mv (.t 9), none⟩, ⟨some 11, .mv (.t 0), some (10, false)⟩, ⟨some 12, .len true (.t 11), some (10, false)⟩, ⟨some 13, .bin .gtr [] (.t 12) (.c (.int .i64 8)), some (10, false)⟩, ⟨some 14, .pick (.t 10) (.c (.bool true)) (.t 13), none⟩, ⟨some 15, .mv (.t 14), none⟩, ⟨some 16, .mv (.t 1), some (15, false)⟩, ⟨some 17, .mv (.t 0), some (15, false)⟩, ⟨some 18, .idx (.t 17) (.c (.int .i64 0)), some (15, false)⟩, ⟨some 19, .call false (.t 16) [(.t 18)], some (15, false)⟩, ⟨some 20, .not (.t 19), some (15, false)⟩, ⟨some 21, .pick (.t 15) (.c (.bool true)) (.t 20), none⟩])
  (.cond (.t 21) (.seq (.reg [⟨some 4, .mv (.c (.bool false)), none⟩])
  .ret)
  .skip))
  (.seq (.seq (.reg [⟨some 22, .mv (.t 0), none⟩, ⟨some 23, .len true (.t 22), none⟩, ⟨some 24, .mv (.c (.int .i64 0)), none⟩])
  (.block 0 (.loop m_names_isL1)))
  (.seq (.reg [⟨some 4, .mv (.c (.bool true)), none⟩])
  .ret))))
theorem c_names_is : cFn Go.Proofs.Tryd.prog Go.Proofs.Tryd.f53 = some (44, m_names_is, [.tmp 4]) := by kernel_rfl
theorem e_names_is : Go.Proofs.Tryd.prog.funcs[n_names_is]? = some Go.Proofs.Tryd.f53 := Go.Proofs.Tryd.func53
def m_names_capital : MCode :=
(.seq (.reg [⟨some 2, .mv (.c (.bool false)), none⟩])
  (.seq (.reg [⟨some 3, .mv (.t 0), none⟩, ⟨some 4, .call false (.c (.fnv n_names_between)) [(.t 3), (.c (.int .u8 65)), (.c (.int .u8 90))], none⟩, ⟨some 2, .mv (.t 4), none⟩])
  .ret))
theorem c_names_capital : cFn Go.Proofs.Tryd.prog Go.Proofs.Tryd.f54 = some (5, m_names_capital, [.tmp 2]) := by kernel_rfl
theorem e_names_capital : Go.Proofs.Tryd.prog.funcs[n_names_capital]? = some Go.Proofs.Tryd.f54 := Go.Proofs.Tryd.func54
def m_names_small : MCode :=
(.seq (.reg [⟨some 2, .mv (.c (.bool false)), none⟩])
  (.seq (.reg [⟨some 3, .mv (.t 0), none⟩, ⟨some 4, .call false (.c (.fnv n_names_between)) [(.t 3), (.c (.int .u8 97)), (.c (.int .u8 122))], none⟩, ⟨some 2, .mv (.t 4), none⟩])
  .ret))
theorem c_names_small : cFn Go.Proofs.Tryd.prog Go.Proofs.Tryd.f56 = some (5, m_names_small, [.tmp 2]) := by kernel_rfl
theorem e_names_small : Go.Proofs.Tryd.prog.funcs[n_names_small]? = some Go.Proofs.Tryd.f56 := Go.Proofs.Tryd.func56
def m_names_digit : MCode :=
(.seq (.reg [⟨some 2, .mv (.c (.bool false)), none⟩])
  (.seq (.reg [⟨some 3, .mv (.t 0), none⟩, ⟨some 4, .call false (.c (.fnv n_names_between)) [(.t 3), (.c (.int .u8 48)), (.c (.int .u8 57))], none⟩, ⟨some 2, .mv (.t 4), none⟩])
  .ret))
theorem c_names_digit : cFn Go.Proofs.Tryd.prog Go.Proofs.Tryd.f57 = some (5, m_names_digit, [.tmp 2]) := by kernel_rfl
theorem e_names_digit : Go.Proofs.Tryd.prog.funcs[n_names_digit]? = some Go.Proofs.Tryd.f57 := Go.Proofs.Tryd.func57
def m_names_between : MCode :=
(.seq (.reg [⟨some 6, .mv (.c (.bool false)), none⟩])
  (.seq (.reg [⟨some 7, .mv (.t 0), none⟩, ⟨some 8, .mv (.t 1), none⟩, ⟨some 9, .bin .geq [] (.t 7) (.t 8), none⟩, ⟨some 10, .mv (.t 9), none⟩, ⟨some 11, .mv (.t 0), some (10, true)⟩, ⟨some 12, .mv (.t 2), some (10, true)⟩, ⟨some 13, .bin .leq [] (.t 11) (.t 12), some (10, true)⟩, ⟨some 14, .pick (.t 10) (.t 13) (.c (.bool false)), none⟩, ⟨some 6, .mv (.t 14), none⟩])
  .ret))
theorem c_names_between : cFn Go.Proofs.Tryd.prog Go.Proofs.Tryd.f58 = some (15, m_names_between, [.tmp 6]) := by kernel_rfl
theorem e_names_between : Go.Proofs.Tryd.prog.funcs[n_names_between]? = some Go.Proofs.Tryd.f58 := Go.Proofs.Tryd.func58
end Cr
