/- The seat's functions and types by name, and its functions' code as the framework reads it: printed by a program of the prover's own. -/
import Derived.Test.YtnhhjfkcmhbblaaDoorVC
import Derived.Test.YtnhhjfkcmhbblaaDoorProg
namespace Go.Proofs
open Go Go.V
set_option maxRecDepth 1000000
abbrev F_main_main : FuncId := 0
abbrev F_gosem_cut : FuncId := 1
abbrev F_gosem_cut_init : FuncId := 2
abbrev F_rostrumlaw12_ValueApart : FuncId := 3
abbrev F_rostrumlaw12_ValueKnown : FuncId := 4
abbrev F_rostrumlaw12_awake : FuncId := 5
abbrev F_value_New : FuncId := 6
abbrev F_value_Show : FuncId := 7
abbrev F_value_AsSet : FuncId := 8
abbrev F_orset_Set_Add : FuncId := 9
abbrev F_value_AsNumber : FuncId := 10
abbrev F_tally_Tally_Add : FuncId := 11
abbrev F_value_AsText : FuncId := 12
abbrev F_last_Last_Write : FuncId := 13
abbrev F_value_Put : FuncId := 14
abbrev F_value_MustSet : FuncId := 15
abbrev F_orset_New : FuncId := 16
abbrev F_tally_New : FuncId := 17
abbrev F_last_New : FuncId := 18
abbrev F_strings_Join : FuncId := 19
abbrev F_orset_Set_All : FuncId := 20
abbrev F_strconv_FormatInt : FuncId := 21
abbrev F_tally_Tally_Value : FuncId := 22
abbrev F_last_Last_Value : FuncId := 23
abbrev F_vec_Dot : FuncId := 24
abbrev F_vec_Rep : FuncId := 25
abbrev F_cmp_Or_int : FuncId := 26
abbrev F_cmp_Compare_int64 : FuncId := 27
abbrev F_dots_Order : FuncId := 28
abbrev F_orset_Set_Put : FuncId := 29
abbrev F_pack_Num : FuncId := 30
abbrev F_tally_Tally_Put : FuncId := 31
abbrev F_last_Last_Put : FuncId := 32
abbrev F_strings_Builder_Grow : FuncId := 33
abbrev F_strings_Builder_WriteString : FuncId := 34
abbrev F_strings_Builder_String : FuncId := 35
abbrev F_orset_Set_live : FuncId := 36
abbrev F_slices_Sort_sl_string_string : FuncId := 37
abbrev F_slices_Compact_sl_string_string : FuncId := 38
abbrev F_internal_strconv_FormatInt : FuncId := 39
abbrev F_cmp_isNaN_int64 : FuncId := 40
abbrev F_cmp_Compare_int : FuncId := 41
abbrev F_orset_Set_Dots : FuncId := 42
abbrev F_pack_Text : FuncId := 43
abbrev F_bytes_Clone : FuncId := 44
abbrev F_vec_Put : FuncId := 45
abbrev F_strings_Builder_copyCheck : FuncId := 46
abbrev F_strings_Builder_grow : FuncId := 47
abbrev F_vec_Has : FuncId := 48
abbrev F_slices_pdqsortOrdered_string : FuncId := 49
abbrev F_math_bits_Len : FuncId := 50
abbrev F_internal_strconv_small : FuncId := 51
abbrev F_internal_strconv_numDigits : FuncId := 52
abbrev F_internal_strconv_formatBase10 : FuncId := 53
abbrev F_internal_strconv_formatBits : FuncId := 54
abbrev F_cmp_isNaN_int : FuncId := 55
abbrev F_slices_SortFunc_sl_api_Dot_api_Dot : FuncId := 56
abbrev F_pack_Bytes : FuncId := 57
abbrev F_internal_abi_NoEscape : FuncId := 58
abbrev F_internal_bytealg_MakeNoZero : FuncId := 59
abbrev F_slices_insertionSortOrdered_string : FuncId := 60
abbrev F_slices_heapSortOrdered_string : FuncId := 61
abbrev F_slices_breakPatternsOrdered_string : FuncId := 62
abbrev F_slices_choosePivotOrdered_string : FuncId := 63
abbrev F_slices_reverseRangeOrdered_string : FuncId := 64
abbrev F_slices_partialInsertionSortOrdered_string : FuncId := 65
abbrev F_cmp_Less_string : FuncId := 66
abbrev F_slices_partitionEqualOrdered_string : FuncId := 67
abbrev F_slices_partitionOrdered_string : FuncId := 68
abbrev F_math_bits_Len32 : FuncId := 69
abbrev F_math_bits_Len64 : FuncId := 70
abbrev F_internal_strconv_log10Pow2 : FuncId := 71
abbrev F_internal_strconv_bool2_int : FuncId := 72
abbrev F_internal_strconv_isPowerOfTwo : FuncId := 73
abbrev F_math_bits_TrailingZeros : FuncId := 74
abbrev F_slices_pdqsortCmpFunc_api_Dot : FuncId := 75
abbrev F_slices_siftDownOrdered_string : FuncId := 76
abbrev F_slices_nextPowerOfTwo : FuncId := 77
abbrev F_slices_xorshift_Next : FuncId := 78
abbrev F_slices_medianAdjacentOrdered_string : FuncId := 79
abbrev F_slices_medianOrdered_string : FuncId := 80
abbrev F_cmp_isNaN_string : FuncId := 81
abbrev F_math_bits_TrailingZeros32 : FuncId := 82
abbrev F_math_bits_TrailingZeros64 : FuncId := 83
abbrev F_slices_insertionSortCmpFunc_api_Dot : FuncId := 84
abbrev F_slices_heapSortCmpFunc_api_Dot : FuncId := 85
abbrev F_slices_breakPatternsCmpFunc_api_Dot : FuncId := 86
abbrev F_slices_choosePivotCmpFunc_api_Dot : FuncId := 87
abbrev F_slices_reverseRangeCmpFunc_api_Dot : FuncId := 88
abbrev F_slices_partialInsertionSortCmpFunc_api_Dot : FuncId := 89
abbrev F_slices_partitionEqualCmpFunc_api_Dot : FuncId := 90
abbrev F_slices_partitionCmpFunc_api_Dot : FuncId := 91
abbrev F_slices_order2Ordered_string : FuncId := 92
abbrev F_slices_siftDownCmpFunc_api_Dot : FuncId := 93
abbrev F_slices_medianAdjacentCmpFunc_api_Dot : FuncId := 94
abbrev F_slices_medianCmpFunc_api_Dot : FuncId := 95
abbrev F_slices_order2CmpFunc_api_Dot : FuncId := 96
abbrev F_runtime_boundsError_Error : FuncId := 97
abbrev F_runtime_boundsError_RuntimeError : FuncId := 98
abbrev F_runtime_errorString_Error : FuncId := 99
abbrev F_runtime_errorString_RuntimeError : FuncId := 100
abbrev F_runtime_plainError_Error : FuncId := 101
abbrev F_runtime_plainError_RuntimeError : FuncId := 102
abbrev F_runtime_errorAddressString_Error : FuncId := 103
abbrev F_runtime_errorAddressString_RuntimeError : FuncId := 104
abbrev F_runtime_TypeAssertionError_Error : FuncId := 105
abbrev F_runtime_TypeAssertionError_RuntimeError : FuncId := 106
abbrev F_runtime_PanicNilError_Error : FuncId := 107
abbrev F_runtime_PanicNilError_RuntimeError : FuncId := 108
abbrev F_internal_abi_Type_Align : FuncId := 109
abbrev F_internal_abi_Type_Kind : FuncId := 110
abbrev F_internal_runtime_maps_unhashableTypeError_Error : FuncId := 111
abbrev F_internal_runtime_maps_unhashableTypeError_RuntimeError : FuncId := 112
abbrev F_api_Errno_Error : FuncId := 113
abbrev F_orset_Set_Has : FuncId := 114
abbrev F_value_Set_Kind : FuncId := 115
abbrev F_value_Text_Kind : FuncId := 116
abbrev F_value_Number_Kind : FuncId := 117
abbrev F_strings_Builder_Reset : FuncId := 118
abbrev F_internal_abi_Kind_String : FuncId := 119
abbrev F_var_s_door_gosem_cut_vars_holds_initialisers_alone_see_the_manifest_s_row_cutvarsword_look_11_test_files_too : FuncId := 120
abbrev F_var_s_door_internal_strconv_uint64pow10_is_laid_by_its_own_initialiser_plain_data_look_11 : FuncId := 121
abbrev F_var_s_door_math_bits_deBruijn32tab_is_laid_by_its_own_initialiser_plain_data_look_11 : FuncId := 122
abbrev F_var_s_door_math_bits_deBruijn64tab_is_laid_by_its_own_initialiser_plain_data_look_11 : FuncId := 123
abbrev F_var_s_door_the_look_of_gosem_cut_vars_went_over_the_folder_that_the_caller_named_as_the_repository_s_root_look_11 : FuncId := 124
abbrev F_gosem_cut_vars : FuncId := 125
abbrev T_func : TypeId := 1
abbrev T_int64 : TypeId := 2
abbrev T_int : TypeId := 3
abbrev T_bool : TypeId := 4
abbrev T_uint8 : TypeId := 5
abbrev T_internal_abi_BoundsErrorCode : TypeId := 6
abbrev T_struct_x_int64_y_int_signed_bool_code_abi_BoundsErrorCode : TypeId := 7
abbrev T_runtime_boundsError : TypeId := 8
abbrev T_string : TypeId := 9
abbrev T_runtime_errorString : TypeId := 10
abbrev T_runtime_plainError : TypeId := 11
abbrev T_uintptr : TypeId := 12
abbrev T_struct_msg_string_addr_uintptr : TypeId := 13
abbrev T_runtime_errorAddressString : TypeId := 14
abbrev T_p_runtime_TypeAssertionError : TypeId := 15
abbrev T_p_runtime_PanicNilError : TypeId := 16
abbrev T_p_abi_Type : TypeId := 17
abbrev T_struct_typ_p_abi_Type : TypeId := 18
abbrev T_internal_runtime_maps_unhashableTypeError : TypeId := 19
abbrev T_interface : TypeId := 20
abbrev T_int32 : TypeId := 21
abbrev T_func_bool : TypeId := 22
abbrev T_interface_Kind_int : TypeId := 23
abbrev T_value_Value : TypeId := 24
abbrev T_api_Errno : TypeId := 25
abbrev T_value_Value_api_Errno : TypeId := 26
abbrev T_func_int_value_Value_api_Errno : TypeId := 27
abbrev T_func_value_Value_string : TypeId := 28
abbrev T_p_orset_Set : TypeId := 29
abbrev T_p_orset_Set_bool : TypeId := 30
abbrev T_func_value_Value_p_orset_Set_bool : TypeId := 31
abbrev T_func_api_Dot_string_api_Errno : TypeId := 32
abbrev T_struct_Rep_int_N_int64 : TypeId := 33
abbrev T_api_Dot : TypeId := 34
abbrev T_p_tally_Tally : TypeId := 35
abbrev T_p_tally_Tally_bool : TypeId := 36
abbrev T_func_value_Value_p_tally_Tally_bool : TypeId := 37
abbrev T_func_int_int64_api_Errno : TypeId := 38
abbrev T_p_last_Last : TypeId := 39
abbrev T_p_last_Last_bool : TypeId := 40
abbrev T_func_value_Value_p_last_Last_bool : TypeId := 41
abbrev T_bool_api_Errno : TypeId := 42
abbrev T_func_string_int64_api_Dot_bool_api_Errno : TypeId := 43
abbrev T_func_int : TypeId := 44
abbrev T_func_int_string_int64_bool : TypeId := 45
abbrev T_struct_S_p_orset_Set : TypeId := 46
abbrev T_value_Set : TypeId := 47
abbrev T_sl_uint8 : TypeId := 48
abbrev T_func_sl_uint8_value_Value_sl_uint8 : TypeId := 49
abbrev T_struct_L_p_last_Last : TypeId := 50
abbrev T_value_Text : TypeId := 51
abbrev T_func_value_Value_p_orset_Set : TypeId := 52
abbrev T_func_p_orset_Set : TypeId := 53
abbrev T_func_p_tally_Tally : TypeId := 54
abbrev T_struct_T_p_tally_Tally : TypeId := 55
abbrev T_value_Number : TypeId := 56
abbrev T_func_p_last_Last : TypeId := 57
abbrev T_func_sl_string_string_string : TypeId := 58
abbrev T_sl_string : TypeId := 59
abbrev T_func_sl_string : TypeId := 60
abbrev T_func_int64_int_string : TypeId := 61
abbrev T_func_int64 : TypeId := 62
abbrev T_string_bool : TypeId := 63
abbrev T_func_string_bool : TypeId := 64
abbrev T_value_Set_bool : TypeId := 65
abbrev T_func_api_Dot_bool : TypeId := 66
abbrev T_map_api_Dot_string : TypeId := 67
abbrev T_map_string_vec_Vec : TypeId := 68
abbrev T_struct_added_map_api_Dot_string_gone_map_string_vec_Vec : TypeId := 69
abbrev T_orset_Set : TypeId := 70
abbrev T_value_Number_bool : TypeId := 71
abbrev T_func_int_bool : TypeId := 72
abbrev T_p_7_int64 : TypeId := 73
abbrev T_7_int64 : TypeId := 74
abbrev T_struct_up_7_int64_down_7_int64 : TypeId := 75
abbrev T_tally_Tally : TypeId := 76
abbrev T_value_Text_bool : TypeId := 77
abbrev T_func_int_int : TypeId := 78
abbrev T_func_int64_int64_int : TypeId := 79
abbrev T_struct_there_bool_text_string_time_int64_dot_api_Dot : TypeId := 80
abbrev T_last_Last : TypeId := 81
abbrev T_func_api_Dot_api_Dot_int : TypeId := 82
abbrev T_func_sl_uint8_sl_uint8 : TypeId := 83
abbrev T_func_sl_uint8_int64_sl_uint8 : TypeId := 84
abbrev T_p_strings_Builder : TypeId := 85
abbrev T_struct_addr_p_strings_Builder_buf_sl_uint8 : TypeId := 86
abbrev T_strings_Builder : TypeId := 87
abbrev T_func_int_n88 : TypeId := 88
abbrev T_interface_Error_string : TypeId := 89
abbrev T_error : TypeId := 90
abbrev T_int_error : TypeId := 91
abbrev T_func_string_int_error : TypeId := 92
abbrev T_func_string : TypeId := 93
abbrev T_func_api_Dot_string_bool : TypeId := 94
abbrev T_func_sl_string_n95 : TypeId := 95
abbrev T_func_sl_string_sl_string : TypeId := 96
abbrev T_sl_int : TypeId := 97
abbrev T_func_int64_bool : TypeId := 98
abbrev T_func_int_int_int : TypeId := 99
abbrev T_sl_api_Dot : TypeId := 100
abbrev T_func_string_sl_api_Dot : TypeId := 101
abbrev T_func_sl_uint8_string_sl_uint8 : TypeId := 102
abbrev T_uint64 : TypeId := 103
abbrev T_uint : TypeId := 104
abbrev T_func_sl_uint8_vec_Vec_sl_uint8 : TypeId := 105
abbrev T_p_uint8 : TypeId := 106
abbrev T_func_vec_Vec_api_Dot_bool : TypeId := 107
abbrev T_vec_Vec : TypeId := 108
abbrev T_func_sl_string_int_int_int : TypeId := 109
abbrev T_func_uint_int : TypeId := 110
abbrev T_func_int_string : TypeId := 111
abbrev T_24_uint8 : TypeId := 112
abbrev T_func_uint64_int : TypeId := 113
abbrev T_func_sl_uint8_uint64 : TypeId := 114
abbrev T_sl_uint8_string : TypeId := 115
abbrev T_func_sl_uint8_uint64_int_bool_bool_sl_uint8_string : TypeId := 116
abbrev T_func_sl_api_Dot_func_api_Dot_api_Dot_int : TypeId := 117
abbrev T_func_sl_uint8_sl_uint8_sl_uint8 : TypeId := 118
abbrev T_unsafe_Pointer : TypeId := 119
abbrev T_func_unsafe_Pointer_unsafe_Pointer : TypeId := 120
abbrev T_func_int_sl_uint8 : TypeId := 121
abbrev T_func_sl_string_int_int : TypeId := 122
abbrev T_slices_sortedHint : TypeId := 123
abbrev T_int_slices_sortedHint : TypeId := 124
abbrev T_func_sl_string_int_int_int_slices_sortedHint : TypeId := 125
abbrev T_func_sl_string_int_int_bool : TypeId := 126
abbrev T_func_string_string_bool : TypeId := 127
abbrev T_func_sl_string_int_int_int_int : TypeId := 128
abbrev T_int_bool : TypeId := 129
abbrev T_func_sl_string_int_int_int_int_bool : TypeId := 130
abbrev T_func_uint32_int : TypeId := 131
abbrev T_uint32 : TypeId := 132
abbrev T_func_int_int_n133 : TypeId := 133
abbrev T_func_bool_int : TypeId := 134
abbrev T_20_uint64 : TypeId := 135
abbrev T_65_uint8 : TypeId := 136
abbrev T_func_sl_api_Dot_int_int_int_func_api_Dot_api_Dot_int : TypeId := 137
abbrev T_slices_xorshift : TypeId := 138
abbrev T_func_int_uint : TypeId := 139
abbrev T_func_uint64 : TypeId := 140
abbrev T_func_sl_string_int_p_int_int : TypeId := 141
abbrev T_p_int : TypeId := 142
abbrev T_func_sl_string_int_int_int_p_int_int : TypeId := 143
abbrev T_func_string_bool_n144 : TypeId := 144
abbrev T_func_sl_api_Dot_int_int_func_api_Dot_api_Dot_int : TypeId := 145
abbrev T_func_sl_api_Dot_int_int_func_api_Dot_api_Dot_int_int_slices_sortedHint : TypeId := 146
abbrev T_func_sl_api_Dot_int_int_func_api_Dot_api_Dot_int_bool : TypeId := 147
abbrev T_func_sl_api_Dot_int_int_int_func_api_Dot_api_Dot_int_int : TypeId := 148
abbrev T_func_sl_api_Dot_int_int_int_func_api_Dot_api_Dot_int_int_bool : TypeId := 149
abbrev T_p_slices_xorshift : TypeId := 150
abbrev T_int_int : TypeId := 151
abbrev T_func_sl_string_int_int_p_int_int_int : TypeId := 152
abbrev T_32_uint8 : TypeId := 153
abbrev T_64_uint8 : TypeId := 154
abbrev T_func_sl_api_Dot_int_p_int_func_api_Dot_api_Dot_int_int : TypeId := 155
abbrev T_func_sl_api_Dot_int_int_int_p_int_func_api_Dot_api_Dot_int_int : TypeId := 156
abbrev T_func_sl_api_Dot_int_int_p_int_func_api_Dot_api_Dot_int_int_int : TypeId := 157
abbrev T_struct_interface_p_abi_Type_concrete_p_abi_Type_asserted_p_abi_Type_missingMethod_string : TypeId := 158
abbrev T_runtime_TypeAssertionError : TypeId := 159
abbrev T_0_p_runtime_PanicNilError : TypeId := 160
abbrev T_struct_0_p_runtime_PanicNilError : TypeId := 161
abbrev T_runtime_PanicNilError : TypeId := 162
abbrev T_func_abi_Kind : TypeId := 163
abbrev T_internal_abi_TFlag : TypeId := 164
abbrev T_internal_abi_Kind : TypeId := 165
abbrev T_func_unsafe_Pointer_unsafe_Pointer_bool : TypeId := 166
abbrev T_internal_abi_NameOff : TypeId := 167
abbrev T_internal_abi_TypeOff : TypeId := 168
abbrev T_struct_Size_uintptr_PtrBytes_uintptr_Hash_uint32_TFlag_abi_TFlag_Align_uint8_FieldAlign_uint8_Kind_abi_Kind_Equal_func_unsafe_Pointer_unsafe_Pointer_bool_GCData_p_uint8_Str_abi_NameOff_PtrToThis_abi_TypeOff : TypeId := 169
abbrev T_internal_abi_Type : TypeId := 170
def p_rostrumlaw12_ValueApart : List (Nat × Pl) := []
def c_rostrumlaw12_ValueApart : VCode :=
 (.seq (.reg [⟨(some 6), none, .mov (.c (.kb false))⟩])
 (.seq (.seq (.reg [⟨(some 18), none, .call 5 []⟩,
   ⟨(some 19), none, .un .not (.t 18)⟩])
 (.cond (.t 19)
  (.seq (.reg [⟨(some 6), none, .mov (.c (.kb false))⟩])
  .ret)
  .skip))
 (.seq (.seq (.reg [⟨(some 20), none, .mov (.t 1)⟩,
   ⟨(some 21), none, .len .str (.t 20)⟩,
   ⟨(some 22), none, .bin .gtr .no (.t 21) (.c (.raw (.int .i64 100)))⟩])
 (.cond (.t 22)
  (.seq (.reg [⟨(some 6), none, .mov (.c (.kb true))⟩])
  .ret)
  .skip))
 (.seq (.reg [⟨(some 24), none, .mov (.t 0)⟩,
   ⟨(some 25), none, .call 6 [(.t 24)]⟩,
   ⟨(some 23), none, .mov (.t 25)⟩,
   ⟨(some 26), none, .extr (.t 23) 0⟩,
   ⟨(some 27), none, .extr (.t 23) 1⟩,
   ⟨(some 7), none, .mov (.t 26)⟩,
   ⟨(some 8), none, .mov (.t 27)⟩])
 (.seq (.reg [⟨(some 29), none, .mov (.t 0)⟩,
   ⟨(some 30), none, .call 6 [(.t 29)]⟩,
   ⟨(some 28), none, .mov (.t 30)⟩,
   ⟨(some 31), none, .extr (.t 28) 0⟩,
   ⟨(some 32), none, .extr (.t 28) 1⟩,
   ⟨(some 9), none, .mov (.t 31)⟩,
   ⟨(some 10), none, .mov (.t 32)⟩])
 (.seq (.seq (.reg [⟨(some 33), none, .mov (.t 0)⟩,
   ⟨(some 34), none, .bin .lss .no (.t 33) (.c (.raw (.int .i64 1)))⟩,
   ⟨(some 35), none, .mov (.t 34)⟩,
   ⟨(some 36), (some (35, false)), .mov (.t 0)⟩,
   ⟨(some 37), (some (35, false)), .bin .gtr .no (.t 36) (.c (.raw (.int .i64 3)))⟩,
   ⟨(some 38), none, .pick (.t 35) (.c (.kb true)) (.t 37)⟩])
 (.cond (.t 38)
  (.seq (.reg [⟨(some 39), none, .mov (.t 8)⟩,
    ⟨(some 40), none, .bin .eql .no (.t 39) (.c (.raw (.int .i64 1)))⟩,
    ⟨(some 41), none, .mov (.t 40)⟩,
    ⟨(some 42), (some (41, true)), .mov (.t 10)⟩,
    ⟨(some 43), (some (41, true)), .bin .eql .no (.t 42) (.c (.raw (.int .i64 1)))⟩,
    ⟨(some 44), none, .pick (.t 41) (.t 43) (.c (.kb false))⟩,
    ⟨(some 45), none, .mov (.t 44)⟩,
    ⟨(some 46), (some (45, true)), .mov (.t 7)⟩,
    ⟨(some 47), (some (45, true)), .bin .eql .ifn (.t 46) (.c (.raw .nilIface))⟩,
    ⟨(some 48), none, .pick (.t 45) (.t 47) (.c (.kb false))⟩,
    ⟨(some 49), none, .mov (.t 48)⟩,
    ⟨(some 50), (some (49, true)), .mov (.t 9)⟩,
    ⟨(some 51), (some (49, true)), .bin .eql .ifn (.t 50) (.c (.raw .nilIface))⟩,
    ⟨(some 52), none, .pick (.t 49) (.t 51) (.c (.kb false))⟩,
    ⟨(some 6), none, .mov (.t 52)⟩])
  .ret)
  .skip))
 (.seq (.seq (.reg [⟨(some 53), none, .mov (.t 8)⟩,
   ⟨(some 54), none, .bin .neq .no (.t 53) (.c (.raw (.int .i64 0)))⟩,
   ⟨(some 55), none, .mov (.t 54)⟩,
   ⟨(some 56), (some (55, false)), .mov (.t 10)⟩,
   ⟨(some 57), (some (55, false)), .bin .neq .no (.t 56) (.c (.raw (.int .i64 0)))⟩,
   ⟨(some 58), none, .pick (.t 55) (.c (.kb true)) (.t 57)⟩,
   ⟨(some 59), none, .mov (.t 58)⟩,
   ⟨(some 60), (some (59, false)), .mov (.t 7)⟩,
   ⟨(some 61), (some (59, false)), .bin .eql .ifn (.t 60) (.c (.raw .nilIface))⟩,
   ⟨(some 62), none, .pick (.t 59) (.c (.kb true)) (.t 61)⟩,
   ⟨(some 63), none, .mov (.t 62)⟩,
   ⟨(some 64), (some (63, false)), .mov (.t 9)⟩,
   ⟨(some 65), (some (63, false)), .bin .eql .ifn (.t 64) (.c (.raw .nilIface))⟩,
   ⟨(some 66), none, .pick (.t 63) (.c (.kb true)) (.t 65)⟩])
 (.cond (.t 66)
  (.seq (.reg [⟨(some 6), none, .mov (.c (.kb false))⟩])
  .ret)
  .skip))
 (.seq (.reg [⟨(some 67), none, .mov (.t 9)⟩,
   ⟨(some 68), none, .call 7 [(.t 67)]⟩,
   ⟨(some 11), none, .mov (.t 68)⟩])
 (.seq (.seq (.reg [⟨(some 70), none, .mov (.t 7)⟩,
   ⟨(some 71), none, .call 8 [(.t 70)]⟩,
   ⟨(some 69), none, .mov (.t 71)⟩,
   ⟨(some 72), none, .extr (.t 69) 0⟩,
   ⟨(some 73), none, .extr (.t 69) 1⟩,
   ⟨(some 12), none, .mov (.t 72)⟩,
   ⟨(some 13), none, .mov (.t 73)⟩])
 (.seq (.reg [⟨(some 74), none, .mov (.t 13)⟩,
   ⟨(some 75), none, .mov (.t 74)⟩,
   ⟨(some 76), (some (75, true)), .mov (.t 12)⟩,
   ⟨(some 77), (some (75, true)), .bin .neq .p (.t 76) (.c (.raw (.pointer none)))⟩,
   ⟨(some 78), none, .pick (.t 75) (.t 77) (.c (.kb false))⟩])
 (.cond (.t 78)
  (.reg [⟨(some 79), none, .mov (.t 12)⟩,
    ⟨(some 80), none, .build [(.int .i64 0), (.int .i64 0)] [(1, 1, (.c (.raw (.int .i64 1))))]⟩,
    ⟨(some 81), none, .mov (.t 1)⟩,
    ⟨(some 82), none, .call 9 [(.t 79), (.t 80), (.t 81)]⟩])
  .skip)))
 (.seq (.seq (.reg [⟨(some 84), none, .mov (.t 7)⟩,
   ⟨(some 85), none, .call 10 [(.t 84)]⟩,
   ⟨(some 83), none, .mov (.t 85)⟩,
   ⟨(some 86), none, .extr (.t 83) 0⟩,
   ⟨(some 87), none, .extr (.t 83) 1⟩,
   ⟨(some 14), none, .mov (.t 86)⟩,
   ⟨(some 15), none, .mov (.t 87)⟩])
 (.seq (.reg [⟨(some 88), none, .mov (.t 15)⟩,
   ⟨(some 89), none, .mov (.t 88)⟩,
   ⟨(some 90), (some (89, true)), .mov (.t 14)⟩,
   ⟨(some 91), (some (89, true)), .bin .neq .p (.t 90) (.c (.raw (.pointer none)))⟩,
   ⟨(some 92), none, .pick (.t 89) (.t 91) (.c (.kb false))⟩])
 (.cond (.t 92)
  (.reg [⟨(some 93), none, .mov (.t 14)⟩,
    ⟨(some 94), none, .mov (.t 2)⟩,
    ⟨(some 95), none, .call 11 [(.t 93), (.c (.raw (.int .i64 0))), (.t 94)]⟩])
  .skip)))
 (.seq (.seq (.reg [⟨(some 97), none, .mov (.t 7)⟩,
   ⟨(some 98), none, .call 12 [(.t 97)]⟩,
   ⟨(some 96), none, .mov (.t 98)⟩,
   ⟨(some 99), none, .extr (.t 96) 0⟩,
   ⟨(some 100), none, .extr (.t 96) 1⟩,
   ⟨(some 16), none, .mov (.t 99)⟩,
   ⟨(some 17), none, .mov (.t 100)⟩])
 (.seq (.reg [⟨(some 101), none, .mov (.t 17)⟩,
   ⟨(some 102), none, .mov (.t 101)⟩,
   ⟨(some 103), (some (102, true)), .mov (.t 16)⟩,
   ⟨(some 104), (some (102, true)), .bin .neq .p (.t 103) (.c (.raw (.pointer none)))⟩,
   ⟨(some 105), none, .pick (.t 102) (.t 104) (.c (.kb false))⟩])
 (.cond (.t 105)
  (.reg [⟨(some 106), none, .mov (.t 16)⟩,
    ⟨(some 107), none, .mov (.t 1)⟩,
    ⟨(some 108), none, .build [(.int .i64 0), (.int .i64 0)] [(1, 1, (.c (.raw (.int .i64 1))))]⟩,
    ⟨(some 109), none, .call 13 [(.t 106), (.t 107), (.c (.raw (.int .i64 1))), (.t 108)]⟩])
  .skip)))
 (.seq (.reg [⟨(some 110), none, .mov (.t 9)⟩,
   ⟨(some 111), none, .call 7 [(.t 110)]⟩,
   ⟨(some 112), none, .mov (.t 11)⟩,
   ⟨(some 113), none, .bin .eql .no (.t 111) (.t 112)⟩,
   ⟨(some 114), none, .mov (.t 113)⟩,
   ⟨(some 115), (some (114, true)), .mov (.t 7)⟩,
   ⟨(some 116), (some (114, true)), .invoke "Kind" (.t 115) []⟩,
   ⟨(some 117), (some (114, true)), .mov (.t 0)⟩,
   ⟨(some 118), (some (114, true)), .bin .eql .no (.t 116) (.t 117)⟩,
   ⟨(some 119), none, .pick (.t 114) (.t 118) (.c (.kb false))⟩,
   ⟨(some 120), none, .mov (.t 119)⟩,
   ⟨(some 121), (some (120, true)), .mov (.t 9)⟩,
   ⟨(some 122), (some (120, true)), .invoke "Kind" (.t 121) []⟩,
   ⟨(some 123), (some (120, true)), .mov (.t 0)⟩,
   ⟨(some 124), (some (120, true)), .bin .eql .no (.t 122) (.t 123)⟩,
   ⟨(some 125), none, .pick (.t 120) (.t 124) (.c (.kb false))⟩,
   ⟨(some 6), none, .mov (.t 125)⟩])
 .ret))))))))))))
theorem i_rostrumlaw12_ValueApart : Is Tryd.prog 3 126 [.t 6] c_rostrumlaw12_ValueApart := ⟨Tryd.f3, _, p_rostrumlaw12_ValueApart, rfl, rfl, by kernel_rfl, by kernel_rfl, rfl⟩
def p_rostrumlaw12_ValueKnown : List (Nat × Pl) := []
def c_rostrumlaw12_ValueKnown : VCode :=
 (.seq (.reg [⟨(some 0), none, .mov (.c (.kb false))⟩])
 (.seq (.seq (.reg [⟨(some 17), none, .call 5 []⟩,
   ⟨(some 18), none, .un .not (.t 17)⟩])
 (.cond (.t 18)
  (.seq (.reg [⟨(some 0), none, .mov (.c (.kb false))⟩])
  .ret)
  .skip))
 (.seq (.reg [⟨(some 20), none, .call 6 [(.c (.raw (.int .i64 0)))]⟩,
   ⟨(some 19), none, .mov (.t 20)⟩,
   ⟨(some 21), none, .extr (.t 19) 0⟩,
   ⟨(some 22), none, .extr (.t 19) 1⟩,
   ⟨(some 1), none, .mov (.t 21)⟩,
   ⟨(some 2), none, .mov (.t 22)⟩])
 (.seq (.reg [⟨(some 24), none, .call 6 [(.c (.raw (.int .i64 4)))]⟩,
   ⟨(some 23), none, .mov (.t 24)⟩,
   ⟨(some 25), none, .extr (.t 23) 0⟩,
   ⟨(some 26), none, .extr (.t 23) 1⟩,
   ⟨(some 3), none, .mov (.t 25)⟩,
   ⟨(some 4), none, .mov (.t 26)⟩])
 (.seq (.reg [⟨(some 28), none, .call 6 [(.c (.raw (.int .i64 1)))]⟩,
   ⟨(some 27), none, .mov (.t 28)⟩,
   ⟨(some 29), none, .extr (.t 27) 0⟩,
   ⟨(some 30), none, .extr (.t 27) 1⟩,
   ⟨(some 5), none, .mov (.t 29)⟩,
   ⟨(some 6), none, .mov (.t 30)⟩])
 (.seq (.reg [⟨(some 32), none, .call 6 [(.c (.raw (.int .i64 3)))]⟩,
   ⟨(some 31), none, .mov (.t 32)⟩,
   ⟨(some 33), none, .extr (.t 31) 0⟩,
   ⟨(some 34), none, .extr (.t 31) 1⟩,
   ⟨(some 7), none, .mov (.t 33)⟩,
   ⟨(some 8), none, .mov (.t 34)⟩])
 (.seq (.seq (.reg [⟨(some 35), none, .mov (.t 5)⟩,
   ⟨(some 36), none, .bin .eql .ifn (.t 35) (.c (.raw .nilIface))⟩,
   ⟨(some 37), none, .mov (.t 36)⟩,
   ⟨(some 38), (some (37, false)), .mov (.t 7)⟩,
   ⟨(some 39), (some (37, false)), .bin .eql .ifn (.t 38) (.c (.raw .nilIface))⟩,
   ⟨(some 40), none, .pick (.t 37) (.c (.kb true)) (.t 39)⟩])
 (.cond (.t 40)
  (.seq (.reg [⟨(some 0), none, .mov (.c (.kb false))⟩])
  .ret)
  .skip))
 (.seq (.reg [⟨(some 42), none, .mov (.t 5)⟩,
   ⟨(some 43), none, .call 8 [(.t 42)]⟩,
   ⟨(some 41), none, .mov (.t 43)⟩,
   ⟨(some 44), none, .extr (.t 41) 0⟩,
   ⟨(some 45), none, .extr (.t 41) 1⟩,
   ⟨(some 9), none, .mov (.t 44)⟩,
   ⟨(some 10), none, .mov (.t 45)⟩])
 (.seq (.reg [⟨(some 47), none, .mov (.t 7)⟩,
   ⟨(some 48), none, .call 12 [(.t 47)]⟩,
   ⟨(some 46), none, .mov (.t 48)⟩,
   ⟨(some 49), none, .extr (.t 46) 0⟩,
   ⟨(some 50), none, .extr (.t 46) 1⟩,
   ⟨(some 11), none, .mov (.t 49)⟩,
   ⟨(some 12), none, .mov (.t 50)⟩])
 (.seq (.seq (.reg [⟨(some 51), none, .mov (.t 10)⟩,
   ⟨(some 52), none, .un .not (.t 51)⟩,
   ⟨(some 53), none, .mov (.t 52)⟩,
   ⟨(some 54), (some (53, false)), .mov (.t 12)⟩,
   ⟨(some 55), (some (53, false)), .un .not (.t 54)⟩,
   ⟨(some 56), none, .pick (.t 53) (.c (.kb true)) (.t 55)⟩,
   ⟨(some 57), none, .mov (.t 56)⟩,
   ⟨(some 58), (some (57, false)), .mov (.t 9)⟩,
   ⟨(some 59), (some (57, false)), .bin .eql .p (.t 58) (.c (.raw (.pointer none)))⟩,
   ⟨(some 60), none, .pick (.t 57) (.c (.kb true)) (.t 59)⟩,
   ⟨(some 61), none, .mov (.t 60)⟩,
   ⟨(some 62), (some (61, false)), .mov (.t 11)⟩,
   ⟨(some 63), (some (61, false)), .bin .eql .p (.t 62) (.c (.raw (.pointer none)))⟩,
   ⟨(some 64), none, .pick (.t 61) (.c (.kb true)) (.t 63)⟩])
 (.cond (.t 64)
  (.seq (.reg [⟨(some 0), none, .mov (.c (.kb false))⟩])
  .ret)
  .skip))
 (.seq (.reg [⟨(some 65), none, .mov (.t 9)⟩,
   ⟨(some 66), none, .build [(.int .i64 0), (.int .i64 0)] [(1, 1, (.c (.raw (.int .i64 1))))]⟩,
   ⟨(some 67), none, .call 9 [(.t 65), (.t 66), (.c (.raw (.string (ByteArray.mk #[98]))))]⟩])
 (.seq (.reg [⟨(some 68), none, .mov (.t 9)⟩,
   ⟨(some 69), none, .build [(.int .i64 0), (.int .i64 0)] [(1, 1, (.c (.raw (.int .i64 2))))]⟩,
   ⟨(some 70), none, .call 9 [(.t 68), (.t 69), (.c (.raw (.string (ByteArray.mk #[97]))))]⟩])
 (.seq (.reg [⟨(some 71), none, .mov (.t 11)⟩,
   ⟨(some 72), none, .build [(.int .i64 0), (.int .i64 0)] [(1, 1, (.c (.raw (.int .i64 1))))]⟩,
   ⟨(some 73), none, .call 13 [(.t 71), (.c (.raw (.string (ByteArray.mk #[116])))), (.c (.raw (.int .i64 1))), (.t 72)]⟩])
 (.seq (.reg [⟨(some 75), none, .call 8 [(.c (.raw .nilIface))]⟩,
   ⟨(some 74), none, .mov (.t 75)⟩,
   ⟨(some 76), none, .extr (.t 74) 0⟩,
   ⟨(some 77), none, .extr (.t 74) 1⟩,
   ⟨(some 13), none, .mov (.t 76)⟩,
   ⟨(some 14), none, .mov (.t 77)⟩])
 (.seq (.reg [⟨(some 79), none, .build [(.pointer none)] []⟩,
   ⟨(some 80), none, .mkif 47 (.t 79)⟩,
   ⟨(some 81), none, .call 8 [(.t 80)]⟩,
   ⟨(some 78), none, .mov (.t 81)⟩,
   ⟨(some 82), none, .extr (.t 78) 0⟩,
   ⟨(some 83), none, .extr (.t 78) 1⟩,
   ⟨(some 15), none, .mov (.t 82)⟩,
   ⟨(some 16), none, .mov (.t 83)⟩])
 (.seq (.reg [⟨(some 84), none, .mov (.t 2)⟩,
   ⟨(some 85), none, .bin .eql .no (.t 84) (.c (.raw (.int .i64 1)))⟩,
   ⟨(some 86), none, .mov (.t 85)⟩,
   ⟨(some 87), (some (86, true)), .mov (.t 4)⟩,
   ⟨(some 88), (some (86, true)), .bin .eql .no (.t 87) (.c (.raw (.int .i64 1)))⟩,
   ⟨(some 89), none, .pick (.t 86) (.t 88) (.c (.kb false))⟩,
   ⟨(some 90), none, .mov (.t 89)⟩,
   ⟨(some 91), (some (90, true)), .mov (.t 6)⟩,
   ⟨(some 92), (some (90, true)), .bin .eql .no (.t 91) (.c (.raw (.int .i64 0)))⟩,
   ⟨(some 93), none, .pick (.t 90) (.t 92) (.c (.kb false))⟩,
   ⟨(some 94), none, .mov (.t 93)⟩,
   ⟨(some 95), (some (94, true)), .mov (.t 8)⟩,
   ⟨(some 96), (some (94, true)), .bin .eql .no (.t 95) (.c (.raw (.int .i64 0)))⟩,
   ⟨(some 97), none, .pick (.t 94) (.t 96) (.c (.kb false))⟩,
   ⟨(some 98), none, .mov (.t 97)⟩,
   ⟨(some 99), (some (98, true)), .mov (.t 5)⟩,
   ⟨(some 100), (some (98, true)), .invoke "Kind" (.t 99) []⟩,
   ⟨(some 101), (some (98, true)), .bin .eql .no (.t 100) (.c (.raw (.int .i64 1)))⟩,
   ⟨(some 102), none, .pick (.t 98) (.t 101) (.c (.kb false))⟩,
   ⟨(some 103), none, .mov (.t 102)⟩,
   ⟨(some 104), (some (103, true)), .mov (.t 7)⟩,
   ⟨(some 105), (some (103, true)), .invoke "Kind" (.t 104) []⟩,
   ⟨(some 106), (some (103, true)), .bin .eql .no (.t 105) (.c (.raw (.int .i64 3)))⟩,
   ⟨(some 107), none, .pick (.t 103) (.t 106) (.c (.kb false))⟩,
   ⟨(some 108), none, .mov (.t 107)⟩,
   ⟨(some 109), (some (108, true)), .mov (.t 5)⟩,
   ⟨(some 110), (some (108, true)), .call 7 [(.t 109)]⟩,
   ⟨(some 111), (some (108, true)), .bin .eql .no (.t 110) (.c (.raw (.string (ByteArray.mk #[97, 44, 98]))))⟩,
   ⟨(some 112), none, .pick (.t 108) (.t 111) (.c (.kb false))⟩,
   ⟨(some 113), none, .mov (.t 112)⟩,
   ⟨(some 114), (some (113, true)), .mov (.t 7)⟩,
   ⟨(some 115), (some (113, true)), .call 7 [(.t 114)]⟩,
   ⟨(some 116), (some (113, true)), .bin .eql .no (.t 115) (.c (.raw (.string (ByteArray.mk #[116]))))⟩,
   ⟨(some 117), none, .pick (.t 113) (.t 116) (.c (.kb false))⟩,
   ⟨(some 118), none, .mov (.t 117)⟩,
   ⟨(some 119), (some (118, true)), .call 7 [(.c (.raw .nilIface))]⟩,
   ⟨(some 120), (some (118, true)), .bin .eql .no (.t 119) (.c (.raw (.string (ByteArray.mk #[]))))⟩,
   ⟨(some 121), none, .pick (.t 118) (.t 120) (.c (.kb false))⟩,
   ⟨(some 122), none, .mov (.t 121)⟩,
   ⟨(some 123), (some (122, true)), .mov (.t 13)⟩,
   ⟨(some 124), (some (122, true)), .bin .eql .p (.t 123) (.c (.raw (.pointer none)))⟩,
   ⟨(some 125), none, .pick (.t 122) (.t 124) (.c (.kb false))⟩,
   ⟨(some 126), none, .mov (.t 125)⟩,
   ⟨(some 127), (some (126, true)), .mov (.t 14)⟩,
   ⟨(some 128), (some (126, true)), .un .not (.t 127)⟩,
   ⟨(some 129), none, .pick (.t 126) (.t 128) (.c (.kb false))⟩,
   ⟨(some 130), none, .mov (.t 129)⟩,
   ⟨(some 131), (some (130, true)), .mov (.t 15)⟩,
   ⟨(some 132), (some (130, true)), .bin .eql .p (.t 131) (.c (.raw (.pointer none)))⟩,
   ⟨(some 133), none, .pick (.t 130) (.t 132) (.c (.kb false))⟩,
   ⟨(some 134), none, .mov (.t 133)⟩,
   ⟨(some 135), (some (134, true)), .mov (.t 16)⟩,
   ⟨(some 136), (some (134, true)), .un .not (.t 135)⟩,
   ⟨(some 137), none, .pick (.t 134) (.t 136) (.c (.kb false))⟩,
   ⟨(some 138), none, .mov (.t 137)⟩,
   ⟨(some 139), (some (138, true)), .bslice 5 1 [(.int .u8 0)] [(0, 1, (.c (.raw (.int .u8 7))))]⟩,
   ⟨(some 140), (some (138, true)), .call 14 [(.t 139), (.c (.raw .nilIface))]⟩,
   ⟨(some 141), (some (138, true)), .conv .b2s (.t 140)⟩,
   ⟨(some 142), (some (138, true)), .bin .eql .no (.t 141) (.c (.raw (.string (ByteArray.mk #[7]))))⟩,
   ⟨(some 143), none, .pick (.t 138) (.t 142) (.c (.kb false))⟩,
   ⟨(some 144), none, .mov (.t 143)⟩,
   ⟨(some 145), (some (144, true)), .build [(.pointer none)] []⟩,
   ⟨(some 146), (some (144, true)), .mkif 51 (.t 145)⟩,
   ⟨(some 147), (some (144, true)), .call 7 [(.t 146)]⟩,
   ⟨(some 148), (some (144, true)), .bin .eql .no (.t 147) (.c (.raw (.string (ByteArray.mk #[]))))⟩,
   ⟨(some 149), none, .pick (.t 144) (.t 148) (.c (.kb false))⟩,
   ⟨(some 150), none, .mov (.t 149)⟩,
   ⟨(some 151), (some (150, true)), .mov (.t 5)⟩,
   ⟨(some 152), (some (150, true)), .call 15 [(.t 151)]⟩,
   ⟨(some 153), (some (150, true)), .mov (.t 9)⟩,
   ⟨(some 154), (some (150, true)), .bin .eql .p (.t 152) (.t 153)⟩,
   ⟨(some 155), none, .pick (.t 150) (.t 154) (.c (.kb false))⟩,
   ⟨(some 0), none, .mov (.t 155)⟩])
 .ret))))))))))))))))
theorem i_rostrumlaw12_ValueKnown : Is Tryd.prog 4 156 [.t 0] c_rostrumlaw12_ValueKnown := ⟨Tryd.f4, _, p_rostrumlaw12_ValueKnown, rfl, rfl, by kernel_rfl, by kernel_rfl, rfl⟩
def p_rostrumlaw12_awake : List (Nat × Pl) := []
def c_rostrumlaw12_awake : VCode :=
 (.seq (.reg [⟨(some 0), none, .mov (.c (.kb false))⟩])
 (.seq (.reg [⟨(some 8), none, .call 6 [(.c (.raw (.int .i64 2)))]⟩,
   ⟨(some 7), none, .mov (.t 8)⟩,
   ⟨(some 9), none, .extr (.t 7) 0⟩,
   ⟨(some 10), none, .extr (.t 7) 1⟩,
   ⟨(some 1), none, .mov (.t 9)⟩,
   ⟨(some 2), none, .mov (.t 10)⟩])
 (.seq (.seq (.reg [⟨(some 11), none, .mov (.t 2)⟩,
   ⟨(some 12), none, .bin .neq .no (.t 11) (.c (.raw (.int .i64 0)))⟩,
   ⟨(some 13), none, .mov (.t 12)⟩,
   ⟨(some 14), (some (13, false)), .mov (.t 1)⟩,
   ⟨(some 15), (some (13, false)), .bin .eql .ifn (.t 14) (.c (.raw .nilIface))⟩,
   ⟨(some 16), none, .pick (.t 13) (.c (.kb true)) (.t 15)⟩])
 (.cond (.t 16)
  (.seq (.reg [⟨(some 0), none, .mov (.c (.kb false))⟩])
  .ret)
  .skip))
 (.seq (.reg [⟨(some 18), none, .mov (.t 1)⟩,
   ⟨(some 19), none, .call 10 [(.t 18)]⟩,
   ⟨(some 17), none, .mov (.t 19)⟩,
   ⟨(some 20), none, .extr (.t 17) 0⟩,
   ⟨(some 21), none, .extr (.t 17) 1⟩,
   ⟨(some 3), none, .mov (.t 20)⟩,
   ⟨(some 4), none, .mov (.t 21)⟩])
 (.seq (.reg [⟨(some 23), none, .mov (.t 1)⟩,
   ⟨(some 24), none, .call 8 [(.t 23)]⟩,
   ⟨(some 22), none, .mov (.t 24)⟩,
   ⟨(some 25), none, .extr (.t 22) 0⟩,
   ⟨(some 26), none, .extr (.t 22) 1⟩,
   ⟨(some 5), none, .mov (.t 25)⟩,
   ⟨(some 6), none, .mov (.t 26)⟩])
 (.seq (.reg [⟨(some 27), none, .mov (.t 1)⟩,
   ⟨(some 28), none, .invoke "Kind" (.t 27) []⟩,
   ⟨(some 29), none, .bin .eql .no (.t 28) (.c (.raw (.int .i64 2)))⟩,
   ⟨(some 30), none, .mov (.t 29)⟩,
   ⟨(some 31), (some (30, true)), .mov (.t 4)⟩,
   ⟨(some 32), none, .pick (.t 30) (.t 31) (.c (.kb false))⟩,
   ⟨(some 33), none, .mov (.t 32)⟩,
   ⟨(some 34), (some (33, true)), .mov (.t 3)⟩,
   ⟨(some 35), (some (33, true)), .bin .neq .p (.t 34) (.c (.raw (.pointer none)))⟩,
   ⟨(some 36), none, .pick (.t 33) (.t 35) (.c (.kb false))⟩,
   ⟨(some 37), none, .mov (.t 36)⟩,
   ⟨(some 38), (some (37, true)), .mov (.t 6)⟩,
   ⟨(some 39), (some (37, true)), .un .not (.t 38)⟩,
   ⟨(some 40), none, .pick (.t 37) (.t 39) (.c (.kb false))⟩,
   ⟨(some 41), none, .mov (.t 40)⟩,
   ⟨(some 42), (some (41, true)), .mov (.t 1)⟩,
   ⟨(some 43), (some (41, true)), .call 7 [(.t 42)]⟩,
   ⟨(some 44), (some (41, true)), .bin .eql .no (.t 43) (.c (.raw (.string (ByteArray.mk #[48]))))⟩,
   ⟨(some 45), none, .pick (.t 41) (.t 44) (.c (.kb false))⟩,
   ⟨(some 0), none, .mov (.t 45)⟩])
 .ret))))))
theorem i_rostrumlaw12_awake : Is Tryd.prog 5 46 [.t 0] c_rostrumlaw12_awake := ⟨Tryd.f5, _, p_rostrumlaw12_awake, rfl, rfl, by kernel_rfl, by kernel_rfl, rfl⟩
def p_value_New : List (Nat × Pl) := []
def c_value_New : VCode :=
 (.seq (.reg [⟨(some 2), none, .mov (.c (.raw .nilIface))⟩,
   ⟨(some 3), none, .mov (.c (.raw (.int .i64 0)))⟩])
 (.seq (.seq (.reg [⟨(some 4), none, .mov (.t 0)⟩])
 (.block 0 (.seq (.reg [⟨(some 6), none, .bin .eql .no (.t 4) (.c (.raw (.int .i64 1)))⟩,
   ⟨(some 5), none, .mov (.t 6)⟩])
 (.cond (.t 5)
  (.seq (.reg [⟨(some 7), none, .call 16 []⟩,
    ⟨(some 8), none, .build [(.pointer none)] [(0, 1, (.t 7))]⟩,
    ⟨(some 9), none, .mkif 47 (.t 8)⟩,
    ⟨(some 2), none, .mov (.t 9)⟩,
    ⟨(some 3), none, .mov (.c (.raw (.int .i64 0)))⟩])
  .ret)
  (.seq (.reg [⟨(some 11), none, .bin .eql .no (.t 4) (.c (.raw (.int .i64 2)))⟩,
    ⟨(some 10), none, .mov (.t 11)⟩])
  (.cond (.t 10)
   (.seq (.reg [⟨(some 12), none, .call 17 []⟩,
     ⟨(some 13), none, .build [(.pointer none)] [(0, 1, (.t 12))]⟩,
     ⟨(some 14), none, .mkif 56 (.t 13)⟩,
     ⟨(some 2), none, .mov (.t 14)⟩,
     ⟨(some 3), none, .mov (.c (.raw (.int .i64 0)))⟩])
   .ret)
   (.seq (.reg [⟨(some 16), none, .bin .eql .no (.t 4) (.c (.raw (.int .i64 3)))⟩,
     ⟨(some 15), none, .mov (.t 16)⟩])
   (.cond (.t 15)
    (.seq (.reg [⟨(some 17), none, .call 18 []⟩,
      ⟨(some 18), none, .build [(.pointer none)] [(0, 1, (.t 17))]⟩,
      ⟨(some 19), none, .mkif 51 (.t 18)⟩,
      ⟨(some 2), none, .mov (.t 19)⟩,
      ⟨(some 3), none, .mov (.c (.raw (.int .i64 0)))⟩])
    .ret)
    .skip))))))))
 (.seq (.reg [⟨(some 2), none, .mov (.c (.raw .nilIface))⟩,
   ⟨(some 3), none, .mov (.c (.raw (.int .i64 1)))⟩])
 .ret)))
theorem i_value_New : Is Tryd.prog 6 20 [.t 2, .t 3] c_value_New := ⟨Tryd.f6, _, p_value_New, rfl, rfl, by kernel_rfl, by kernel_rfl, rfl⟩
def p_value_Show : List (Nat × Pl) := []
def c_value_Show : VCode :=
 (.seq (.reg [⟨(some 2), none, .mov (.c (.raw (.string (ByteArray.mk #[]))))⟩])
 (.seq (.seq (.reg [⟨(some 12), none, .mov (.t 0)⟩,
   ⟨(some 13), none, .call 8 [(.t 12)]⟩,
   ⟨(some 11), none, .mov (.t 13)⟩,
   ⟨(some 14), none, .extr (.t 11) 0⟩,
   ⟨(some 15), none, .extr (.t 11) 1⟩,
   ⟨(some 3), none, .mov (.t 14)⟩,
   ⟨(some 4), none, .mov (.t 15)⟩])
 (.seq (.reg [⟨(some 16), none, .mov (.t 4)⟩])
 (.cond (.t 16)
  (.seq (.reg [⟨(some 17), none, .mov (.t 3)⟩,
    ⟨(some 18), none, .call 20 [(.t 17)]⟩,
    ⟨(some 19), none, .call 19 [(.t 18), (.c (.raw (.string (ByteArray.mk #[44]))))]⟩,
    ⟨(some 2), none, .mov (.t 19)⟩])
  .ret)
  .skip)))
 (.seq (.seq (.reg [⟨(some 21), none, .mov (.t 0)⟩,
   ⟨(some 22), none, .call 10 [(.t 21)]⟩,
   ⟨(some 20), none, .mov (.t 22)⟩,
   ⟨(some 23), none, .extr (.t 20) 0⟩,
   ⟨(some 24), none, .extr (.t 20) 1⟩,
   ⟨(some 5), none, .mov (.t 23)⟩,
   ⟨(some 6), none, .mov (.t 24)⟩])
 (.seq (.reg [⟨(some 25), none, .mov (.t 6)⟩])
 (.cond (.t 25)
  (.seq (.reg [⟨(some 26), none, .mov (.t 5)⟩,
    ⟨(some 27), none, .call 22 [(.t 26)]⟩,
    ⟨(some 28), none, .call 21 [(.t 27), (.c (.raw (.int .i64 10)))]⟩,
    ⟨(some 2), none, .mov (.t 28)⟩])
  .ret)
  .skip)))
 (.seq (.seq (.reg [⟨(some 30), none, .mov (.t 0)⟩,
   ⟨(some 31), none, .call 12 [(.t 30)]⟩,
   ⟨(some 29), none, .mov (.t 31)⟩,
   ⟨(some 32), none, .extr (.t 29) 0⟩,
   ⟨(some 33), none, .extr (.t 29) 1⟩,
   ⟨(some 7), none, .mov (.t 32)⟩,
   ⟨(some 8), none, .mov (.t 33)⟩])
 (.seq (.reg [⟨(some 34), none, .mov (.t 8)⟩])
 (.cond (.t 34)
  (.seq (.reg [⟨(some 36), none, .mov (.t 7)⟩,
    ⟨(some 37), none, .call 23 [(.t 36)]⟩,
    ⟨(some 35), none, .mov (.t 37)⟩,
    ⟨(some 38), none, .extr (.t 35) 0⟩,
    ⟨(some 39), none, .extr (.t 35) 1⟩,
    ⟨(some 9), none, .mov (.t 38)⟩,
    ⟨(some 10), none, .mov (.t 39)⟩])
  (.seq (.reg [⟨(some 40), none, .mov (.t 9)⟩,
    ⟨(some 2), none, .mov (.t 40)⟩])
  .ret))
  .skip)))
 (.seq (.reg [⟨(some 2), none, .mov (.c (.raw (.string (ByteArray.mk #[]))))⟩])
 .ret)))))
theorem i_value_Show : Is Tryd.prog 7 41 [.t 2] c_value_Show := ⟨Tryd.f7, _, p_value_Show, rfl, rfl, by kernel_rfl, by kernel_rfl, rfl⟩
def p_value_AsSet : List (Nat × Pl) := [(2, (.fl 0 (.fr 1 (.fl 2 (.fl 3 (.fl 4 (.fr 5 (.fl 6 (.fl 7 (.fl 8 (.fl 9 .done)))))))))))]
def c_value_AsSet : VCode :=
 (.seq (.reg [⟨(some 2), none, .mov (.c (.raw (.pointer none)))⟩,
   ⟨(some 3), none, .mov (.c (.kb false))⟩])
 (.seq (.reg [⟨(some 7), none, .mov (.t 0)⟩,
   ⟨(some 8), none, .tassert 47 true (.agg #[(.pointer none)]) (.t 7)⟩,
   ⟨(some 6), none, .mov (.t 8)⟩,
   ⟨(some 9), none, .extr (.t 6) 0⟩,
   ⟨(some 10), none, .extr (.t 6) 1⟩,
   ⟨(some 4), none, .new 47 [(.pointer none)]⟩,
   ⟨none, none, .store (some 1) (.t 4) (.t 9)⟩,
   ⟨(some 5), none, .mov (.t 10)⟩])
 (.seq (.draw [⟨(some 11), none, .faddr 0 (.t 4)⟩,
   ⟨(some 12), none, .load none (.t 11)⟩,
   ⟨(some 13), none, .mov (.t 5)⟩,
   ⟨(some 14), none, .mov (.t 13)⟩,
   ⟨(some 15), (some (14, true)), .faddr 0 (.t 4)⟩,
   ⟨(some 16), (some (14, true)), .load none (.t 15)⟩,
   ⟨(some 17), (some (14, true)), .bin .neq .p (.t 16) (.c (.raw (.pointer none)))⟩,
   ⟨(some 18), none, .pick (.t 14) (.t 17) (.c (.kb false))⟩,
   ⟨(some 2), none, .mov (.t 12)⟩,
   ⟨(some 3), none, .mov (.t 18)⟩]
   (.fl 0 (.fr 1 (.fl 2 (.fl 3 (.fl 4 (.fr 5 (.fl 6 (.fl 7 (.fl 8 (.fl 9 .done)))))))))))
 .ret)))
theorem i_value_AsSet : Is Tryd.prog 8 19 [.t 2, .t 3] c_value_AsSet := ⟨Tryd.f8, _, p_value_AsSet, rfl, rfl, by kernel_rfl, by kernel_rfl, rfl⟩
def p_orset_Set_Add : List (Nat × Pl) := [(3, (.fl 0 (.fr 1 (.fl 2 (.fr 3 (.fr 4 (.fr 5 (.fl 6 (.fl 7 (.fl 8 (.fl 9 (.fl 10 .done)))))))))))), (6, (.fl 0 (.fr 1 (.fl 2 (.fr 3 (.fr 4 (.fl 5 (.st 6 [] .done))))))))]
def c_orset_Set_Add : VCode :=
 (.seq (.reg [⟨(some 4), none, .box 34 (.t 1)⟩,
   ⟨(some 6), none, .mov (.c (.raw (.int .i64 0)))⟩])
 (.seq (.seq (.reg [⟨(some 9), none, .load (some 2) (.t 4)⟩,
   ⟨(some 10), none, .call 24 [(.t 9)]⟩,
   ⟨(some 11), none, .un .not (.t 10)⟩,
   ⟨(some 12), none, .mov (.t 11)⟩,
   ⟨(some 13), (some (12, false)), .mov (.t 2)⟩,
   ⟨(some 14), (some (12, false)), .len .str (.t 13)⟩,
   ⟨(some 15), (some (12, false)), .bin .gtr .no (.t 14) (.c (.raw (.int .i64 100)))⟩,
   ⟨(some 16), none, .pick (.t 12) (.c (.kb true)) (.t 15)⟩])
 (.cond (.t 16)
  (.seq (.reg [⟨(some 6), none, .mov (.c (.raw (.int .i64 1)))⟩])
  .ret)
  .skip))
 (.seq (.seq (.draw [⟨(some 18), none, .mov (.t 0)⟩,
   ⟨(some 19), none, .nilck (.t 18)⟩,
   ⟨(some 20), none, .faddr 0 (.t 19)⟩,
   ⟨(some 21), none, .load none (.t 20)⟩,
   ⟨(some 22), none, .load (some 2) (.t 4)⟩,
   ⟨(some 23), none, .lookup 67 true (.t 21) (.t 22)⟩,
   ⟨(some 17), none, .mov (.t 23)⟩,
   ⟨(some 24), none, .extr (.t 17) 0⟩,
   ⟨(some 25), none, .extr (.t 17) 1⟩,
   ⟨(some 7), none, .mov (.t 24)⟩,
   ⟨(some 8), none, .mov (.t 25)⟩]
   (.fl 0 (.fr 1 (.fl 2 (.fr 3 (.fr 4 (.fr 5 (.fl 6 (.fl 7 (.fl 8 (.fl 9 (.fl 10 .done))))))))))))
 (.seq (.reg [⟨(some 26), none, .mov (.t 8)⟩,
   ⟨(some 27), none, .mov (.t 26)⟩,
   ⟨(some 28), (some (27, true)), .mov (.t 7)⟩,
   ⟨(some 29), (some (27, true)), .mov (.t 2)⟩,
   ⟨(some 30), (some (27, true)), .bin .neq .no (.t 28) (.t 29)⟩,
   ⟨(some 31), none, .pick (.t 27) (.t 30) (.c (.kb false))⟩])
 (.cond (.t 31)
  (.seq (.reg [⟨(some 6), none, .mov (.c (.raw (.int .i64 5)))⟩])
  .ret)
  .skip)))
 (.seq (.draw [⟨(some 32), none, .mov (.t 0)⟩,
   ⟨(some 33), none, .nilck (.t 32)⟩,
   ⟨(some 34), none, .faddr 0 (.t 33)⟩,
   ⟨(some 35), none, .load none (.t 34)⟩,
   ⟨(some 36), none, .load (some 2) (.t 4)⟩,
   ⟨(some 37), none, .mov (.t 2)⟩,
   ⟨none, none, .mapup 67 (.t 35) (.t 36) (.t 37)⟩]
   (.fl 0 (.fr 1 (.fl 2 (.fr 3 (.fr 4 (.fl 5 (.st 6 [] .done))))))))
 (.seq (.reg [⟨(some 6), none, .mov (.c (.raw (.int .i64 0)))⟩])
 .ret)))))
theorem i_orset_Set_Add : Is Tryd.prog 9 38 [.t 6] c_orset_Set_Add := ⟨Tryd.f9, _, p_orset_Set_Add, rfl, rfl, by kernel_rfl, by kernel_rfl, rfl⟩
def p_value_AsNumber : List (Nat × Pl) := [(2, (.fl 0 (.fr 1 (.fl 2 (.fl 3 (.fl 4 (.fr 5 (.fl 6 (.fl 7 (.fl 8 (.fl 9 .done)))))))))))]
def c_value_AsNumber : VCode :=
 (.seq (.reg [⟨(some 2), none, .mov (.c (.raw (.pointer none)))⟩,
   ⟨(some 3), none, .mov (.c (.kb false))⟩])
 (.seq (.reg [⟨(some 7), none, .mov (.t 0)⟩,
   ⟨(some 8), none, .tassert 56 true (.agg #[(.pointer none)]) (.t 7)⟩,
   ⟨(some 6), none, .mov (.t 8)⟩,
   ⟨(some 9), none, .extr (.t 6) 0⟩,
   ⟨(some 10), none, .extr (.t 6) 1⟩,
   ⟨(some 4), none, .new 56 [(.pointer none)]⟩,
   ⟨none, none, .store (some 1) (.t 4) (.t 9)⟩,
   ⟨(some 5), none, .mov (.t 10)⟩])
 (.seq (.draw [⟨(some 11), none, .faddr 0 (.t 4)⟩,
   ⟨(some 12), none, .load none (.t 11)⟩,
   ⟨(some 13), none, .mov (.t 5)⟩,
   ⟨(some 14), none, .mov (.t 13)⟩,
   ⟨(some 15), (some (14, true)), .faddr 0 (.t 4)⟩,
   ⟨(some 16), (some (14, true)), .load none (.t 15)⟩,
   ⟨(some 17), (some (14, true)), .bin .neq .p (.t 16) (.c (.raw (.pointer none)))⟩,
   ⟨(some 18), none, .pick (.t 14) (.t 17) (.c (.kb false))⟩,
   ⟨(some 2), none, .mov (.t 12)⟩,
   ⟨(some 3), none, .mov (.t 18)⟩]
   (.fl 0 (.fr 1 (.fl 2 (.fl 3 (.fl 4 (.fr 5 (.fl 6 (.fl 7 (.fl 8 (.fl 9 .done)))))))))))
 .ret)))
theorem i_value_AsNumber : Is Tryd.prog 10 19 [.t 2, .t 3] c_value_AsNumber := ⟨Tryd.f10, _, p_value_AsNumber, rfl, rfl, by kernel_rfl, by kernel_rfl, rfl⟩
def p_tally_Tally_Add : List (Nat × Pl) := [(8, (.fl 0 (.fl 1 (.fr 2 (.fr 3 (.fr 4 (.fl 5 (.fl 6 (.fr 7 (.fr 8 (.st 9 [] .done)))))))))))]
def c_tally_Tally_Add : VCode :=
 (.seq (.reg [⟨(some 6), none, .mov (.c (.raw (.int .i64 0)))⟩])
 (.seq (.seq (.reg [⟨(some 8), none, .mov (.t 1)⟩,
   ⟨(some 9), none, .call 25 [(.t 8)]⟩,
   ⟨(some 10), none, .un .not (.t 9)⟩,
   ⟨(some 11), none, .mov (.t 10)⟩,
   ⟨(some 12), (some (11, false)), .mov (.t 2)⟩,
   ⟨(some 13), (some (11, false)), .bin .lss .no (.t 12) (.c (.raw (.int .i64 (-1099511627776))))⟩,
   ⟨(some 14), none, .pick (.t 11) (.c (.kb true)) (.t 13)⟩,
   ⟨(some 15), none, .mov (.t 14)⟩,
   ⟨(some 16), (some (15, false)), .mov (.t 2)⟩,
   ⟨(some 17), (some (15, false)), .bin .gtr .no (.t 16) (.c (.raw (.int .i64 1099511627776)))⟩,
   ⟨(some 18), none, .pick (.t 15) (.c (.kb true)) (.t 17)⟩])
 (.cond (.t 18)
  (.seq (.reg [⟨(some 6), none, .mov (.c (.raw (.int .i64 1)))⟩])
  .ret)
  .skip))
 (.seq (.reg [⟨(some 19), none, .mov (.t 0)⟩,
   ⟨(some 20), none, .nilck (.t 19)⟩,
   ⟨(some 21), none, .faddr 0 (.t 20)⟩,
   ⟨(some 7), none, .mov (.t 21)⟩])
 (.seq (.seq (.reg [⟨(some 22), none, .mov (.t 2)⟩,
   ⟨(some 23), none, .bin .lss .no (.t 22) (.c (.raw (.int .i64 0)))⟩])
 (.cond (.t 23)
  (.reg [⟨(some 24), none, .mov (.t 0)⟩,
    ⟨(some 25), none, .nilck (.t 24)⟩,
    ⟨(some 26), none, .faddr 7 (.t 25)⟩,
    ⟨(some 27), none, .mov (.t 2)⟩,
    ⟨(some 28), none, .un .neg (.t 27)⟩,
    ⟨(some 7), none, .mov (.t 26)⟩,
    ⟨(some 2), none, .mov (.t 28)⟩])
  .skip))
 (.seq (.seq (.reg [⟨(some 29), none, .mov (.t 2)⟩,
   ⟨(some 30), none, .mov (.t 7)⟩,
   ⟨(some 31), none, .mov (.t 1)⟩,
   ⟨(some 32), none, .nilck (.t 30)⟩,
   ⟨(some 33), none, .iaddr 1 (some 7) (.t 32) (.t 31)⟩,
   ⟨(some 34), none, .load none (.t 33)⟩,
   ⟨(some 35), none, .bin .sub .no (.c (.raw (.int .i64 1125899906842624))) (.t 34)⟩,
   ⟨(some 36), none, .bin .gtr .no (.t 29) (.t 35)⟩])
 (.cond (.t 36)
  (.seq (.reg [⟨(some 6), none, .mov (.c (.raw (.int .i64 2)))⟩])
  .ret)
  .skip))
 (.seq (.draw [⟨(some 37), none, .mov (.t 7)⟩,
   ⟨(some 38), none, .mov (.t 1)⟩,
   ⟨(some 39), none, .nilck (.t 37)⟩,
   ⟨(some 40), none, .iaddr 1 (some 7) (.t 39) (.t 38)⟩,
   ⟨(some 41), none, .load none (.t 40)⟩,
   ⟨(some 42), none, .mov (.t 2)⟩,
   ⟨(some 43), none, .bin .add .no (.t 41) (.t 42)⟩,
   ⟨(some 44), none, .nilck (.t 37)⟩,
   ⟨(some 45), none, .iaddr 1 (some 7) (.t 44) (.t 38)⟩,
   ⟨none, none, .store none (.t 45) (.t 43)⟩]
   (.fl 0 (.fl 1 (.fr 2 (.fr 3 (.fr 4 (.fl 5 (.fl 6 (.fr 7 (.fr 8 (.st 9 [] .done)))))))))))
 (.seq (.reg [⟨(some 6), none, .mov (.c (.raw (.int .i64 0)))⟩])
 .ret)))))))
theorem i_tally_Tally_Add : Is Tryd.prog 11 46 [.t 6] c_tally_Tally_Add := ⟨Tryd.f11, _, p_tally_Tally_Add, rfl, rfl, by kernel_rfl, by kernel_rfl, rfl⟩
def p_value_AsText : List (Nat × Pl) := [(2, (.fl 0 (.fr 1 (.fl 2 (.fl 3 (.fl 4 (.fr 5 (.fl 6 (.fl 7 (.fl 8 (.fl 9 .done)))))))))))]
def c_value_AsText : VCode :=
 (.seq (.reg [⟨(some 2), none, .mov (.c (.raw (.pointer none)))⟩,
   ⟨(some 3), none, .mov (.c (.kb false))⟩])
 (.seq (.reg [⟨(some 7), none, .mov (.t 0)⟩,
   ⟨(some 8), none, .tassert 51 true (.agg #[(.pointer none)]) (.t 7)⟩,
   ⟨(some 6), none, .mov (.t 8)⟩,
   ⟨(some 9), none, .extr (.t 6) 0⟩,
   ⟨(some 10), none, .extr (.t 6) 1⟩,
   ⟨(some 4), none, .new 51 [(.pointer none)]⟩,
   ⟨none, none, .store (some 1) (.t 4) (.t 9)⟩,
   ⟨(some 5), none, .mov (.t 10)⟩])
 (.seq (.draw [⟨(some 11), none, .faddr 0 (.t 4)⟩,
   ⟨(some 12), none, .load none (.t 11)⟩,
   ⟨(some 13), none, .mov (.t 5)⟩,
   ⟨(some 14), none, .mov (.t 13)⟩,
   ⟨(some 15), (some (14, true)), .faddr 0 (.t 4)⟩,
   ⟨(some 16), (some (14, true)), .load none (.t 15)⟩,
   ⟨(some 17), (some (14, true)), .bin .neq .p (.t 16) (.c (.raw (.pointer none)))⟩,
   ⟨(some 18), none, .pick (.t 14) (.t 17) (.c (.kb false))⟩,
   ⟨(some 2), none, .mov (.t 12)⟩,
   ⟨(some 3), none, .mov (.t 18)⟩]
   (.fl 0 (.fr 1 (.fl 2 (.fl 3 (.fl 4 (.fr 5 (.fl 6 (.fl 7 (.fl 8 (.fl 9 .done)))))))))))
 .ret)))
theorem i_value_AsText : Is Tryd.prog 12 19 [.t 2, .t 3] c_value_AsText := ⟨Tryd.f12, _, p_value_AsText, rfl, rfl, by kernel_rfl, by kernel_rfl, rfl⟩
def p_last_Last_Write : List (Nat × Pl) := [(3, (.fl 0 (.fl 1 (.fr 2 (.fl 3 (.fr 4 (.fr 6 (.fl 7 (.fr 8 (.fl 9 (.fr 10 (.st 5 [6, 8, 10] (.st 11 [] (.st 12 [] (.st 13 [] (.fl 14 .done))))))))))))))))]
def c_last_Last_Write : VCode :=
 (.seq (.reg [⟨(some 7), none, .box 34 (.t 3)⟩,
   ⟨(some 8), none, .mov (.c (.kb false))⟩,
   ⟨(some 9), none, .mov (.c (.raw (.int .i64 0)))⟩])
 (.seq (.seq (.reg [⟨(some 11), none, .mov (.t 1)⟩,
   ⟨(some 12), none, .len .str (.t 11)⟩,
   ⟨(some 13), none, .bin .gtr .no (.t 12) (.c (.raw (.int .i64 100)))⟩,
   ⟨(some 14), none, .mov (.t 13)⟩,
   ⟨(some 15), (some (14, false)), .mov (.t 2)⟩,
   ⟨(some 16), (some (14, false)), .bin .lss .no (.t 15) (.c (.raw (.int .i64 0)))⟩,
   ⟨(some 17), none, .pick (.t 14) (.c (.kb true)) (.t 16)⟩,
   ⟨(some 18), none, .mov (.t 17)⟩,
   ⟨(some 19), (some (18, false)), .mov (.t 2)⟩,
   ⟨(some 20), (some (18, false)), .bin .gtr .no (.t 19) (.c (.raw (.int .i64 1099511627776)))⟩,
   ⟨(some 21), none, .pick (.t 18) (.c (.kb true)) (.t 20)⟩,
   ⟨(some 22), none, .mov (.t 21)⟩,
   ⟨(some 23), (some (22, false)), .load (some 2) (.t 7)⟩,
   ⟨(some 24), (some (22, false)), .call 24 [(.t 23)]⟩,
   ⟨(some 25), (some (22, false)), .un .not (.t 24)⟩,
   ⟨(some 26), none, .pick (.t 22) (.c (.kb true)) (.t 25)⟩])
 (.cond (.t 26)
  (.seq (.reg [⟨(some 8), none, .mov (.c (.kb false))⟩,
    ⟨(some 9), none, .mov (.c (.raw (.int .i64 1)))⟩])
  .ret)
  .skip))
 (.seq (.draw [⟨(some 27), none, .mov (.t 2)⟩,
   ⟨(some 28), none, .mov (.t 0)⟩,
   ⟨(some 29), none, .nilck (.t 28)⟩,
   ⟨(some 30), none, .faddr 2 (.t 29)⟩,
   ⟨(some 31), none, .load none (.t 30)⟩,
   ⟨(some 32), none, .call 27 [(.t 27), (.t 31)]⟩,
   ⟨(some 33), none, .load (some 2) (.t 7)⟩,
   ⟨(some 34), none, .mov (.t 0)⟩,
   ⟨(some 35), none, .nilck (.t 34)⟩,
   ⟨(some 36), none, .faddr 3 (.t 35)⟩,
   ⟨(some 37), none, .load (some 2) (.t 36)⟩,
   ⟨(some 38), none, .call 28 [(.t 33), (.t 37)]⟩,
   ⟨(some 39), none, .bslice 3 2 [(.int .i64 0), (.int .i64 0)] [(0, 1, (.t 32)), (1, 1, (.t 38))]⟩,
   ⟨(some 40), none, .call 26 [(.t 39)]⟩,
   ⟨(some 10), none, .mov (.t 40)⟩]
   (.fl 0 (.fl 1 (.fr 2 (.fl 3 (.fr 4 (.fr 6 (.fl 7 (.fr 8 (.fl 9 (.fr 10 (.st 5 [6, 8, 10] (.st 11 [] (.st 12 [] (.st 13 [] (.fl 14 .done))))))))))))))))
 (.seq (.block 0 (.seq (.reg [⟨(some 42), none, .mov (.t 0)⟩,
   ⟨(some 43), none, .nilck (.t 42)⟩,
   ⟨(some 44), none, .faddr 0 (.t 43)⟩,
   ⟨(some 45), none, .load none (.t 44)⟩,
   ⟨(some 46), none, .mov (.t 45)⟩,
   ⟨(some 47), (some (46, true)), .mov (.t 10)⟩,
   ⟨(some 48), (some (46, true)), .bin .lss .no (.t 47) (.c (.raw (.int .i64 0)))⟩,
   ⟨(some 49), none, .pick (.t 46) (.t 48) (.c (.kb false))⟩,
   ⟨(some 41), none, .mov (.t 49)⟩])
 (.cond (.t 41)
  (.seq (.reg [⟨(some 8), none, .mov (.c (.kb false))⟩,
    ⟨(some 9), none, .mov (.c (.raw (.int .i64 0)))⟩])
  .ret)
  (.seq (.reg [⟨(some 51), none, .mov (.t 0)⟩,
    ⟨(some 52), none, .nilck (.t 51)⟩,
    ⟨(some 53), none, .faddr 0 (.t 52)⟩,
    ⟨(some 54), none, .load none (.t 53)⟩,
    ⟨(some 55), none, .mov (.t 54)⟩,
    ⟨(some 56), (some (55, true)), .mov (.t 10)⟩,
    ⟨(some 57), (some (55, true)), .bin .eql .no (.t 56) (.c (.raw (.int .i64 0)))⟩,
    ⟨(some 58), none, .pick (.t 55) (.t 57) (.c (.kb false))⟩,
    ⟨(some 50), none, .mov (.t 58)⟩])
  (.cond (.t 50)
   (.seq (.seq (.reg [⟨(some 59), none, .mov (.t 1)⟩,
     ⟨(some 60), none, .mov (.t 0)⟩,
     ⟨(some 61), none, .nilck (.t 60)⟩,
     ⟨(some 62), none, .faddr 1 (.t 61)⟩,
     ⟨(some 63), none, .load none (.t 62)⟩,
     ⟨(some 64), none, .bin .neq .no (.t 59) (.t 63)⟩])
   (.cond (.t 64)
    (.seq (.reg [⟨(some 8), none, .mov (.c (.kb false))⟩,
      ⟨(some 9), none, .mov (.c (.raw (.int .i64 5)))⟩])
    .ret)
    .skip))
   (.seq (.reg [⟨(some 8), none, .mov (.c (.kb false))⟩,
     ⟨(some 9), none, .mov (.c (.raw (.int .i64 0)))⟩])
   .ret))
   .skip)))))
 (.seq (.reg [⟨(some 65), none, .mov (.t 0)⟩,
   ⟨(some 66), none, .mov (.t 1)⟩,
   ⟨(some 67), none, .mov (.t 2)⟩,
   ⟨(some 68), none, .load (some 2) (.t 7)⟩,
   ⟨(some 69), none, .build [(.bool false), (.string (ByteArray.mk #[])), (.int .i64 0), (.int .i64 0), (.int .i64 0)] [(0, 1, (.c (.kb true))), (1, 1, (.t 66)), (2, 1, (.t 67)), (3, 2, (.t 68))]⟩,
   ⟨(some 70), none, .nilck (.t 65)⟩,
   ⟨none, none, .store (some 5) (.t 70) (.t 69)⟩])
 (.seq (.reg [⟨(some 8), none, .mov (.c (.kb true))⟩,
   ⟨(some 9), none, .mov (.c (.raw (.int .i64 0)))⟩])
 .ret))))))
theorem i_last_Last_Write : Is Tryd.prog 13 71 [.t 8, .t 9] c_last_Last_Write := ⟨Tryd.f13, _, p_last_Last_Write, rfl, rfl, by kernel_rfl, by kernel_rfl, rfl⟩
def p_value_Put : List (Nat × Pl) := []
def c_value_Put : VCode :=
 (.seq (.reg [⟨(some 4), none, .mov (.c (.raw (.slice none 0 0)))⟩])
 (.seq (.seq (.reg [⟨(some 12), none, .mov (.t 1)⟩,
   ⟨(some 13), none, .call 8 [(.t 12)]⟩,
   ⟨(some 11), none, .mov (.t 13)⟩,
   ⟨(some 14), none, .extr (.t 11) 0⟩,
   ⟨(some 15), none, .extr (.t 11) 1⟩,
   ⟨(some 5), none, .mov (.t 14)⟩,
   ⟨(some 6), none, .mov (.t 15)⟩])
 (.seq (.reg [⟨(some 16), none, .mov (.t 6)⟩])
 (.cond (.t 16)
  (.seq (.reg [⟨(some 17), none, .mov (.t 5)⟩,
    ⟨(some 18), none, .mov (.t 0)⟩,
    ⟨(some 19), none, .call 30 [(.t 18), (.c (.raw (.int .i64 1)))]⟩,
    ⟨(some 20), none, .call 29 [(.t 17), (.t 19)]⟩,
    ⟨(some 4), none, .mov (.t 20)⟩])
  .ret)
  .skip)))
 (.seq (.seq (.reg [⟨(some 22), none, .mov (.t 1)⟩,
   ⟨(some 23), none, .call 10 [(.t 22)]⟩,
   ⟨(some 21), none, .mov (.t 23)⟩,
   ⟨(some 24), none, .extr (.t 21) 0⟩,
   ⟨(some 25), none, .extr (.t 21) 1⟩,
   ⟨(some 7), none, .mov (.t 24)⟩,
   ⟨(some 8), none, .mov (.t 25)⟩])
 (.seq (.reg [⟨(some 26), none, .mov (.t 8)⟩])
 (.cond (.t 26)
  (.seq (.reg [⟨(some 27), none, .mov (.t 7)⟩,
    ⟨(some 28), none, .mov (.t 0)⟩,
    ⟨(some 29), none, .call 30 [(.t 28), (.c (.raw (.int .i64 2)))]⟩,
    ⟨(some 30), none, .call 31 [(.t 27), (.t 29)]⟩,
    ⟨(some 4), none, .mov (.t 30)⟩])
  .ret)
  .skip)))
 (.seq (.seq (.reg [⟨(some 32), none, .mov (.t 1)⟩,
   ⟨(some 33), none, .call 12 [(.t 32)]⟩,
   ⟨(some 31), none, .mov (.t 33)⟩,
   ⟨(some 34), none, .extr (.t 31) 0⟩,
   ⟨(some 35), none, .extr (.t 31) 1⟩,
   ⟨(some 9), none, .mov (.t 34)⟩,
   ⟨(some 10), none, .mov (.t 35)⟩])
 (.seq (.reg [⟨(some 36), none, .mov (.t 10)⟩])
 (.cond (.t 36)
  (.seq (.reg [⟨(some 37), none, .mov (.t 9)⟩,
    ⟨(some 38), none, .mov (.t 0)⟩,
    ⟨(some 39), none, .call 30 [(.t 38), (.c (.raw (.int .i64 3)))]⟩,
    ⟨(some 40), none, .call 32 [(.t 37), (.t 39)]⟩,
    ⟨(some 4), none, .mov (.t 40)⟩])
  .ret)
  .skip)))
 (.seq (.reg [⟨(some 41), none, .bslice 5 0 [] []⟩,
   ⟨(some 42), none, .mov (.t 0)⟩,
   ⟨(some 43), none, .append 5 1 1 [(.int .u8 0)] (.t 41) (.t 42)⟩,
   ⟨(some 4), none, .mov (.t 43)⟩])
 .ret)))))
theorem i_value_Put : Is Tryd.prog 14 44 [.t 4] c_value_Put := ⟨Tryd.f14, _, p_value_Put, rfl, rfl, by kernel_rfl, by kernel_rfl, rfl⟩
def p_value_MustSet : List (Nat × Pl) := []
def c_value_MustSet : VCode :=
 (.seq (.reg [⟨(some 2), none, .mov (.c (.raw (.pointer none)))⟩])
 (.seq (.reg [⟨(some 3), none, .mov (.t 0)⟩,
   ⟨(some 4), none, .tassert 47 false (.agg #[(.pointer none)]) (.t 3)⟩,
   ⟨(some 5), none, .field 0 none (.t 4)⟩,
   ⟨(some 2), none, .mov (.t 5)⟩])
 .ret))
theorem i_value_MustSet : Is Tryd.prog 15 6 [.t 2] c_value_MustSet := ⟨Tryd.f15, _, p_value_MustSet, rfl, rfl, by kernel_rfl, by kernel_rfl, rfl⟩
def p_orset_New : List (Nat × Pl) := []
def c_orset_New : VCode :=
 (.seq (.reg [⟨(some 0), none, .mov (.c (.raw (.pointer none)))⟩])
 (.seq (.reg [⟨(some 1), none, .mkmap⟩,
   ⟨(some 2), none, .mkmap⟩,
   ⟨(some 3), none, .build [(.map none), (.map none)] [(0, 1, (.t 1)), (1, 1, (.t 2))]⟩,
   ⟨(some 4), none, .box 70 (.t 3)⟩,
   ⟨(some 0), none, .mov (.t 4)⟩])
 .ret))
theorem i_orset_New : Is Tryd.prog 16 5 [.t 0] c_orset_New := ⟨Tryd.f16, _, p_orset_New, rfl, rfl, by kernel_rfl, by kernel_rfl, rfl⟩
def p_tally_New : List (Nat × Pl) := []
def c_tally_New : VCode :=
 (.seq (.reg [⟨(some 0), none, .mov (.c (.raw (.pointer none)))⟩])
 (.seq (.reg [⟨(some 1), none, .build [(.int .i64 0), (.int .i64 0), (.int .i64 0), (.int .i64 0), (.int .i64 0), (.int .i64 0), (.int .i64 0), (.int .i64 0), (.int .i64 0), (.int .i64 0), (.int .i64 0), (.int .i64 0), (.int .i64 0), (.int .i64 0)] []⟩,
   ⟨(some 2), none, .box 76 (.t 1)⟩,
   ⟨(some 0), none, .mov (.t 2)⟩])
 .ret))
theorem i_tally_New : Is Tryd.prog 17 3 [.t 0] c_tally_New := ⟨Tryd.f17, _, p_tally_New, rfl, rfl, by kernel_rfl, by kernel_rfl, rfl⟩
def p_last_New : List (Nat × Pl) := []
def c_last_New : VCode :=
 (.seq (.reg [⟨(some 0), none, .mov (.c (.raw (.pointer none)))⟩])
 (.seq (.reg [⟨(some 1), none, .build [(.bool false), (.string (ByteArray.mk #[])), (.int .i64 0), (.int .i64 0), (.int .i64 0)] []⟩,
   ⟨(some 2), none, .box 81 (.t 1)⟩,
   ⟨(some 0), none, .mov (.t 2)⟩])
 .ret))
theorem i_last_New : Is Tryd.prog 18 3 [.t 0] c_last_New := ⟨Tryd.f18, _, p_last_New, rfl, rfl, by kernel_rfl, by kernel_rfl, rfl⟩
def p_orset_Set_All : List (Nat × Pl) := []
def c_orset_Set_All : VCode :=
 (.seq (.reg [⟨(some 2), none, .mov (.c (.raw (.slice none 0 0)))⟩])
 (.seq (.reg [⟨(some 3), none, .mov (.c (.raw (.slice none 0 0)))⟩])
 (.seq (.seq (.reg [⟨(some 6), none, .mov (.t 0)⟩,
   ⟨(some 7), none, .nilck (.t 6)⟩,
   ⟨(some 8), none, .faddr 0 (.t 7)⟩,
   ⟨(some 9), none, .load none (.t 8)⟩,
   ⟨(some 10), none, .range false (.t 9)⟩])
 (.block 0 (.loop (.seq (.reg [⟨(some 11), none, .next false (.t 10)⟩,
    ⟨(some 12), none, .extr (.t 11) 0⟩])
  (.seq (.cond (.t 12)
   .skip
   (.exit 0))
  (.block 1 (.seq (.reg [⟨(some 13), none, .entry (.t 10)⟩,
    ⟨(some 14), none, .extr (.t 13) 0⟩,
    ⟨(some 15), none, .extr (.t 13) 1⟩,
    ⟨(some 4), none, .new 34 [(.int .i64 0), (.int .i64 0)]⟩,
    ⟨none, none, .store (some 2) (.t 4) (.t 14)⟩,
    ⟨(some 5), none, .mov (.t 15)⟩])
  (.seq (.reg [⟨(some 16), none, .mov (.t 0)⟩,
    ⟨(some 17), none, .load (some 2) (.t 4)⟩,
    ⟨(some 18), none, .mov (.t 5)⟩,
    ⟨(some 19), none, .call 36 [(.t 16), (.t 17), (.t 18)]⟩])
  (.cond (.t 19)
   (.reg [⟨(some 20), none, .mov (.t 3)⟩,
     ⟨(some 21), none, .mov (.t 5)⟩,
     ⟨(some 22), none, .bslice 9 1 [(.string (ByteArray.mk #[]))] [(0, 1, (.t 21))]⟩,
     ⟨(some 23), none, .append 9 1 16 [(.string (ByteArray.mk #[]))] (.t 20) (.t 22)⟩,
     ⟨(some 3), none, .mov (.t 23)⟩])
   .skip)))))))))
 (.seq (.reg [⟨(some 24), none, .mov (.t 3)⟩,
   ⟨(some 25), none, .call 37 [(.t 24)]⟩])
 (.seq (.reg [⟨(some 26), none, .mov (.t 3)⟩,
   ⟨(some 27), none, .call 38 [(.t 26)]⟩,
   ⟨(some 2), none, .mov (.t 27)⟩])
 .ret)))))
theorem i_orset_Set_All : Is Tryd.prog 20 28 [.t 2] c_orset_Set_All := ⟨Tryd.f20, _, p_orset_Set_All, rfl, rfl, by kernel_rfl, by kernel_rfl, rfl⟩
def p_strconv_FormatInt : List (Nat × Pl) := []
def c_strconv_FormatInt : VCode :=
 (.seq (.reg [⟨(some 4), none, .mov (.c (.raw (.string (ByteArray.mk #[]))))⟩])
 (.seq (.reg [⟨(some 5), none, .mov (.t 0)⟩,
   ⟨(some 6), none, .mov (.t 1)⟩,
   ⟨(some 7), none, .call 39 [(.t 5), (.t 6)]⟩,
   ⟨(some 4), none, .mov (.t 7)⟩])
 .ret))
theorem i_strconv_FormatInt : Is Tryd.prog 21 8 [.t 4] c_strconv_FormatInt := ⟨Tryd.f21, _, p_strconv_FormatInt, rfl, rfl, by kernel_rfl, by kernel_rfl, rfl⟩
def p_tally_Tally_Value : List (Nat × Pl) := [(5, (.fl 0 (.fl 1 (.fl 2 (.fr 3 (.fl 4 (.fr 5 (.fr 6 (.fl 7 (.fl 8 (.fr 9 (.fl 10 (.fr 11 (.fr 12 (.fl 13 (.fl 14 (.fl 15 .done)))))))))))))))))]
def c_tally_Tally_Value : VCode :=
 (.seq (.reg [⟨(some 2), none, .mov (.c (.raw (.int .i64 0)))⟩])
 (.seq (.reg [⟨(some 3), none, .mov (.c (.raw (.int .i64 0)))⟩])
 (.seq (.seq (.reg [⟨(some 5), none, .mov (.c (.raw (.int .i64 0)))⟩])
 (.block 0 (.loop (.seq (.reg [⟨(some 6), none, .bin .lss .no (.t 5) (.c (.raw (.int .i64 7)))⟩])
  (.seq (.cond (.t 6)
   .skip
   (.exit 0))
  (.seq (.block 1 (.seq (.reg [⟨(some 7), none, .mov (.t 5)⟩,
    ⟨(some 4), none, .mov (.t 7)⟩])
  (.draw [⟨(some 8), none, .mov (.t 3)⟩,
    ⟨(some 9), none, .mov (.t 0)⟩,
    ⟨(some 10), none, .mov (.t 4)⟩,
    ⟨(some 11), none, .nilck (.t 9)⟩,
    ⟨(some 12), none, .faddr 0 (.t 11)⟩,
    ⟨(some 13), none, .iaddr 1 (some 7) (.t 12) (.t 10)⟩,
    ⟨(some 14), none, .load none (.t 13)⟩,
    ⟨(some 15), none, .mov (.t 0)⟩,
    ⟨(some 16), none, .mov (.t 4)⟩,
    ⟨(some 17), none, .nilck (.t 15)⟩,
    ⟨(some 18), none, .faddr 7 (.t 17)⟩,
    ⟨(some 19), none, .iaddr 1 (some 7) (.t 18) (.t 16)⟩,
    ⟨(some 20), none, .load none (.t 19)⟩,
    ⟨(some 21), none, .bin .sub .no (.t 14) (.t 20)⟩,
    ⟨(some 22), none, .bin .add .no (.t 8) (.t 21)⟩,
    ⟨(some 3), none, .mov (.t 22)⟩]
    (.fl 0 (.fl 1 (.fl 2 (.fr 3 (.fl 4 (.fr 5 (.fr 6 (.fl 7 (.fl 8 (.fr 9 (.fl 10 (.fr 11 (.fr 12 (.fl 13 (.fl 14 (.fl 15 .done)))))))))))))))))))
  (.reg [⟨(some 23), none, .bin .add .no (.t 5) (.c (.raw (.int .i64 1)))⟩,
    ⟨(some 5), none, .mov (.t 23)⟩])))))))
 (.seq (.reg [⟨(some 24), none, .mov (.t 3)⟩,
   ⟨(some 2), none, .mov (.t 24)⟩])
 .ret))))
theorem i_tally_Tally_Value : Is Tryd.prog 22 25 [.t 2] c_tally_Tally_Value := ⟨Tryd.f22, _, p_tally_Tally_Value, rfl, rfl, by kernel_rfl, by kernel_rfl, rfl⟩
def p_last_Last_Value : List (Nat × Pl) := [(1, (.fl 0 (.fr 1 (.fl 2 (.fr 3 (.fl 4 (.fr 5 (.fl 6 (.fr 7 (.fl 8 (.fl 9 .done)))))))))))]
def c_last_Last_Value : VCode :=
 (.seq (.reg [⟨(some 2), none, .mov (.c (.raw (.string (ByteArray.mk #[]))))⟩,
   ⟨(some 3), none, .mov (.c (.kb false))⟩])
 (.seq (.draw [⟨(some 4), none, .mov (.t 0)⟩,
   ⟨(some 5), none, .nilck (.t 4)⟩,
   ⟨(some 6), none, .faddr 1 (.t 5)⟩,
   ⟨(some 7), none, .load none (.t 6)⟩,
   ⟨(some 8), none, .mov (.t 0)⟩,
   ⟨(some 9), none, .nilck (.t 8)⟩,
   ⟨(some 10), none, .faddr 0 (.t 9)⟩,
   ⟨(some 11), none, .load none (.t 10)⟩,
   ⟨(some 2), none, .mov (.t 7)⟩,
   ⟨(some 3), none, .mov (.t 11)⟩]
   (.fl 0 (.fr 1 (.fl 2 (.fr 3 (.fl 4 (.fr 5 (.fl 6 (.fr 7 (.fl 8 (.fl 9 .done)))))))))))
 .ret))
theorem i_last_Last_Value : Is Tryd.prog 23 12 [.t 2, .t 3] c_last_Last_Value := ⟨Tryd.f23, _, p_last_Last_Value, rfl, rfl, by kernel_rfl, by kernel_rfl, rfl⟩
def p_vec_Dot : List (Nat × Pl) := []
def c_vec_Dot : VCode :=
 (.seq (.reg [⟨(some 1), none, .box 34 (.t 0)⟩,
   ⟨(some 2), none, .mov (.c (.kb false))⟩])
 (.seq (.reg [⟨(some 3), none, .faddr 0 (.t 1)⟩,
   ⟨(some 4), none, .load none (.t 3)⟩,
   ⟨(some 5), none, .call 25 [(.t 4)]⟩,
   ⟨(some 6), none, .mov (.t 5)⟩,
   ⟨(some 7), (some (6, true)), .faddr 1 (.t 1)⟩,
   ⟨(some 8), (some (6, true)), .load none (.t 7)⟩,
   ⟨(some 9), (some (6, true)), .bin .geq .no (.t 8) (.c (.raw (.int .i64 1)))⟩,
   ⟨(some 10), none, .pick (.t 6) (.t 9) (.c (.kb false))⟩,
   ⟨(some 11), none, .mov (.t 10)⟩,
   ⟨(some 12), (some (11, true)), .faddr 1 (.t 1)⟩,
   ⟨(some 13), (some (11, true)), .load none (.t 12)⟩,
   ⟨(some 14), (some (11, true)), .bin .leq .no (.t 13) (.c (.raw (.int .i64 1099511627776)))⟩,
   ⟨(some 15), none, .pick (.t 11) (.t 14) (.c (.kb false))⟩,
   ⟨(some 2), none, .mov (.t 15)⟩])
 .ret))
theorem i_vec_Dot : Is Tryd.prog 24 16 [.t 2] c_vec_Dot := ⟨Tryd.f24, _, p_vec_Dot, rfl, rfl, by kernel_rfl, by kernel_rfl, rfl⟩
def p_vec_Rep : List (Nat × Pl) := []
def c_vec_Rep : VCode :=
 (.seq (.reg [⟨(some 2), none, .mov (.c (.kb false))⟩])
 (.seq (.reg [⟨(some 3), none, .mov (.t 0)⟩,
   ⟨(some 4), none, .bin .geq .no (.t 3) (.c (.raw (.int .i64 0)))⟩,
   ⟨(some 5), none, .mov (.t 4)⟩,
   ⟨(some 6), (some (5, true)), .mov (.t 0)⟩,
   ⟨(some 7), (some (5, true)), .bin .lss .no (.t 6) (.c (.raw (.int .i64 7)))⟩,
   ⟨(some 8), none, .pick (.t 5) (.t 7) (.c (.kb false))⟩,
   ⟨(some 2), none, .mov (.t 8)⟩])
 .ret))
theorem i_vec_Rep : Is Tryd.prog 25 9 [.t 2] c_vec_Rep := ⟨Tryd.f25, _, p_vec_Rep, rfl, rfl, by kernel_rfl, by kernel_rfl, rfl⟩
def p_cmp_Or_int : List (Nat × Pl) := []
def c_cmp_Or_int : VCode :=
 (.seq (.reg [⟨(some 2), none, .mov (.c (.raw (.int .i64 0)))⟩])
 (.seq (.reg [⟨(some 3), none, .mov (.c (.raw (.int .i64 0)))⟩])
 (.seq (.seq (.reg [⟨(some 6), none, .mov (.t 0)⟩,
   ⟨(some 7), none, .len .sl (.t 6)⟩,
   ⟨(some 8), none, .mov (.c (.raw (.int .i64 0)))⟩])
 (.block 0 (.loop (.seq (.reg [⟨(some 9), none, .bin .lss .no (.t 8) (.t 7)⟩])
  (.seq (.cond (.t 9)
   .skip
   (.exit 0))
  (.seq (.block 1 (.seq (.reg [⟨(some 10), none, .iaddr 1 none (.t 6) (.t 8)⟩,
    ⟨(some 11), none, .load none (.t 10)⟩,
    ⟨(some 5), none, .mov (.t 11)⟩])
  (.seq (.reg [⟨(some 12), none, .mov (.t 5)⟩,
    ⟨(some 13), none, .mov (.t 3)⟩,
    ⟨(some 14), none, .bin .neq .no (.t 12) (.t 13)⟩])
  (.cond (.t 14)
   (.seq (.reg [⟨(some 15), none, .mov (.t 5)⟩,
     ⟨(some 2), none, .mov (.t 15)⟩])
   .ret)
   .skip))))
  (.reg [⟨(some 16), none, .bin .add .no (.t 8) (.c (.raw (.int .i64 1)))⟩,
    ⟨(some 8), none, .mov (.t 16)⟩])))))))
 (.seq (.reg [⟨(some 17), none, .mov (.t 3)⟩,
   ⟨(some 2), none, .mov (.t 17)⟩])
 .ret))))
theorem i_cmp_Or_int : Is Tryd.prog 26 18 [.t 2] c_cmp_Or_int := ⟨Tryd.f26, _, p_cmp_Or_int, rfl, rfl, by kernel_rfl, by kernel_rfl, rfl⟩
def p_cmp_Compare_int64 : List (Nat × Pl) := []
def c_cmp_Compare_int64 : VCode :=
 (.seq (.reg [⟨(some 4), none, .mov (.c (.raw (.int .i64 0)))⟩])
 (.seq (.reg [⟨(some 7), none, .mov (.t 0)⟩,
   ⟨(some 8), none, .call 40 [(.t 7)]⟩,
   ⟨(some 5), none, .mov (.t 8)⟩])
 (.seq (.reg [⟨(some 9), none, .mov (.t 1)⟩,
   ⟨(some 10), none, .call 40 [(.t 9)]⟩,
   ⟨(some 6), none, .mov (.t 10)⟩])
 (.seq (.seq (.reg [⟨(some 11), none, .mov (.t 5)⟩])
 (.cond (.t 11)
  (.seq (.seq (.reg [⟨(some 12), none, .mov (.t 6)⟩])
  (.cond (.t 12)
   (.seq (.reg [⟨(some 4), none, .mov (.c (.raw (.int .i64 0)))⟩])
   .ret)
   .skip))
  (.seq (.reg [⟨(some 4), none, .mov (.c (.raw (.int .i64 (-1))))⟩])
  .ret))
  .skip))
 (.seq (.seq (.reg [⟨(some 13), none, .mov (.t 6)⟩])
 (.cond (.t 13)
  (.seq (.reg [⟨(some 4), none, .mov (.c (.raw (.int .i64 1)))⟩])
  .ret)
  .skip))
 (.seq (.seq (.reg [⟨(some 14), none, .mov (.t 0)⟩,
   ⟨(some 15), none, .mov (.t 1)⟩,
   ⟨(some 16), none, .bin .lss .no (.t 14) (.t 15)⟩])
 (.cond (.t 16)
  (.seq (.reg [⟨(some 4), none, .mov (.c (.raw (.int .i64 (-1))))⟩])
  .ret)
  .skip))
 (.seq (.seq (.reg [⟨(some 17), none, .mov (.t 0)⟩,
   ⟨(some 18), none, .mov (.t 1)⟩,
   ⟨(some 19), none, .bin .gtr .no (.t 17) (.t 18)⟩])
 (.cond (.t 19)
  (.seq (.reg [⟨(some 4), none, .mov (.c (.raw (.int .i64 1)))⟩])
  .ret)
  .skip))
 (.seq (.reg [⟨(some 4), none, .mov (.c (.raw (.int .i64 0)))⟩])
 .ret))))))))
theorem i_cmp_Compare_int64 : Is Tryd.prog 27 20 [.t 4] c_cmp_Compare_int64 := ⟨Tryd.f27, _, p_cmp_Compare_int64, rfl, rfl, by kernel_rfl, by kernel_rfl, rfl⟩
def p_dots_Order : List (Nat × Pl) := [(1, (.fl 0 (.fr 1 (.fl 2 (.fr 3 (.fl 5 (.fr 6 (.fl 7 (.fr 8 (.st 4 [6, 8] (.st 9 [] (.st 10 [] (.st 11 [] (.fl 12 .done))))))))))))))]
def c_dots_Order : VCode :=
 (.seq (.reg [⟨(some 2), none, .box 34 (.t 0)⟩,
   ⟨(some 3), none, .box 34 (.t 1)⟩,
   ⟨(some 4), none, .mov (.c (.raw (.int .i64 0)))⟩])
 (.seq (.draw [⟨(some 5), none, .faddr 0 (.t 2)⟩,
   ⟨(some 6), none, .load none (.t 5)⟩,
   ⟨(some 7), none, .faddr 0 (.t 3)⟩,
   ⟨(some 8), none, .load none (.t 7)⟩,
   ⟨(some 9), none, .call 41 [(.t 6), (.t 8)]⟩,
   ⟨(some 10), none, .faddr 1 (.t 2)⟩,
   ⟨(some 11), none, .load none (.t 10)⟩,
   ⟨(some 12), none, .faddr 1 (.t 3)⟩,
   ⟨(some 13), none, .load none (.t 12)⟩,
   ⟨(some 14), none, .call 27 [(.t 11), (.t 13)]⟩,
   ⟨(some 15), none, .bslice 3 2 [(.int .i64 0), (.int .i64 0)] [(0, 1, (.t 9)), (1, 1, (.t 14))]⟩,
   ⟨(some 16), none, .call 26 [(.t 15)]⟩,
   ⟨(some 4), none, .mov (.t 16)⟩]
   (.fl 0 (.fr 1 (.fl 2 (.fr 3 (.fl 5 (.fr 6 (.fl 7 (.fr 8 (.st 4 [6, 8] (.st 9 [] (.st 10 [] (.st 11 [] (.fl 12 .done))))))))))))))
 .ret))
theorem i_dots_Order : Is Tryd.prog 28 17 [.t 4] c_dots_Order := ⟨Tryd.f28, _, p_dots_Order, rfl, rfl, by kernel_rfl, by kernel_rfl, rfl⟩
def p_orset_Set_Put : List (Nat × Pl) := [(11, (.fl 0 (.fl 1 (.fr 2 (.fl 4 (.fr 5 (.st 3 [5] (.st 6 [] (.fl 7 .done)))))))))]
def c_orset_Set_Put : VCode :=
 (.seq (.reg [⟨(some 4), none, .mov (.c (.raw (.slice none 0 0)))⟩])
 (.seq (.reg [⟨(some 11), none, .mov (.t 0)⟩,
   ⟨(some 12), none, .call 20 [(.t 11)]⟩,
   ⟨(some 5), none, .mov (.t 12)⟩])
 (.seq (.reg [⟨(some 13), none, .mov (.t 1)⟩,
   ⟨(some 14), none, .mov (.t 5)⟩,
   ⟨(some 15), none, .len .sl (.t 14)⟩,
   ⟨(some 16), none, .call 30 [(.t 13), (.t 15)]⟩,
   ⟨(some 1), none, .mov (.t 16)⟩])
 (.seq (.seq (.reg [⟨(some 17), none, .mov (.t 5)⟩,
   ⟨(some 18), none, .len .sl (.t 17)⟩,
   ⟨(some 19), none, .mov (.c (.raw (.int .i64 0)))⟩])
 (.block 0 (.loop (.seq (.reg [⟨(some 20), none, .bin .lss .no (.t 19) (.t 18)⟩])
  (.seq (.cond (.t 20)
   .skip
   (.exit 0))
  (.seq (.block 1 (.seq (.reg [⟨(some 21), none, .iaddr 1 none (.t 17) (.t 19)⟩,
    ⟨(some 22), none, .load none (.t 21)⟩,
    ⟨(some 7), none, .mov (.t 22)⟩])
  (.seq (.reg [⟨(some 23), none, .mov (.t 0)⟩,
    ⟨(some 24), none, .mov (.t 7)⟩,
    ⟨(some 25), none, .call 42 [(.t 23), (.t 24)]⟩,
    ⟨(some 8), none, .mov (.t 25)⟩])
  (.seq (.reg [⟨(some 26), none, .mov (.t 1)⟩,
    ⟨(some 27), none, .mov (.t 7)⟩,
    ⟨(some 28), none, .call 43 [(.t 26), (.t 27)]⟩,
    ⟨(some 29), none, .mov (.t 8)⟩,
    ⟨(some 30), none, .len .sl (.t 29)⟩,
    ⟨(some 31), none, .call 30 [(.t 28), (.t 30)]⟩,
    ⟨(some 1), none, .mov (.t 31)⟩])
  (.seq (.reg [⟨(some 32), none, .mov (.t 8)⟩,
    ⟨(some 33), none, .len .sl (.t 32)⟩,
    ⟨(some 34), none, .mov (.c (.raw (.int .i64 0)))⟩])
  (.block 2 (.loop (.seq (.reg [⟨(some 35), none, .bin .lss .no (.t 34) (.t 33)⟩])
   (.seq (.cond (.t 35)
    .skip
    (.exit 2))
   (.seq (.block 3 (.seq (.reg [⟨(some 36), none, .iaddr 2 none (.t 32) (.t 34)⟩,
     ⟨(some 37), none, .load (some 2) (.t 36)⟩,
     ⟨(some 10), none, .new 34 [(.int .i64 0), (.int .i64 0)]⟩,
     ⟨none, none, .store (some 2) (.t 10) (.t 37)⟩])
   (.draw [⟨(some 38), none, .mov (.t 1)⟩,
     ⟨(some 39), none, .faddr 0 (.t 10)⟩,
     ⟨(some 40), none, .load none (.t 39)⟩,
     ⟨(some 41), none, .call 30 [(.t 38), (.t 40)]⟩,
     ⟨(some 42), none, .faddr 1 (.t 10)⟩,
     ⟨(some 43), none, .load none (.t 42)⟩,
     ⟨(some 44), none, .call 30 [(.t 41), (.t 43)]⟩,
     ⟨(some 1), none, .mov (.t 44)⟩]
     (.fl 0 (.fl 1 (.fr 2 (.fl 4 (.fr 5 (.st 3 [5] (.st 6 [] (.fl 7 .done)))))))))))
   (.reg [⟨(some 45), none, .bin .add .no (.t 34) (.c (.raw (.int .i64 1)))⟩,
     ⟨(some 34), none, .mov (.t 45)⟩])))))))))))
  (.reg [⟨(some 46), none, .bin .add .no (.t 19) (.c (.raw (.int .i64 1)))⟩,
    ⟨(some 19), none, .mov (.t 46)⟩])))))))
 (.seq (.reg [⟨(some 47), none, .mov (.t 1)⟩,
   ⟨(some 4), none, .mov (.t 47)⟩])
 .ret)))))
theorem i_orset_Set_Put : Is Tryd.prog 29 48 [.t 4] c_orset_Set_Put := ⟨Tryd.f29, _, p_orset_Set_Put, rfl, rfl, by kernel_rfl, by kernel_rfl, rfl⟩
def p_pack_Num : List (Nat × Pl) := []
def c_pack_Num : VCode :=
 (.seq (.reg [⟨(some 4), none, .mov (.c (.raw (.slice none 0 0)))⟩])
 (.seq (.reg [⟨(some 7), none, .mov (.t 0)⟩,
   ⟨(some 8), none, .call 44 [(.t 7)]⟩,
   ⟨(some 5), none, .mov (.t 8)⟩])
 (.seq (.reg [⟨(some 9), none, .mov (.t 1)⟩,
   ⟨(some 10), none, .conv (.int .u64) (.t 9)⟩,
   ⟨(some 11), none, .bin .shl .no (.t 10) (.c (.raw (.int .u64 1)))⟩,
   ⟨(some 12), none, .mov (.t 1)⟩,
   ⟨(some 13), none, .bin .shr .no (.t 12) (.c (.raw (.int .u64 63)))⟩,
   ⟨(some 14), none, .conv (.int .u64) (.t 13)⟩,
   ⟨(some 15), none, .bin .xor .no (.t 11) (.t 14)⟩,
   ⟨(some 6), none, .mov (.t 15)⟩])
 (.seq (.block 0 (.loop (.seq (.seq (.reg [⟨(some 16), none, .mov (.t 6)⟩,
    ⟨(some 17), none, .bin .geq .no (.t 16) (.c (.raw (.int .u64 128)))⟩])
  (.cond (.t 17)
   .skip
   (.exit 0)))
  (.seq (.block 1 (.reg [⟨(some 20), none, .mov (.t 5)⟩,
    ⟨(some 21), none, .mov (.t 6)⟩,
    ⟨(some 22), none, .conv (.int .u8) (.t 21)⟩,
    ⟨(some 23), none, .bin .or .no (.t 22) (.c (.raw (.int .u8 128)))⟩,
    ⟨(some 24), none, .bslice 5 1 [(.int .u8 0)] [(0, 1, (.t 23))]⟩,
    ⟨(some 25), none, .append 5 1 1 [(.int .u8 0)] (.t 20) (.t 24)⟩,
    ⟨(some 5), none, .mov (.t 25)⟩]))
  (.reg [⟨(some 18), none, .mov (.t 6)⟩,
    ⟨(some 19), none, .bin .shr .no (.t 18) (.c (.raw (.int .u64 7)))⟩,
    ⟨(some 6), none, .mov (.t 19)⟩])))))
 (.seq (.reg [⟨(some 26), none, .mov (.t 5)⟩,
   ⟨(some 27), none, .mov (.t 6)⟩,
   ⟨(some 28), none, .conv (.int .u8) (.t 27)⟩,
   ⟨(some 29), none, .bslice 5 1 [(.int .u8 0)] [(0, 1, (.t 28))]⟩,
   ⟨(some 30), none, .append 5 1 1 [(.int .u8 0)] (.t 26) (.t 29)⟩,
   ⟨(some 4), none, .mov (.t 30)⟩])
 .ret)))))
theorem i_pack_Num : Is Tryd.prog 30 31 [.t 4] c_pack_Num := ⟨Tryd.f30, _, p_pack_Num, rfl, rfl, by kernel_rfl, by kernel_rfl, rfl⟩
def p_tally_Tally_Put : List (Nat × Pl) := [(1, (.fl 0 (.fl 1 (.fr 2 (.fl 3 (.fr 4 (.fl 6 (.fr 7 (.fl 8 (.fr 9 (.st 5 [7, 9] (.st 10 [] (.fl 11 .done)))))))))))))]
def c_tally_Tally_Put : VCode :=
 (.seq (.reg [⟨(some 4), none, .mov (.c (.raw (.slice none 0 0)))⟩])
 (.seq (.draw [⟨(some 5), none, .mov (.t 1)⟩,
   ⟨(some 6), none, .mov (.t 0)⟩,
   ⟨(some 7), none, .nilck (.t 6)⟩,
   ⟨(some 8), none, .faddr 0 (.t 7)⟩,
   ⟨(some 9), none, .load (some 7) (.t 8)⟩,
   ⟨(some 10), none, .call 45 [(.t 5), (.t 9)]⟩,
   ⟨(some 11), none, .mov (.t 0)⟩,
   ⟨(some 12), none, .nilck (.t 11)⟩,
   ⟨(some 13), none, .faddr 7 (.t 12)⟩,
   ⟨(some 14), none, .load (some 7) (.t 13)⟩,
   ⟨(some 15), none, .call 45 [(.t 10), (.t 14)]⟩,
   ⟨(some 4), none, .mov (.t 15)⟩]
   (.fl 0 (.fl 1 (.fr 2 (.fl 3 (.fr 4 (.fl 6 (.fr 7 (.fl 8 (.fr 9 (.st 5 [7, 9] (.st 10 [] (.fl 11 .done)))))))))))))
 .ret))
theorem i_tally_Tally_Put : Is Tryd.prog 31 16 [.t 4] c_tally_Tally_Put := ⟨Tryd.f31, _, p_tally_Tally_Put, rfl, rfl, by kernel_rfl, by kernel_rfl, rfl⟩
def p_last_Last_Put : List (Nat × Pl) := [(3, (.fl 0 (.fl 2 (.fr 3 (.fl 4 (.fr 5 (.st 1 [3, 5] (.st 6 [] (.fl 7 .done))))))))), (4, (.fl 0 (.fl 1 (.fr 2 (.fl 3 (.fl 4 (.fr 5 (.fl 7 (.fr 8 (.fl 9 (.fl 10 (.fr 11 (.fl 13 (.fr 14 (.fl 15 (.fr 16 (.st 6 [8, 11, 14, 16] (.st 12 [14, 16] (.st 17 [] (.fl 18 .done))))))))))))))))))))]
def c_last_Last_Put : VCode :=
 (.seq (.reg [⟨(some 4), none, .mov (.c (.raw (.slice none 0 0)))⟩])
 (.seq (.seq (.reg [⟨(some 5), none, .mov (.t 0)⟩,
   ⟨(some 6), none, .nilck (.t 5)⟩,
   ⟨(some 7), none, .faddr 0 (.t 6)⟩,
   ⟨(some 8), none, .load none (.t 7)⟩,
   ⟨(some 9), none, .un .not (.t 8)⟩])
 (.cond (.t 9)
  (.seq (.reg [⟨(some 10), none, .mov (.t 1)⟩,
    ⟨(some 11), none, .call 30 [(.t 10), (.c (.raw (.int .i64 0)))]⟩,
    ⟨(some 4), none, .mov (.t 11)⟩])
  .ret)
  .skip))
 (.seq (.draw [⟨(some 12), none, .mov (.t 1)⟩,
   ⟨(some 13), none, .call 30 [(.t 12), (.c (.raw (.int .i64 1)))]⟩,
   ⟨(some 14), none, .mov (.t 0)⟩,
   ⟨(some 15), none, .nilck (.t 14)⟩,
   ⟨(some 16), none, .faddr 2 (.t 15)⟩,
   ⟨(some 17), none, .load none (.t 16)⟩,
   ⟨(some 18), none, .call 30 [(.t 13), (.t 17)]⟩,
   ⟨(some 1), none, .mov (.t 18)⟩]
   (.fl 0 (.fl 2 (.fr 3 (.fl 4 (.fr 5 (.st 1 [3, 5] (.st 6 [] (.fl 7 .done)))))))))
 (.seq (.draw [⟨(some 19), none, .mov (.t 1)⟩,
   ⟨(some 20), none, .mov (.t 0)⟩,
   ⟨(some 21), none, .nilck (.t 20)⟩,
   ⟨(some 22), none, .faddr 3 (.t 21)⟩,
   ⟨(some 23), none, .faddr 0 (.t 22)⟩,
   ⟨(some 24), none, .load none (.t 23)⟩,
   ⟨(some 25), none, .call 30 [(.t 19), (.t 24)]⟩,
   ⟨(some 26), none, .mov (.t 0)⟩,
   ⟨(some 27), none, .nilck (.t 26)⟩,
   ⟨(some 28), none, .faddr 3 (.t 27)⟩,
   ⟨(some 29), none, .faddr 1 (.t 28)⟩,
   ⟨(some 30), none, .load none (.t 29)⟩,
   ⟨(some 31), none, .call 30 [(.t 25), (.t 30)]⟩,
   ⟨(some 32), none, .mov (.t 0)⟩,
   ⟨(some 33), none, .nilck (.t 32)⟩,
   ⟨(some 34), none, .faddr 1 (.t 33)⟩,
   ⟨(some 35), none, .load none (.t 34)⟩,
   ⟨(some 36), none, .call 43 [(.t 31), (.t 35)]⟩,
   ⟨(some 4), none, .mov (.t 36)⟩]
   (.fl 0 (.fl 1 (.fr 2 (.fl 3 (.fl 4 (.fr 5 (.fl 7 (.fr 8 (.fl 9 (.fl 10 (.fr 11 (.fl 13 (.fr 14 (.fl 15 (.fr 16 (.st 6 [8, 11, 14, 16] (.st 12 [14, 16] (.st 17 [] (.fl 18 .done))))))))))))))))))))
 .ret))))
theorem i_last_Last_Put : Is Tryd.prog 32 37 [.t 4] c_last_Last_Put := ⟨Tryd.f32, _, p_last_Last_Put, rfl, rfl, by kernel_rfl, by kernel_rfl, rfl⟩
def p_strings_Builder_WriteString : List (Nat × Pl) := []
def c_strings_Builder_WriteString : VCode :=
 (.seq (.reg [⟨(some 4), none, .mov (.c (.raw (.int .i64 0)))⟩,
   ⟨(some 5), none, .mov (.c (.raw .nilIface))⟩])
 (.seq (.reg [⟨(some 6), none, .mov (.t 0)⟩,
   ⟨(some 7), none, .call 46 [(.t 6)]⟩])
 (.seq (.reg [⟨(some 8), none, .mov (.t 0)⟩,
   ⟨(some 9), none, .mov (.t 0)⟩,
   ⟨(some 10), none, .nilck (.t 9)⟩,
   ⟨(some 11), none, .faddr 1 (.t 10)⟩,
   ⟨(some 12), none, .load none (.t 11)⟩,
   ⟨(some 13), none, .mov (.t 1)⟩,
   ⟨(some 14), none, .append 5 1 1 [(.int .u8 0)] (.t 12) (.t 13)⟩,
   ⟨(some 15), none, .nilck (.t 8)⟩,
   ⟨(some 16), none, .faddr 1 (.t 15)⟩,
   ⟨none, none, .store none (.t 16) (.t 14)⟩])
 (.seq (.reg [⟨(some 17), none, .mov (.t 1)⟩,
   ⟨(some 18), none, .len .str (.t 17)⟩,
   ⟨(some 4), none, .mov (.t 18)⟩,
   ⟨(some 5), none, .mov (.c (.raw .nilIface))⟩])
 .ret))))
theorem i_strings_Builder_WriteString : Is Tryd.prog 34 19 [.t 4, .t 5] c_strings_Builder_WriteString := ⟨Tryd.f34, _, p_strings_Builder_WriteString, rfl, rfl, by kernel_rfl, by kernel_rfl, rfl⟩
def p_orset_Set_live : List (Nat × Pl) := [(1, (.fl 0 (.fr 1 (.fl 2 (.fr 3 (.fl 4 (.fr 5 (.fr 6 (.st 7 [] (.fl 8 (.fl 9 .done)))))))))))]
def c_orset_Set_live : VCode :=
 (.seq (.reg [⟨(some 4), none, .box 34 (.t 1)⟩,
   ⟨(some 6), none, .mov (.c (.kb false))⟩])
 (.seq (.draw [⟨(some 7), none, .mov (.t 0)⟩,
   ⟨(some 8), none, .nilck (.t 7)⟩,
   ⟨(some 9), none, .faddr 1 (.t 8)⟩,
   ⟨(some 10), none, .load none (.t 9)⟩,
   ⟨(some 11), none, .mov (.t 2)⟩,
   ⟨(some 12), none, .lookup 68 false (.t 10) (.t 11)⟩,
   ⟨(some 13), none, .load (some 2) (.t 4)⟩,
   ⟨(some 14), none, .call 48 [(.t 12), (.t 13)]⟩,
   ⟨(some 15), none, .un .not (.t 14)⟩,
   ⟨(some 6), none, .mov (.t 15)⟩]
   (.fl 0 (.fr 1 (.fl 2 (.fr 3 (.fl 4 (.fr 5 (.fr 6 (.st 7 [] (.fl 8 (.fl 9 .done)))))))))))
 .ret))
theorem i_orset_Set_live : Is Tryd.prog 36 16 [.t 6] c_orset_Set_live := ⟨Tryd.f36, _, p_orset_Set_live, rfl, rfl, by kernel_rfl, by kernel_rfl, rfl⟩
def p_slices_Sort_sl_string_string : List (Nat × Pl) := []
def c_slices_Sort_sl_string_string : VCode :=
 (.seq (.reg [⟨(some 3), none, .mov (.t 0)⟩,
   ⟨(some 4), none, .len .sl (.t 3)⟩,
   ⟨(some 2), none, .mov (.t 4)⟩])
 (.reg [⟨(some 5), none, .mov (.t 0)⟩,
   ⟨(some 6), none, .mov (.t 2)⟩,
   ⟨(some 7), none, .mov (.t 2)⟩,
   ⟨(some 8), none, .conv (.int .u64) (.t 7)⟩,
   ⟨(some 9), none, .call 50 [(.t 8)]⟩,
   ⟨(some 10), none, .call 49 [(.t 5), (.c (.raw (.int .i64 0))), (.t 6), (.t 9)]⟩]))
theorem i_slices_Sort_sl_string_string : Is Tryd.prog 37 11 [] c_slices_Sort_sl_string_string := ⟨Tryd.f37, _, p_slices_Sort_sl_string_string, rfl, rfl, by kernel_rfl, by kernel_rfl, rfl⟩
def p_slices_Compact_sl_string_string : List (Nat × Pl) := [(6, (.fl 0 (.fl 1 (.fr 2 (.fr 3 (.fl 4 (.fl 5 (.fl 6 (.fr 7 (.fr 8 (.fl 9 .done))))))))))), (11, (.fl 0 (.fl 1 (.fr 2 (.fr 3 (.fl 4 (.fl 5 (.fl 6 (.fr 7 (.fr 8 (.fl 9 .done)))))))))))]
def c_slices_Compact_sl_string_string : VCode :=
 (.seq (.reg [⟨(some 2), none, .mov (.c (.raw (.slice none 0 0)))⟩])
 (.seq (.seq (.reg [⟨(some 6), none, .mov (.t 0)⟩,
   ⟨(some 7), none, .len .sl (.t 6)⟩,
   ⟨(some 8), none, .bin .lss .no (.t 7) (.c (.raw (.int .i64 2)))⟩])
 (.cond (.t 8)
  (.seq (.reg [⟨(some 9), none, .mov (.t 0)⟩,
    ⟨(some 2), none, .mov (.t 9)⟩])
  .ret)
  .skip))
 (.seq (.seq (.reg [⟨(some 3), none, .mov (.c (.raw (.int .i64 1)))⟩])
 (.block 0 (.loop (.seq (.seq (.reg [⟨(some 10), none, .mov (.t 3)⟩,
    ⟨(some 11), none, .mov (.t 0)⟩,
    ⟨(some 12), none, .len .sl (.t 11)⟩,
    ⟨(some 13), none, .bin .lss .no (.t 10) (.t 12)⟩])
  (.cond (.t 13)
   .skip
   (.exit 0)))
  (.seq (.block 1 (.seq (.draw [⟨(some 16), none, .mov (.t 0)⟩,
    ⟨(some 17), none, .mov (.t 3)⟩,
    ⟨(some 18), none, .iaddr 1 none (.t 16) (.t 17)⟩,
    ⟨(some 19), none, .load none (.t 18)⟩,
    ⟨(some 20), none, .mov (.t 0)⟩,
    ⟨(some 21), none, .mov (.t 3)⟩,
    ⟨(some 22), none, .bin .sub .no (.t 21) (.c (.raw (.int .i64 1)))⟩,
    ⟨(some 23), none, .iaddr 1 none (.t 20) (.t 22)⟩,
    ⟨(some 24), none, .load none (.t 23)⟩,
    ⟨(some 25), none, .bin .eql .no (.t 19) (.t 24)⟩]
    (.fl 0 (.fl 1 (.fr 2 (.fr 3 (.fl 4 (.fl 5 (.fl 6 (.fr 7 (.fr 8 (.fl 9 .done)))))))))))
  (.cond (.t 25)
   (.seq (.reg [⟨(some 26), none, .mov (.t 0)⟩,
     ⟨(some 27), none, .mov (.t 3)⟩,
     ⟨(some 28), none, .slice (some 1) (.t 26) (some (.t 27)) none⟩,
     ⟨(some 4), none, .mov (.t 28)⟩])
   (.seq (.seq (.reg [⟨(some 5), none, .mov (.c (.raw (.int .i64 1)))⟩])
   (.block 2 (.loop (.seq (.seq (.reg [⟨(some 29), none, .mov (.t 5)⟩,
      ⟨(some 30), none, .mov (.t 4)⟩,
      ⟨(some 31), none, .len .sl (.t 30)⟩,
      ⟨(some 32), none, .bin .lss .no (.t 29) (.t 31)⟩])
    (.cond (.t 32)
     .skip
     (.exit 2)))
    (.seq (.block 3 (.seq (.draw [⟨(some 35), none, .mov (.t 4)⟩,
      ⟨(some 36), none, .mov (.t 5)⟩,
      ⟨(some 37), none, .iaddr 1 none (.t 35) (.t 36)⟩,
      ⟨(some 38), none, .load none (.t 37)⟩,
      ⟨(some 39), none, .mov (.t 4)⟩,
      ⟨(some 40), none, .mov (.t 5)⟩,
      ⟨(some 41), none, .bin .sub .no (.t 40) (.c (.raw (.int .i64 1)))⟩,
      ⟨(some 42), none, .iaddr 1 none (.t 39) (.t 41)⟩,
      ⟨(some 43), none, .load none (.t 42)⟩,
      ⟨(some 44), none, .bin .neq .no (.t 38) (.t 43)⟩]
      (.fl 0 (.fl 1 (.fr 2 (.fr 3 (.fl 4 (.fl 5 (.fl 6 (.fr 7 (.fr 8 (.fl 9 .done)))))))))))
    (.cond (.t 44)
     (.seq (.reg [⟨(some 45), none, .mov (.t 0)⟩,
       ⟨(some 46), none, .mov (.t 3)⟩,
       ⟨(some 47), none, .mov (.t 4)⟩,
       ⟨(some 48), none, .mov (.t 5)⟩,
       ⟨(some 49), none, .iaddr 1 none (.t 47) (.t 48)⟩,
       ⟨(some 50), none, .load none (.t 49)⟩,
       ⟨(some 51), none, .iaddr 1 none (.t 45) (.t 46)⟩,
       ⟨none, none, .store none (.t 51) (.t 50)⟩])
     (.reg [⟨(some 52), none, .mov (.t 3)⟩,
       ⟨(some 53), none, .bin .add .no (.t 52) (.c (.raw (.int .i64 1)))⟩,
       ⟨(some 3), none, .mov (.t 53)⟩]))
     .skip)))
    (.reg [⟨(some 33), none, .mov (.t 5)⟩,
      ⟨(some 34), none, .bin .add .no (.t 33) (.c (.raw (.int .i64 1)))⟩,
      ⟨(some 5), none, .mov (.t 34)⟩]))))))
   (.seq (.reg [⟨(some 54), none, .mov (.t 0)⟩,
     ⟨(some 55), none, .mov (.t 3)⟩,
     ⟨(some 56), none, .slice (some 1) (.t 54) (some (.t 55)) none⟩,
     ⟨none, none, .clear 1 [(.string (ByteArray.mk #[]))] (.t 56)⟩])
   (.seq (.reg [⟨(some 57), none, .mov (.t 0)⟩,
     ⟨(some 58), none, .mov (.t 3)⟩,
     ⟨(some 59), none, .slice (some 1) (.t 57) none (some (.t 58))⟩,
     ⟨(some 2), none, .mov (.t 59)⟩])
   .ret))))
   .skip)))
  (.reg [⟨(some 14), none, .mov (.t 3)⟩,
    ⟨(some 15), none, .bin .add .no (.t 14) (.c (.raw (.int .i64 1)))⟩,
    ⟨(some 3), none, .mov (.t 15)⟩]))))))
 (.seq (.reg [⟨(some 60), none, .mov (.t 0)⟩,
   ⟨(some 2), none, .mov (.t 60)⟩])
 .ret))))
theorem i_slices_Compact_sl_string_string : Is Tryd.prog 38 61 [.t 2] c_slices_Compact_sl_string_string := ⟨Tryd.f38, _, p_slices_Compact_sl_string_string, rfl, rfl, by kernel_rfl, by kernel_rfl, rfl⟩
def p_cmp_isNaN_int64 : List (Nat × Pl) := []
def c_cmp_isNaN_int64 : VCode :=
 (.seq (.reg [⟨(some 2), none, .mov (.c (.kb false))⟩])
 (.seq (.reg [⟨(some 3), none, .mov (.t 0)⟩,
   ⟨(some 4), none, .mov (.t 0)⟩,
   ⟨(some 5), none, .bin .neq .no (.t 3) (.t 4)⟩,
   ⟨(some 2), none, .mov (.t 5)⟩])
 .ret))
theorem i_cmp_isNaN_int64 : Is Tryd.prog 40 6 [.t 2] c_cmp_isNaN_int64 := ⟨Tryd.f40, _, p_cmp_isNaN_int64, rfl, rfl, by kernel_rfl, by kernel_rfl, rfl⟩
def p_cmp_Compare_int : List (Nat × Pl) := []
def c_cmp_Compare_int : VCode :=
 (.seq (.reg [⟨(some 4), none, .mov (.c (.raw (.int .i64 0)))⟩])
 (.seq (.reg [⟨(some 7), none, .mov (.t 0)⟩,
   ⟨(some 8), none, .call 55 [(.t 7)]⟩,
   ⟨(some 5), none, .mov (.t 8)⟩])
 (.seq (.reg [⟨(some 9), none, .mov (.t 1)⟩,
   ⟨(some 10), none, .call 55 [(.t 9)]⟩,
   ⟨(some 6), none, .mov (.t 10)⟩])
 (.seq (.seq (.reg [⟨(some 11), none, .mov (.t 5)⟩])
 (.cond (.t 11)
  (.seq (.seq (.reg [⟨(some 12), none, .mov (.t 6)⟩])
  (.cond (.t 12)
   (.seq (.reg [⟨(some 4), none, .mov (.c (.raw (.int .i64 0)))⟩])
   .ret)
   .skip))
  (.seq (.reg [⟨(some 4), none, .mov (.c (.raw (.int .i64 (-1))))⟩])
  .ret))
  .skip))
 (.seq (.seq (.reg [⟨(some 13), none, .mov (.t 6)⟩])
 (.cond (.t 13)
  (.seq (.reg [⟨(some 4), none, .mov (.c (.raw (.int .i64 1)))⟩])
  .ret)
  .skip))
 (.seq (.seq (.reg [⟨(some 14), none, .mov (.t 0)⟩,
   ⟨(some 15), none, .mov (.t 1)⟩,
   ⟨(some 16), none, .bin .lss .no (.t 14) (.t 15)⟩])
 (.cond (.t 16)
  (.seq (.reg [⟨(some 4), none, .mov (.c (.raw (.int .i64 (-1))))⟩])
  .ret)
  .skip))
 (.seq (.seq (.reg [⟨(some 17), none, .mov (.t 0)⟩,
   ⟨(some 18), none, .mov (.t 1)⟩,
   ⟨(some 19), none, .bin .gtr .no (.t 17) (.t 18)⟩])
 (.cond (.t 19)
  (.seq (.reg [⟨(some 4), none, .mov (.c (.raw (.int .i64 1)))⟩])
  .ret)
  .skip))
 (.seq (.reg [⟨(some 4), none, .mov (.c (.raw (.int .i64 0)))⟩])
 .ret))))))))
theorem i_cmp_Compare_int : Is Tryd.prog 41 20 [.t 4] c_cmp_Compare_int := ⟨Tryd.f41, _, p_cmp_Compare_int, rfl, rfl, by kernel_rfl, by kernel_rfl, rfl⟩
def p_orset_Set_Dots : List (Nat × Pl) := []
def c_orset_Set_Dots : VCode :=
 (.seq (.reg [⟨(some 4), none, .mov (.c (.raw (.slice none 0 0)))⟩])
 (.seq (.reg [⟨(some 5), none, .mov (.c (.raw (.slice none 0 0)))⟩])
 (.seq (.seq (.reg [⟨(some 8), none, .mov (.t 0)⟩,
   ⟨(some 9), none, .nilck (.t 8)⟩,
   ⟨(some 10), none, .faddr 0 (.t 9)⟩,
   ⟨(some 11), none, .load none (.t 10)⟩,
   ⟨(some 12), none, .range false (.t 11)⟩])
 (.block 0 (.loop (.seq (.reg [⟨(some 13), none, .next false (.t 12)⟩,
    ⟨(some 14), none, .extr (.t 13) 0⟩])
  (.seq (.cond (.t 14)
   .skip
   (.exit 0))
  (.block 1 (.seq (.reg [⟨(some 15), none, .entry (.t 12)⟩,
    ⟨(some 16), none, .extr (.t 15) 0⟩,
    ⟨(some 17), none, .extr (.t 15) 1⟩,
    ⟨(some 6), none, .new 34 [(.int .i64 0), (.int .i64 0)]⟩,
    ⟨none, none, .store (some 2) (.t 6) (.t 16)⟩,
    ⟨(some 7), none, .mov (.t 17)⟩])
  (.seq (.reg [⟨(some 18), none, .mov (.t 1)⟩,
    ⟨(some 19), none, .mov (.t 7)⟩,
    ⟨(some 20), none, .bin .eql .no (.t 18) (.t 19)⟩,
    ⟨(some 21), none, .mov (.t 20)⟩,
    ⟨(some 22), (some (21, true)), .mov (.t 0)⟩,
    ⟨(some 23), (some (21, true)), .load (some 2) (.t 6)⟩,
    ⟨(some 24), (some (21, true)), .mov (.t 1)⟩,
    ⟨(some 25), (some (21, true)), .call 36 [(.t 22), (.t 23), (.t 24)]⟩,
    ⟨(some 26), none, .pick (.t 21) (.t 25) (.c (.kb false))⟩])
  (.cond (.t 26)
   (.reg [⟨(some 27), none, .mov (.t 5)⟩,
     ⟨(some 28), none, .load (some 2) (.t 6)⟩,
     ⟨(some 29), none, .bslice 34 1 [(.int .i64 0), (.int .i64 0)] [(0, 2, (.t 28))]⟩,
     ⟨(some 30), none, .append 34 2 16 [(.int .i64 0), (.int .i64 0)] (.t 27) (.t 29)⟩,
     ⟨(some 5), none, .mov (.t 30)⟩])
   .skip)))))))))
 (.seq (.reg [⟨(some 31), none, .mov (.t 5)⟩,
   ⟨(some 32), none, .call 56 [(.t 31), (.c (.fn 28 []))]⟩])
 (.seq (.reg [⟨(some 33), none, .mov (.t 5)⟩,
   ⟨(some 4), none, .mov (.t 33)⟩])
 .ret)))))
theorem i_orset_Set_Dots : Is Tryd.prog 42 34 [.t 4] c_orset_Set_Dots := ⟨Tryd.f42, _, p_orset_Set_Dots, rfl, rfl, by kernel_rfl, by kernel_rfl, rfl⟩
def p_pack_Text : List (Nat × Pl) := []
def c_pack_Text : VCode :=
 (.seq (.reg [⟨(some 4), none, .mov (.c (.raw (.slice none 0 0)))⟩])
 (.seq (.reg [⟨(some 5), none, .mov (.t 0)⟩,
   ⟨(some 6), none, .mov (.t 1)⟩,
   ⟨(some 7), none, .conv (.s2b 5) (.t 6)⟩,
   ⟨(some 8), none, .call 57 [(.t 5), (.t 7)]⟩,
   ⟨(some 4), none, .mov (.t 8)⟩])
 .ret))
theorem i_pack_Text : Is Tryd.prog 43 9 [.t 4] c_pack_Text := ⟨Tryd.f43, _, p_pack_Text, rfl, rfl, by kernel_rfl, by kernel_rfl, rfl⟩
def p_bytes_Clone : List (Nat × Pl) := []
def c_bytes_Clone : VCode :=
 (.seq (.reg [⟨(some 2), none, .mov (.c (.raw (.slice none 0 0)))⟩])
 (.seq (.seq (.reg [⟨(some 3), none, .mov (.t 0)⟩,
   ⟨(some 4), none, .bin .eql .sl (.t 3) (.c (.raw (.slice none 0 0)))⟩])
 (.cond (.t 4)
  (.seq (.reg [⟨(some 2), none, .mov (.c (.raw (.slice none 0 0)))⟩])
  .ret)
  .skip))
 (.seq (.reg [⟨(some 5), none, .bslice 5 0 [] []⟩,
   ⟨(some 6), none, .mov (.t 0)⟩,
   ⟨(some 7), none, .append 5 1 1 [(.int .u8 0)] (.t 5) (.t 6)⟩,
   ⟨(some 2), none, .mov (.t 7)⟩])
 .ret)))
theorem i_bytes_Clone : Is Tryd.prog 44 8 [.t 2] c_bytes_Clone := ⟨Tryd.f44, _, p_bytes_Clone, rfl, rfl, by kernel_rfl, by kernel_rfl, rfl⟩
def p_vec_Put : List (Nat × Pl) := []
def c_vec_Put : VCode :=
 (.seq (.reg [⟨(some 3), none, .box 108 (.t 1)⟩,
   ⟨(some 4), none, .mov (.c (.raw (.slice none 0 0)))⟩])
 (.seq (.seq (.reg [⟨(some 7), none, .load (some 7) (.t 3)⟩,
   ⟨(some 8), none, .mov (.c (.raw (.int .i64 0)))⟩])
 (.block 0 (.loop (.seq (.reg [⟨(some 9), none, .bin .lss .no (.t 8) (.c (.raw (.int .i64 7)))⟩])
  (.seq (.cond (.t 9)
   .skip
   (.exit 0))
  (.seq (.block 1 (.seq (.reg [⟨(some 10), none, .aindex 7 1 false (.t 7) (.t 8)⟩,
    ⟨(some 6), none, .mov (.t 10)⟩])
  (.reg [⟨(some 11), none, .mov (.t 0)⟩,
    ⟨(some 12), none, .mov (.t 6)⟩,
    ⟨(some 13), none, .call 30 [(.t 11), (.t 12)]⟩,
    ⟨(some 0), none, .mov (.t 13)⟩])))
  (.reg [⟨(some 14), none, .bin .add .no (.t 8) (.c (.raw (.int .i64 1)))⟩,
    ⟨(some 8), none, .mov (.t 14)⟩])))))))
 (.seq (.reg [⟨(some 15), none, .mov (.t 0)⟩,
   ⟨(some 4), none, .mov (.t 15)⟩])
 .ret)))
theorem i_vec_Put : Is Tryd.prog 45 16 [.t 4] c_vec_Put := ⟨Tryd.f45, _, p_vec_Put, rfl, rfl, by kernel_rfl, by kernel_rfl, rfl⟩
def p_vec_Has : List (Nat × Pl) := [(1, (.fl 0 (.fr 1 (.st 2 [] (.fl 3 (.fl 4 (.fr 5 (.fl 6 (.fl 7 (.fl 8 (.fl 9 (.fr 10 (.fl 11 (.fr 12 (.fr 13 (.fr 14 (.fl 15 (.fl 16 (.fl 17 .done)))))))))))))))))))]
def c_vec_Has : VCode :=
 (.seq (.reg [⟨(some 2), none, .box 108 (.t 0)⟩,
   ⟨(some 3), none, .box 34 (.t 1)⟩,
   ⟨(some 4), none, .mov (.c (.kb false))⟩])
 (.seq (.draw [⟨(some 5), none, .faddr 0 (.t 3)⟩,
   ⟨(some 6), none, .load none (.t 5)⟩,
   ⟨(some 7), none, .call 25 [(.t 6)]⟩,
   ⟨(some 8), none, .mov (.t 7)⟩,
   ⟨(some 9), (some (8, true)), .faddr 1 (.t 3)⟩,
   ⟨(some 10), (some (8, true)), .load none (.t 9)⟩,
   ⟨(some 11), (some (8, true)), .bin .geq .no (.t 10) (.c (.raw (.int .i64 1)))⟩,
   ⟨(some 12), none, .pick (.t 8) (.t 11) (.c (.kb false))⟩,
   ⟨(some 13), none, .mov (.t 12)⟩,
   ⟨(some 14), (some (13, true)), .faddr 1 (.t 3)⟩,
   ⟨(some 15), (some (13, true)), .load none (.t 14)⟩,
   ⟨(some 16), (some (13, true)), .faddr 0 (.t 3)⟩,
   ⟨(some 17), (some (13, true)), .load none (.t 16)⟩,
   ⟨(some 18), (some (13, true)), .iaddr 1 (some 7) (.t 2) (.t 17)⟩,
   ⟨(some 19), (some (13, true)), .load none (.t 18)⟩,
   ⟨(some 20), (some (13, true)), .bin .leq .no (.t 15) (.t 19)⟩,
   ⟨(some 21), none, .pick (.t 13) (.t 20) (.c (.kb false))⟩,
   ⟨(some 4), none, .mov (.t 21)⟩]
   (.fl 0 (.fr 1 (.st 2 [] (.fl 3 (.fl 4 (.fr 5 (.fl 6 (.fl 7 (.fl 8 (.fl 9 (.fr 10 (.fl 11 (.fr 12 (.fr 13 (.fr 14 (.fl 15 (.fl 16 (.fl 17 .done)))))))))))))))))))
 .ret))
theorem i_vec_Has : Is Tryd.prog 48 22 [.t 4] c_vec_Has := ⟨Tryd.f48, _, p_vec_Has, rfl, rfl, by kernel_rfl, by kernel_rfl, rfl⟩
def p_slices_pdqsortOrdered_string : List (Nat × Pl) := [(17, (.fl 0 (.fl 1 (.fl 2 (.fl 3 (.fl 4 (.fl 5 (.fr 6 (.fr 7 (.fl 8 (.fl 9 (.fr 10 (.fr 11 (.st 12 [] (.fl 13 (.fl 14 .done))))))))))))))))]
def c_slices_pdqsortOrdered_string : VCode :=
 (.seq (.reg [⟨(some 8), none, .mov (.c (.kb true))⟩])
 (.seq (.reg [⟨(some 9), none, .mov (.c (.kb true))⟩])
 (.block 0 (.loop (.block 1 (.seq (.reg [⟨(some 19), none, .mov (.t 2)⟩,
    ⟨(some 20), none, .mov (.t 1)⟩,
    ⟨(some 21), none, .bin .sub .no (.t 19) (.t 20)⟩,
    ⟨(some 10), none, .mov (.t 21)⟩])
  (.seq (.seq (.reg [⟨(some 22), none, .mov (.t 10)⟩,
    ⟨(some 23), none, .bin .leq .no (.t 22) (.c (.raw (.int .i64 12)))⟩])
  (.cond (.t 23)
   (.seq (.reg [⟨(some 24), none, .mov (.t 0)⟩,
     ⟨(some 25), none, .mov (.t 1)⟩,
     ⟨(some 26), none, .mov (.t 2)⟩,
     ⟨(some 27), none, .call 60 [(.t 24), (.t 25), (.t 26)]⟩])
   .ret)
   .skip))
  (.seq (.seq (.reg [⟨(some 28), none, .mov (.t 3)⟩,
    ⟨(some 29), none, .bin .eql .no (.t 28) (.c (.raw (.int .i64 0)))⟩])
  (.cond (.t 29)
   (.seq (.reg [⟨(some 30), none, .mov (.t 0)⟩,
     ⟨(some 31), none, .mov (.t 1)⟩,
     ⟨(some 32), none, .mov (.t 2)⟩,
     ⟨(some 33), none, .call 61 [(.t 30), (.t 31), (.t 32)]⟩])
   .ret)
   .skip))
  (.seq (.seq (.reg [⟨(some 34), none, .mov (.t 8)⟩,
    ⟨(some 35), none, .un .not (.t 34)⟩])
  (.cond (.t 35)
   (.seq (.reg [⟨(some 36), none, .mov (.t 0)⟩,
     ⟨(some 37), none, .mov (.t 1)⟩,
     ⟨(some 38), none, .mov (.t 2)⟩,
     ⟨(some 39), none, .call 62 [(.t 36), (.t 37), (.t 38)]⟩])
   (.reg [⟨(some 40), none, .mov (.t 3)⟩,
     ⟨(some 41), none, .bin .sub .no (.t 40) (.c (.raw (.int .i64 1)))⟩,
     ⟨(some 3), none, .mov (.t 41)⟩]))
   .skip))
  (.seq (.reg [⟨(some 43), none, .mov (.t 0)⟩,
    ⟨(some 44), none, .mov (.t 1)⟩,
    ⟨(some 45), none, .mov (.t 2)⟩,
    ⟨(some 46), none, .call 63 [(.t 43), (.t 44), (.t 45)]⟩,
    ⟨(some 42), none, .mov (.t 46)⟩,
    ⟨(some 47), none, .extr (.t 42) 0⟩,
    ⟨(some 48), none, .extr (.t 42) 1⟩,
    ⟨(some 11), none, .mov (.t 47)⟩,
    ⟨(some 12), none, .mov (.t 48)⟩])
  (.seq (.seq (.reg [⟨(some 49), none, .mov (.t 12)⟩,
    ⟨(some 50), none, .bin .eql .no (.t 49) (.c (.raw (.int .i64 2)))⟩])
  (.cond (.t 50)
   (.seq (.reg [⟨(some 51), none, .mov (.t 0)⟩,
     ⟨(some 52), none, .mov (.t 1)⟩,
     ⟨(some 53), none, .mov (.t 2)⟩,
     ⟨(some 54), none, .call 64 [(.t 51), (.t 52), (.t 53)]⟩])
   (.seq (.reg [⟨(some 55), none, .mov (.t 2)⟩,
     ⟨(some 56), none, .bin .sub .no (.t 55) (.c (.raw (.int .i64 1)))⟩,
     ⟨(some 57), none, .mov (.t 11)⟩,
     ⟨(some 58), none, .mov (.t 1)⟩,
     ⟨(some 59), none, .bin .sub .no (.t 57) (.t 58)⟩,
     ⟨(some 60), none, .bin .sub .no (.t 56) (.t 59)⟩,
     ⟨(some 11), none, .mov (.t 60)⟩])
   (.reg [⟨(some 12), none, .mov (.c (.raw (.int .i64 1)))⟩])))
   .skip))
  (.seq (.seq (.reg [⟨(some 61), none, .mov (.t 8)⟩,
    ⟨(some 62), none, .mov (.t 61)⟩,
    ⟨(some 63), (some (62, true)), .mov (.t 9)⟩,
    ⟨(some 64), none, .pick (.t 62) (.t 63) (.c (.kb false))⟩,
    ⟨(some 65), none, .mov (.t 64)⟩,
    ⟨(some 66), (some (65, true)), .mov (.t 12)⟩,
    ⟨(some 67), (some (65, true)), .bin .eql .no (.t 66) (.c (.raw (.int .i64 1)))⟩,
    ⟨(some 68), none, .pick (.t 65) (.t 67) (.c (.kb false))⟩])
  (.cond (.t 68)
   (.seq (.reg [⟨(some 69), none, .mov (.t 0)⟩,
     ⟨(some 70), none, .mov (.t 1)⟩,
     ⟨(some 71), none, .mov (.t 2)⟩,
     ⟨(some 72), none, .call 65 [(.t 69), (.t 70), (.t 71)]⟩])
   (.cond (.t 72)
    .ret
    .skip))
   .skip))
  (.seq (.seq (.draw [⟨(some 73), none, .mov (.t 1)⟩,
    ⟨(some 74), none, .bin .gtr .no (.t 73) (.c (.raw (.int .i64 0)))⟩,
    ⟨(some 75), none, .mov (.t 74)⟩,
    ⟨(some 76), (some (75, true)), .mov (.t 0)⟩,
    ⟨(some 77), (some (75, true)), .mov (.t 1)⟩,
    ⟨(some 78), (some (75, true)), .bin .sub .no (.t 77) (.c (.raw (.int .i64 1)))⟩,
    ⟨(some 79), (some (75, true)), .iaddr 1 none (.t 76) (.t 78)⟩,
    ⟨(some 80), (some (75, true)), .load none (.t 79)⟩,
    ⟨(some 81), (some (75, true)), .mov (.t 0)⟩,
    ⟨(some 82), (some (75, true)), .mov (.t 11)⟩,
    ⟨(some 83), (some (75, true)), .iaddr 1 none (.t 81) (.t 82)⟩,
    ⟨(some 84), (some (75, true)), .load none (.t 83)⟩,
    ⟨(some 85), (some (75, true)), .call 66 [(.t 80), (.t 84)]⟩,
    ⟨(some 86), (some (75, true)), .un .not (.t 85)⟩,
    ⟨(some 87), none, .pick (.t 75) (.t 86) (.c (.kb false))⟩]
    (.fl 0 (.fl 1 (.fl 2 (.fl 3 (.fl 4 (.fl 5 (.fr 6 (.fr 7 (.fl 8 (.fl 9 (.fr 10 (.fr 11 (.st 12 [] (.fl 13 (.fl 14 .done))))))))))))))))
  (.cond (.t 87)
   (.seq (.reg [⟨(some 88), none, .mov (.t 0)⟩,
     ⟨(some 89), none, .mov (.t 1)⟩,
     ⟨(some 90), none, .mov (.t 2)⟩,
     ⟨(some 91), none, .mov (.t 11)⟩,
     ⟨(some 92), none, .call 67 [(.t 88), (.t 89), (.t 90), (.t 91)]⟩,
     ⟨(some 13), none, .mov (.t 92)⟩])
   (.seq (.reg [⟨(some 93), none, .mov (.t 13)⟩,
     ⟨(some 1), none, .mov (.t 93)⟩])
   (.exit 1)))
   .skip))
  (.seq (.reg [⟨(some 95), none, .mov (.t 0)⟩,
    ⟨(some 96), none, .mov (.t 1)⟩,
    ⟨(some 97), none, .mov (.t 2)⟩,
    ⟨(some 98), none, .mov (.t 11)⟩,
    ⟨(some 99), none, .call 68 [(.t 95), (.t 96), (.t 97), (.t 98)]⟩,
    ⟨(some 94), none, .mov (.t 99)⟩,
    ⟨(some 100), none, .extr (.t 94) 0⟩,
    ⟨(some 101), none, .extr (.t 94) 1⟩,
    ⟨(some 14), none, .mov (.t 100)⟩,
    ⟨(some 15), none, .mov (.t 101)⟩])
  (.seq (.reg [⟨(some 102), none, .mov (.t 15)⟩,
    ⟨(some 9), none, .mov (.t 102)⟩])
  (.seq (.reg [⟨(some 103), none, .mov (.t 14)⟩,
    ⟨(some 104), none, .mov (.t 1)⟩,
    ⟨(some 105), none, .bin .sub .no (.t 103) (.t 104)⟩,
    ⟨(some 106), none, .mov (.t 2)⟩,
    ⟨(some 107), none, .mov (.t 14)⟩,
    ⟨(some 108), none, .bin .sub .no (.t 106) (.t 107)⟩,
    ⟨(some 16), none, .mov (.t 105)⟩,
    ⟨(some 17), none, .mov (.t 108)⟩])
  (.seq (.reg [⟨(some 109), none, .mov (.t 10)⟩,
    ⟨(some 110), none, .bin .quo .no (.t 109) (.c (.raw (.int .i64 8)))⟩,
    ⟨(some 18), none, .mov (.t 110)⟩])
  (.seq (.reg [⟨(some 111), none, .mov (.t 16)⟩,
    ⟨(some 112), none, .mov (.t 17)⟩,
    ⟨(some 113), none, .bin .lss .no (.t 111) (.t 112)⟩])
  (.cond (.t 113)
   (.seq (.reg [⟨(some 114), none, .mov (.t 16)⟩,
     ⟨(some 115), none, .mov (.t 18)⟩,
     ⟨(some 116), none, .bin .geq .no (.t 114) (.t 115)⟩,
     ⟨(some 8), none, .mov (.t 116)⟩])
   (.seq (.reg [⟨(some 117), none, .mov (.t 0)⟩,
     ⟨(some 118), none, .mov (.t 1)⟩,
     ⟨(some 119), none, .mov (.t 14)⟩,
     ⟨(some 120), none, .mov (.t 3)⟩,
     ⟨(some 121), none, .call 49 [(.t 117), (.t 118), (.t 119), (.t 120)]⟩])
   (.reg [⟨(some 122), none, .mov (.t 14)⟩,
     ⟨(some 123), none, .bin .add .no (.t 122) (.c (.raw (.int .i64 1)))⟩,
     ⟨(some 1), none, .mov (.t 123)⟩])))
   (.seq (.reg [⟨(some 124), none, .mov (.t 17)⟩,
     ⟨(some 125), none, .mov (.t 18)⟩,
     ⟨(some 126), none, .bin .geq .no (.t 124) (.t 125)⟩,
     ⟨(some 8), none, .mov (.t 126)⟩])
   (.seq (.reg [⟨(some 127), none, .mov (.t 0)⟩,
     ⟨(some 128), none, .mov (.t 14)⟩,
     ⟨(some 129), none, .bin .add .no (.t 128) (.c (.raw (.int .i64 1)))⟩,
     ⟨(some 130), none, .mov (.t 2)⟩,
     ⟨(some 131), none, .mov (.t 3)⟩,
     ⟨(some 132), none, .call 49 [(.t 127), (.t 129), (.t 130), (.t 131)]⟩])
   (.reg [⟨(some 133), none, .mov (.t 14)⟩,
     ⟨(some 2), none, .mov (.t 133)⟩]))))))))))))))))))))))
theorem i_slices_pdqsortOrdered_string : Is Tryd.prog 49 134 [] c_slices_pdqsortOrdered_string := ⟨Tryd.f49, _, p_slices_pdqsortOrdered_string, rfl, rfl, by kernel_rfl, by kernel_rfl, rfl⟩
def p_math_bits_Len : List (Nat × Pl) := []
def c_math_bits_Len : VCode :=
 (.seq (.reg [⟨(some 2), none, .mov (.c (.raw (.int .i64 0)))⟩])
 (.seq (.cond (.c (.kb false))
  (.seq (.reg [⟨(some 3), none, .mov (.t 0)⟩,
    ⟨(some 4), none, .conv (.int .u32) (.t 3)⟩,
    ⟨(some 5), none, .call 69 [(.t 4)]⟩,
    ⟨(some 2), none, .mov (.t 5)⟩])
  .ret)
  .skip)
 (.seq (.reg [⟨(some 6), none, .mov (.t 0)⟩,
   ⟨(some 7), none, .call 70 [(.t 6)]⟩,
   ⟨(some 2), none, .mov (.t 7)⟩])
 .ret)))
theorem i_math_bits_Len : Is Tryd.prog 50 8 [.t 2] c_math_bits_Len := ⟨Tryd.f50, _, p_math_bits_Len, rfl, rfl, by kernel_rfl, by kernel_rfl, rfl⟩
def p_internal_strconv_small : List (Nat × Pl) := []
def c_internal_strconv_small : VCode :=
 (.seq (.reg [⟨(some 2), none, .mov (.c (.raw (.string (ByteArray.mk #[]))))⟩])
 (.seq (.seq (.reg [⟨(some 3), none, .mov (.t 0)⟩,
   ⟨(some 4), none, .bin .lss .no (.t 3) (.c (.raw (.int .i64 10)))⟩])
 (.cond (.t 4)
  (.seq (.reg [⟨(some 5), none, .mov (.t 0)⟩,
    ⟨(some 6), none, .mov (.t 0)⟩,
    ⟨(some 7), none, .bin .add .no (.t 6) (.c (.raw (.int .i64 1)))⟩,
    ⟨(some 8), none, .slice none (.c (.raw (.string (ByteArray.mk #[48, 49, 50, 51, 52, 53, 54, 55, 56, 57, 97, 98, 99, 100, 101, 102, 103, 104, 105, 106, 107, 108, 109, 110, 111, 112, 113, 114, 115, 116, 117, 118, 119, 120, 121, 122])))) (some (.t 5)) (some (.t 7))⟩,
    ⟨(some 2), none, .mov (.t 8)⟩])
  .ret)
  .skip))
 (.seq (.reg [⟨(some 9), none, .mov (.t 0)⟩,
   ⟨(some 10), none, .bin .mul .no (.t 9) (.c (.raw (.int .i64 2)))⟩,
   ⟨(some 11), none, .mov (.t 0)⟩,
   ⟨(some 12), none, .bin .mul .no (.t 11) (.c (.raw (.int .i64 2)))⟩,
   ⟨(some 13), none, .bin .add .no (.t 12) (.c (.raw (.int .i64 2)))⟩,
   ⟨(some 14), none, .slice none (.c (.raw (.string (ByteArray.mk #[48, 48, 48, 49, 48, 50, 48, 51, 48, 52, 48, 53, 48, 54, 48, 55, 48, 56, 48, 57, 49, 48, 49, 49, 49, 50, 49, 51, 49, 52, 49, 53, 49, 54, 49, 55, 49, 56, 49, 57, 50, 48, 50, 49, 50, 50, 50, 51, 50, 52, 50, 53, 50, 54, 50, 55, 50, 56, 50, 57, 51, 48, 51, 49, 51, 50, 51, 51, 51, 52, 51, 53, 51, 54, 51, 55, 51, 56, 51, 57, 52, 48, 52, 49, 52, 50, 52, 51, 52, 52, 52, 53, 52, 54, 52, 55, 52, 56, 52, 57, 53, 48, 53, 49, 53, 50, 53, 51, 53, 52, 53, 53, 53, 54, 53, 55, 53, 56, 53, 57, 54, 48, 54, 49, 54, 50, 54, 51, 54, 52, 54, 53, 54, 54, 54, 55, 54, 56, 54, 57, 55, 48, 55, 49, 55, 50, 55, 51, 55, 52, 55, 53, 55, 54, 55, 55, 55, 56, 55, 57, 56, 48, 56, 49, 56, 50, 56, 51, 56, 52, 56, 53, 56, 54, 56, 55, 56, 56, 56, 57, 57, 48, 57, 49, 57, 50, 57, 51, 57, 52, 57, 53, 57, 54, 57, 55, 57, 56, 57, 57])))) (some (.t 10)) (some (.t 13))⟩,
   ⟨(some 2), none, .mov (.t 14)⟩])
 .ret)))
theorem i_internal_strconv_small : Is Tryd.prog 51 15 [.t 2] c_internal_strconv_small := ⟨Tryd.f51, _, p_internal_strconv_small, rfl, rfl, by kernel_rfl, by kernel_rfl, rfl⟩
def p_internal_strconv_formatBase10 : List (Nat × Pl) := [(7, (.fl 0 (.fl 1 (.fl 2 (.fl 3 (.fl 4 (.fl 5 (.fl 6 (.fl 7 (.fl 8 (.fl 9 (.fl 10 (.fr 11 (.st 12 [] (.fr 13 (.st 14 [] .done)))))))))))))))), (8, (.fl 0 (.fl 1 (.fl 2 (.fl 3 (.fl 4 (.fl 5 (.fl 6 (.fl 7 (.fl 8 (.fl 9 (.fl 10 (.fr 11 (.st 12 [] (.fr 13 (.st 14 [] .done)))))))))))))))), (9, (.fl 0 (.fl 1 (.fl 2 (.fl 3 (.fl 4 (.fl 5 (.fl 6 (.fl 7 (.fl 8 (.fl 9 (.fl 10 (.fr 11 (.st 12 [] (.fr 13 (.st 14 [] .done)))))))))))))))), (10, (.fl 0 (.fl 1 (.fl 2 (.fl 3 (.fl 4 (.fl 5 (.fl 6 (.fl 7 (.fl 8 (.fl 9 (.fl 10 (.fr 11 (.st 12 [] (.fr 13 (.st 14 [] .done)))))))))))))))), (17, (.fl 0 (.fl 1 (.fl 2 (.fl 3 (.fl 4 (.fl 5 (.fl 6 (.fl 7 (.fl 8 (.fl 9 (.fl 10 (.fr 11 (.st 12 [] (.fr 13 (.st 14 [] .done)))))))))))))))), (18, (.fl 0 (.fl 1 (.fl 2 (.fl 3 (.fl 4 (.fl 5 (.fl 6 (.fl 7 (.fl 8 (.fl 9 (.fl 10 (.fr 11 (.st 12 [] (.fr 13 (.st 14 [] .done)))))))))))))))), (23, (.fl 0 (.fl 1 (.fl 2 (.fl 3 (.fl 4 (.fl 5 (.fl 6 (.fl 7 (.fl 8 (.fl 9 (.fl 10 (.fr 11 (.st 12 [] (.fr 13 (.st 14 [] .done))))))))))))))))]
def c_internal_strconv_formatBase10 : VCode :=
 (.seq (.reg [⟨(some 17), none, .mov (.t 0)⟩,
   ⟨(some 18), none, .len .sl (.t 17)⟩,
   ⟨(some 4), none, .mov (.t 18)⟩])
 (.seq (.block 0 (.loop (.seq (.seq (.reg [⟨(some 19), none, .mov (.t 4)⟩,
    ⟨(some 20), none, .bin .geq .no (.t 19) (.c (.raw (.int .i64 8)))⟩])
  (.cond (.t 20)
   .skip
   (.exit 0)))
  (.block 1 (.seq (.reg [⟨(some 21), none, .mov (.t 1)⟩,
    ⟨(some 22), none, .bin .rem .no (.t 21) (.c (.raw (.int .u64 100000000)))⟩,
    ⟨(some 23), none, .conv (.int .u32) (.t 22)⟩,
    ⟨(some 5), none, .mov (.t 23)⟩])
  (.seq (.reg [⟨(some 24), none, .mov (.t 1)⟩,
    ⟨(some 25), none, .bin .quo .no (.t 24) (.c (.raw (.int .u64 100000000)))⟩,
    ⟨(some 1), none, .mov (.t 25)⟩])
  (.seq (.reg [⟨(some 26), none, .mov (.t 5)⟩,
    ⟨(some 27), none, .bin .quo .no (.t 26) (.c (.raw (.int .u32 10000)))⟩,
    ⟨(some 28), none, .mov (.t 5)⟩,
    ⟨(some 29), none, .bin .rem .no (.t 28) (.c (.raw (.int .u32 10000)))⟩,
    ⟨(some 6), none, .mov (.t 27)⟩,
    ⟨(some 7), none, .mov (.t 29)⟩])
  (.seq (.reg [⟨(some 30), none, .mov (.t 7)⟩,
    ⟨(some 31), none, .bin .quo .no (.t 30) (.c (.raw (.int .u32 100)))⟩,
    ⟨(some 32), none, .bin .mul .no (.t 31) (.c (.raw (.int .u32 2)))⟩,
    ⟨(some 33), none, .mov (.t 7)⟩,
    ⟨(some 34), none, .bin .rem .no (.t 33) (.c (.raw (.int .u32 100)))⟩,
    ⟨(some 35), none, .bin .mul .no (.t 34) (.c (.raw (.int .u32 2)))⟩,
    ⟨(some 8), none, .mov (.t 32)⟩,
    ⟨(some 9), none, .mov (.t 35)⟩])
  (.seq (.reg [⟨(some 36), none, .mov (.t 6)⟩,
    ⟨(some 37), none, .bin .quo .no (.t 36) (.c (.raw (.int .u32 100)))⟩,
    ⟨(some 38), none, .bin .mul .no (.t 37) (.c (.raw (.int .u32 2)))⟩,
    ⟨(some 39), none, .mov (.t 6)⟩,
    ⟨(some 40), none, .bin .rem .no (.t 39) (.c (.raw (.int .u32 100)))⟩,
    ⟨(some 41), none, .bin .mul .no (.t 40) (.c (.raw (.int .u32 2)))⟩,
    ⟨(some 10), none, .mov (.t 38)⟩,
    ⟨(some 11), none, .mov (.t 41)⟩])
  (.seq (.draw [⟨(some 42), none, .mov (.t 0)⟩,
    ⟨(some 43), none, .mov (.t 4)⟩,
    ⟨(some 44), none, .bin .sub .no (.t 43) (.c (.raw (.int .i64 1)))⟩,
    ⟨(some 45), none, .mov (.t 0)⟩,
    ⟨(some 46), none, .mov (.t 4)⟩,
    ⟨(some 47), none, .bin .sub .no (.t 46) (.c (.raw (.int .i64 2)))⟩,
    ⟨(some 48), none, .mov (.t 9)⟩,
    ⟨(some 49), none, .bin .add .no (.t 48) (.c (.raw (.int .u32 1)))⟩,
    ⟨(some 50), none, .sindex (.c (.raw (.string (ByteArray.mk #[48, 48, 48, 49, 48, 50, 48, 51, 48, 52, 48, 53, 48, 54, 48, 55, 48, 56, 48, 57, 49, 48, 49, 49, 49, 50, 49, 51, 49, 52, 49, 53, 49, 54, 49, 55, 49, 56, 49, 57, 50, 48, 50, 49, 50, 50, 50, 51, 50, 52, 50, 53, 50, 54, 50, 55, 50, 56, 50, 57, 51, 48, 51, 49, 51, 50, 51, 51, 51, 52, 51, 53, 51, 54, 51, 55, 51, 56, 51, 57, 52, 48, 52, 49, 52, 50, 52, 51, 52, 52, 52, 53, 52, 54, 52, 55, 52, 56, 52, 57, 53, 48, 53, 49, 53, 50, 53, 51, 53, 52, 53, 53, 53, 54, 53, 55, 53, 56, 53, 57, 54, 48, 54, 49, 54, 50, 54, 51, 54, 52, 54, 53, 54, 54, 54, 55, 54, 56, 54, 57, 55, 48, 55, 49, 55, 50, 55, 51, 55, 52, 55, 53, 55, 54, 55, 55, 55, 56, 55, 57, 56, 48, 56, 49, 56, 50, 56, 51, 56, 52, 56, 53, 56, 54, 56, 55, 56, 56, 56, 57, 57, 48, 57, 49, 57, 50, 57, 51, 57, 52, 57, 53, 57, 54, 57, 55, 57, 56, 57, 57])))) (.t 49)⟩,
    ⟨(some 51), none, .mov (.t 9)⟩,
    ⟨(some 52), none, .sindex (.c (.raw (.string (ByteArray.mk #[48, 48, 48, 49, 48, 50, 48, 51, 48, 52, 48, 53, 48, 54, 48, 55, 48, 56, 48, 57, 49, 48, 49, 49, 49, 50, 49, 51, 49, 52, 49, 53, 49, 54, 49, 55, 49, 56, 49, 57, 50, 48, 50, 49, 50, 50, 50, 51, 50, 52, 50, 53, 50, 54, 50, 55, 50, 56, 50, 57, 51, 48, 51, 49, 51, 50, 51, 51, 51, 52, 51, 53, 51, 54, 51, 55, 51, 56, 51, 57, 52, 48, 52, 49, 52, 50, 52, 51, 52, 52, 52, 53, 52, 54, 52, 55, 52, 56, 52, 57, 53, 48, 53, 49, 53, 50, 53, 51, 53, 52, 53, 53, 53, 54, 53, 55, 53, 56, 53, 57, 54, 48, 54, 49, 54, 50, 54, 51, 54, 52, 54, 53, 54, 54, 54, 55, 54, 56, 54, 57, 55, 48, 55, 49, 55, 50, 55, 51, 55, 52, 55, 53, 55, 54, 55, 55, 55, 56, 55, 57, 56, 48, 56, 49, 56, 50, 56, 51, 56, 52, 56, 53, 56, 54, 56, 55, 56, 56, 56, 57, 57, 48, 57, 49, 57, 50, 57, 51, 57, 52, 57, 53, 57, 54, 57, 55, 57, 56, 57, 57])))) (.t 51)⟩,
    ⟨(some 53), none, .iaddr 1 none (.t 42) (.t 44)⟩,
    ⟨none, none, .store none (.t 53) (.t 50)⟩,
    ⟨(some 54), none, .iaddr 1 none (.t 45) (.t 47)⟩,
    ⟨none, none, .store none (.t 54) (.t 52)⟩]
    (.fl 0 (.fl 1 (.fl 2 (.fl 3 (.fl 4 (.fl 5 (.fl 6 (.fl 7 (.fl 8 (.fl 9 (.fl 10 (.fr 11 (.st 12 [] (.fr 13 (.st 14 [] .done))))))))))))))))
  (.seq (.draw [⟨(some 55), none, .mov (.t 0)⟩,
    ⟨(some 56), none, .mov (.t 4)⟩,
    ⟨(some 57), none, .bin .sub .no (.t 56) (.c (.raw (.int .i64 3)))⟩,
    ⟨(some 58), none, .mov (.t 0)⟩,
    ⟨(some 59), none, .mov (.t 4)⟩,
    ⟨(some 60), none, .bin .sub .no (.t 59) (.c (.raw (.int .i64 4)))⟩,
    ⟨(some 61), none, .mov (.t 8)⟩,
    ⟨(some 62), none, .bin .add .no (.t 61) (.c (.raw (.int .u32 1)))⟩,
    ⟨(some 63), none, .sindex (.c (.raw (.string (ByteArray.mk #[48, 48, 48, 49, 48, 50, 48, 51, 48, 52, 48, 53, 48, 54, 48, 55, 48, 56, 48, 57, 49, 48, 49, 49, 49, 50, 49, 51, 49, 52, 49, 53, 49, 54, 49, 55, 49, 56, 49, 57, 50, 48, 50, 49, 50, 50, 50, 51, 50, 52, 50, 53, 50, 54, 50, 55, 50, 56, 50, 57, 51, 48, 51, 49, 51, 50, 51, 51, 51, 52, 51, 53, 51, 54, 51, 55, 51, 56, 51, 57, 52, 48, 52, 49, 52, 50, 52, 51, 52, 52, 52, 53, 52, 54, 52, 55, 52, 56, 52, 57, 53, 48, 53, 49, 53, 50, 53, 51, 53, 52, 53, 53, 53, 54, 53, 55, 53, 56, 53, 57, 54, 48, 54, 49, 54, 50, 54, 51, 54, 52, 54, 53, 54, 54, 54, 55, 54, 56, 54, 57, 55, 48, 55, 49, 55, 50, 55, 51, 55, 52, 55, 53, 55, 54, 55, 55, 55, 56, 55, 57, 56, 48, 56, 49, 56, 50, 56, 51, 56, 52, 56, 53, 56, 54, 56, 55, 56, 56, 56, 57, 57, 48, 57, 49, 57, 50, 57, 51, 57, 52, 57, 53, 57, 54, 57, 55, 57, 56, 57, 57])))) (.t 62)⟩,
    ⟨(some 64), none, .mov (.t 8)⟩,
    ⟨(some 65), none, .sindex (.c (.raw (.string (ByteArray.mk #[48, 48, 48, 49, 48, 50, 48, 51, 48, 52, 48, 53, 48, 54, 48, 55, 48, 56, 48, 57, 49, 48, 49, 49, 49, 50, 49, 51, 49, 52, 49, 53, 49, 54, 49, 55, 49, 56, 49, 57, 50, 48, 50, 49, 50, 50, 50, 51, 50, 52, 50, 53, 50, 54, 50, 55, 50, 56, 50, 57, 51, 48, 51, 49, 51, 50, 51, 51, 51, 52, 51, 53, 51, 54, 51, 55, 51, 56, 51, 57, 52, 48, 52, 49, 52, 50, 52, 51, 52, 52, 52, 53, 52, 54, 52, 55, 52, 56, 52, 57, 53, 48, 53, 49, 53, 50, 53, 51, 53, 52, 53, 53, 53, 54, 53, 55, 53, 56, 53, 57, 54, 48, 54, 49, 54, 50, 54, 51, 54, 52, 54, 53, 54, 54, 54, 55, 54, 56, 54, 57, 55, 48, 55, 49, 55, 50, 55, 51, 55, 52, 55, 53, 55, 54, 55, 55, 55, 56, 55, 57, 56, 48, 56, 49, 56, 50, 56, 51, 56, 52, 56, 53, 56, 54, 56, 55, 56, 56, 56, 57, 57, 48, 57, 49, 57, 50, 57, 51, 57, 52, 57, 53, 57, 54, 57, 55, 57, 56, 57, 57])))) (.t 64)⟩,
    ⟨(some 66), none, .iaddr 1 none (.t 55) (.t 57)⟩,
    ⟨none, none, .store none (.t 66) (.t 63)⟩,
    ⟨(some 67), none, .iaddr 1 none (.t 58) (.t 60)⟩,
    ⟨none, none, .store none (.t 67) (.t 65)⟩]
    (.fl 0 (.fl 1 (.fl 2 (.fl 3 (.fl 4 (.fl 5 (.fl 6 (.fl 7 (.fl 8 (.fl 9 (.fl 10 (.fr 11 (.st 12 [] (.fr 13 (.st 14 [] .done))))))))))))))))
  (.seq (.draw [⟨(some 68), none, .mov (.t 0)⟩,
    ⟨(some 69), none, .mov (.t 4)⟩,
    ⟨(some 70), none, .bin .sub .no (.t 69) (.c (.raw (.int .i64 5)))⟩,
    ⟨(some 71), none, .mov (.t 0)⟩,
    ⟨(some 72), none, .mov (.t 4)⟩,
    ⟨(some 73), none, .bin .sub .no (.t 72) (.c (.raw (.int .i64 6)))⟩,
    ⟨(some 74), none, .mov (.t 11)⟩,
    ⟨(some 75), none, .bin .add .no (.t 74) (.c (.raw (.int .u32 1)))⟩,
    ⟨(some 76), none, .sindex (.c (.raw (.string (ByteArray.mk #[48, 48, 48, 49, 48, 50, 48, 51, 48, 52, 48, 53, 48, 54, 48, 55, 48, 56, 48, 57, 49, 48, 49, 49, 49, 50, 49, 51, 49, 52, 49, 53, 49, 54, 49, 55, 49, 56, 49, 57, 50, 48, 50, 49, 50, 50, 50, 51, 50, 52, 50, 53, 50, 54, 50, 55, 50, 56, 50, 57, 51, 48, 51, 49, 51, 50, 51, 51, 51, 52, 51, 53, 51, 54, 51, 55, 51, 56, 51, 57, 52, 48, 52, 49, 52, 50, 52, 51, 52, 52, 52, 53, 52, 54, 52, 55, 52, 56, 52, 57, 53, 48, 53, 49, 53, 50, 53, 51, 53, 52, 53, 53, 53, 54, 53, 55, 53, 56, 53, 57, 54, 48, 54, 49, 54, 50, 54, 51, 54, 52, 54, 53, 54, 54, 54, 55, 54, 56, 54, 57, 55, 48, 55, 49, 55, 50, 55, 51, 55, 52, 55, 53, 55, 54, 55, 55, 55, 56, 55, 57, 56, 48, 56, 49, 56, 50, 56, 51, 56, 52, 56, 53, 56, 54, 56, 55, 56, 56, 56, 57, 57, 48, 57, 49, 57, 50, 57, 51, 57, 52, 57, 53, 57, 54, 57, 55, 57, 56, 57, 57])))) (.t 75)⟩,
    ⟨(some 77), none, .mov (.t 11)⟩,
    ⟨(some 78), none, .sindex (.c (.raw (.string (ByteArray.mk #[48, 48, 48, 49, 48, 50, 48, 51, 48, 52, 48, 53, 48, 54, 48, 55, 48, 56, 48, 57, 49, 48, 49, 49, 49, 50, 49, 51, 49, 52, 49, 53, 49, 54, 49, 55, 49, 56, 49, 57, 50, 48, 50, 49, 50, 50, 50, 51, 50, 52, 50, 53, 50, 54, 50, 55, 50, 56, 50, 57, 51, 48, 51, 49, 51, 50, 51, 51, 51, 52, 51, 53, 51, 54, 51, 55, 51, 56, 51, 57, 52, 48, 52, 49, 52, 50, 52, 51, 52, 52, 52, 53, 52, 54, 52, 55, 52, 56, 52, 57, 53, 48, 53, 49, 53, 50, 53, 51, 53, 52, 53, 53, 53, 54, 53, 55, 53, 56, 53, 57, 54, 48, 54, 49, 54, 50, 54, 51, 54, 52, 54, 53, 54, 54, 54, 55, 54, 56, 54, 57, 55, 48, 55, 49, 55, 50, 55, 51, 55, 52, 55, 53, 55, 54, 55, 55, 55, 56, 55, 57, 56, 48, 56, 49, 56, 50, 56, 51, 56, 52, 56, 53, 56, 54, 56, 55, 56, 56, 56, 57, 57, 48, 57, 49, 57, 50, 57, 51, 57, 52, 57, 53, 57, 54, 57, 55, 57, 56, 57, 57])))) (.t 77)⟩,
    ⟨(some 79), none, .iaddr 1 none (.t 68) (.t 70)⟩,
    ⟨none, none, .store none (.t 79) (.t 76)⟩,
    ⟨(some 80), none, .iaddr 1 none (.t 71) (.t 73)⟩,
    ⟨none, none, .store none (.t 80) (.t 78)⟩]
    (.fl 0 (.fl 1 (.fl 2 (.fl 3 (.fl 4 (.fl 5 (.fl 6 (.fl 7 (.fl 8 (.fl 9 (.fl 10 (.fr 11 (.st 12 [] (.fr 13 (.st 14 [] .done))))))))))))))))
  (.seq (.draw [⟨(some 81), none, .mov (.t 0)⟩,
    ⟨(some 82), none, .mov (.t 4)⟩,
    ⟨(some 83), none, .bin .sub .no (.t 82) (.c (.raw (.int .i64 7)))⟩,
    ⟨(some 84), none, .mov (.t 0)⟩,
    ⟨(some 85), none, .mov (.t 4)⟩,
    ⟨(some 86), none, .bin .sub .no (.t 85) (.c (.raw (.int .i64 8)))⟩,
    ⟨(some 87), none, .mov (.t 10)⟩,
    ⟨(some 88), none, .bin .add .no (.t 87) (.c (.raw (.int .u32 1)))⟩,
    ⟨(some 89), none, .sindex (.c (.raw (.string (ByteArray.mk #[48, 48, 48, 49, 48, 50, 48, 51, 48, 52, 48, 53, 48, 54, 48, 55, 48, 56, 48, 57, 49, 48, 49, 49, 49, 50, 49, 51, 49, 52, 49, 53, 49, 54, 49, 55, 49, 56, 49, 57, 50, 48, 50, 49, 50, 50, 50, 51, 50, 52, 50, 53, 50, 54, 50, 55, 50, 56, 50, 57, 51, 48, 51, 49, 51, 50, 51, 51, 51, 52, 51, 53, 51, 54, 51, 55, 51, 56, 51, 57, 52, 48, 52, 49, 52, 50, 52, 51, 52, 52, 52, 53, 52, 54, 52, 55, 52, 56, 52, 57, 53, 48, 53, 49, 53, 50, 53, 51, 53, 52, 53, 53, 53, 54, 53, 55, 53, 56, 53, 57, 54, 48, 54, 49, 54, 50, 54, 51, 54, 52, 54, 53, 54, 54, 54, 55, 54, 56, 54, 57, 55, 48, 55, 49, 55, 50, 55, 51, 55, 52, 55, 53, 55, 54, 55, 55, 55, 56, 55, 57, 56, 48, 56, 49, 56, 50, 56, 51, 56, 52, 56, 53, 56, 54, 56, 55, 56, 56, 56, 57, 57, 48, 57, 49, 57, 50, 57, 51, 57, 52, 57, 53, 57, 54, 57, 55, 57, 56, 57, 57])))) (.t 88)⟩,
    ⟨(some 90), none, .mov (.t 10)⟩,
    ⟨(some 91), none, .sindex (.c (.raw (.string (ByteArray.mk #[48, 48, 48, 49, 48, 50, 48, 51, 48, 52, 48, 53, 48, 54, 48, 55, 48, 56, 48, 57, 49, 48, 49, 49, 49, 50, 49, 51, 49, 52, 49, 53, 49, 54, 49, 55, 49, 56, 49, 57, 50, 48, 50, 49, 50, 50, 50, 51, 50, 52, 50, 53, 50, 54, 50, 55, 50, 56, 50, 57, 51, 48, 51, 49, 51, 50, 51, 51, 51, 52, 51, 53, 51, 54, 51, 55, 51, 56, 51, 57, 52, 48, 52, 49, 52, 50, 52, 51, 52, 52, 52, 53, 52, 54, 52, 55, 52, 56, 52, 57, 53, 48, 53, 49, 53, 50, 53, 51, 53, 52, 53, 53, 53, 54, 53, 55, 53, 56, 53, 57, 54, 48, 54, 49, 54, 50, 54, 51, 54, 52, 54, 53, 54, 54, 54, 55, 54, 56, 54, 57, 55, 48, 55, 49, 55, 50, 55, 51, 55, 52, 55, 53, 55, 54, 55, 55, 55, 56, 55, 57, 56, 48, 56, 49, 56, 50, 56, 51, 56, 52, 56, 53, 56, 54, 56, 55, 56, 56, 56, 57, 57, 48, 57, 49, 57, 50, 57, 51, 57, 52, 57, 53, 57, 54, 57, 55, 57, 56, 57, 57])))) (.t 90)⟩,
    ⟨(some 92), none, .iaddr 1 none (.t 81) (.t 83)⟩,
    ⟨none, none, .store none (.t 92) (.t 89)⟩,
    ⟨(some 93), none, .iaddr 1 none (.t 84) (.t 86)⟩,
    ⟨none, none, .store none (.t 93) (.t 91)⟩]
    (.fl 0 (.fl 1 (.fl 2 (.fl 3 (.fl 4 (.fl 5 (.fl 6 (.fl 7 (.fl 8 (.fl 9 (.fl 10 (.fr 11 (.st 12 [] (.fr 13 (.st 14 [] .done))))))))))))))))
  (.reg [⟨(some 94), none, .mov (.t 4)⟩,
    ⟨(some 95), none, .bin .sub .no (.t 94) (.c (.raw (.int .i64 8)))⟩,
    ⟨(some 4), none, .mov (.t 95)⟩]))))))))))))))
 (.seq (.reg [⟨(some 96), none, .mov (.t 1)⟩,
   ⟨(some 97), none, .conv (.int .u32) (.t 96)⟩,
   ⟨(some 12), none, .mov (.t 97)⟩])
 (.seq (.seq (.reg [⟨(some 98), none, .mov (.t 4)⟩,
   ⟨(some 99), none, .bin .geq .no (.t 98) (.c (.raw (.int .i64 4)))⟩])
 (.cond (.t 99)
  (.seq (.reg [⟨(some 100), none, .mov (.t 12)⟩,
    ⟨(some 101), none, .bin .rem .no (.t 100) (.c (.raw (.int .u32 10000)))⟩,
    ⟨(some 13), none, .mov (.t 101)⟩])
  (.seq (.reg [⟨(some 102), none, .mov (.t 12)⟩,
    ⟨(some 103), none, .bin .quo .no (.t 102) (.c (.raw (.int .u32 10000)))⟩,
    ⟨(some 12), none, .mov (.t 103)⟩])
  (.seq (.reg [⟨(some 104), none, .mov (.t 13)⟩,
    ⟨(some 105), none, .bin .quo .no (.t 104) (.c (.raw (.int .u32 100)))⟩,
    ⟨(some 106), none, .bin .mul .no (.t 105) (.c (.raw (.int .u32 2)))⟩,
    ⟨(some 107), none, .mov (.t 13)⟩,
    ⟨(some 108), none, .bin .rem .no (.t 107) (.c (.raw (.int .u32 100)))⟩,
    ⟨(some 109), none, .bin .mul .no (.t 108) (.c (.raw (.int .u32 2)))⟩,
    ⟨(some 14), none, .mov (.t 106)⟩,
    ⟨(some 15), none, .mov (.t 109)⟩])
  (.seq (.draw [⟨(some 110), none, .mov (.t 0)⟩,
    ⟨(some 111), none, .mov (.t 4)⟩,
    ⟨(some 112), none, .bin .sub .no (.t 111) (.c (.raw (.int .i64 1)))⟩,
    ⟨(some 113), none, .mov (.t 0)⟩,
    ⟨(some 114), none, .mov (.t 4)⟩,
    ⟨(some 115), none, .bin .sub .no (.t 114) (.c (.raw (.int .i64 2)))⟩,
    ⟨(some 116), none, .mov (.t 15)⟩,
    ⟨(some 117), none, .bin .add .no (.t 116) (.c (.raw (.int .u32 1)))⟩,
    ⟨(some 118), none, .sindex (.c (.raw (.string (ByteArray.mk #[48, 48, 48, 49, 48, 50, 48, 51, 48, 52, 48, 53, 48, 54, 48, 55, 48, 56, 48, 57, 49, 48, 49, 49, 49, 50, 49, 51, 49, 52, 49, 53, 49, 54, 49, 55, 49, 56, 49, 57, 50, 48, 50, 49, 50, 50, 50, 51, 50, 52, 50, 53, 50, 54, 50, 55, 50, 56, 50, 57, 51, 48, 51, 49, 51, 50, 51, 51, 51, 52, 51, 53, 51, 54, 51, 55, 51, 56, 51, 57, 52, 48, 52, 49, 52, 50, 52, 51, 52, 52, 52, 53, 52, 54, 52, 55, 52, 56, 52, 57, 53, 48, 53, 49, 53, 50, 53, 51, 53, 52, 53, 53, 53, 54, 53, 55, 53, 56, 53, 57, 54, 48, 54, 49, 54, 50, 54, 51, 54, 52, 54, 53, 54, 54, 54, 55, 54, 56, 54, 57, 55, 48, 55, 49, 55, 50, 55, 51, 55, 52, 55, 53, 55, 54, 55, 55, 55, 56, 55, 57, 56, 48, 56, 49, 56, 50, 56, 51, 56, 52, 56, 53, 56, 54, 56, 55, 56, 56, 56, 57, 57, 48, 57, 49, 57, 50, 57, 51, 57, 52, 57, 53, 57, 54, 57, 55, 57, 56, 57, 57])))) (.t 117)⟩,
    ⟨(some 119), none, .mov (.t 15)⟩,
    ⟨(some 120), none, .sindex (.c (.raw (.string (ByteArray.mk #[48, 48, 48, 49, 48, 50, 48, 51, 48, 52, 48, 53, 48, 54, 48, 55, 48, 56, 48, 57, 49, 48, 49, 49, 49, 50, 49, 51, 49, 52, 49, 53, 49, 54, 49, 55, 49, 56, 49, 57, 50, 48, 50, 49, 50, 50, 50, 51, 50, 52, 50, 53, 50, 54, 50, 55, 50, 56, 50, 57, 51, 48, 51, 49, 51, 50, 51, 51, 51, 52, 51, 53, 51, 54, 51, 55, 51, 56, 51, 57, 52, 48, 52, 49, 52, 50, 52, 51, 52, 52, 52, 53, 52, 54, 52, 55, 52, 56, 52, 57, 53, 48, 53, 49, 53, 50, 53, 51, 53, 52, 53, 53, 53, 54, 53, 55, 53, 56, 53, 57, 54, 48, 54, 49, 54, 50, 54, 51, 54, 52, 54, 53, 54, 54, 54, 55, 54, 56, 54, 57, 55, 48, 55, 49, 55, 50, 55, 51, 55, 52, 55, 53, 55, 54, 55, 55, 55, 56, 55, 57, 56, 48, 56, 49, 56, 50, 56, 51, 56, 52, 56, 53, 56, 54, 56, 55, 56, 56, 56, 57, 57, 48, 57, 49, 57, 50, 57, 51, 57, 52, 57, 53, 57, 54, 57, 55, 57, 56, 57, 57])))) (.t 119)⟩,
    ⟨(some 121), none, .iaddr 1 none (.t 110) (.t 112)⟩,
    ⟨none, none, .store none (.t 121) (.t 118)⟩,
    ⟨(some 122), none, .iaddr 1 none (.t 113) (.t 115)⟩,
    ⟨none, none, .store none (.t 122) (.t 120)⟩]
    (.fl 0 (.fl 1 (.fl 2 (.fl 3 (.fl 4 (.fl 5 (.fl 6 (.fl 7 (.fl 8 (.fl 9 (.fl 10 (.fr 11 (.st 12 [] (.fr 13 (.st 14 [] .done))))))))))))))))
  (.seq (.draw [⟨(some 123), none, .mov (.t 0)⟩,
    ⟨(some 124), none, .mov (.t 4)⟩,
    ⟨(some 125), none, .bin .sub .no (.t 124) (.c (.raw (.int .i64 3)))⟩,
    ⟨(some 126), none, .mov (.t 0)⟩,
    ⟨(some 127), none, .mov (.t 4)⟩,
    ⟨(some 128), none, .bin .sub .no (.t 127) (.c (.raw (.int .i64 4)))⟩,
    ⟨(some 129), none, .mov (.t 14)⟩,
    ⟨(some 130), none, .bin .add .no (.t 129) (.c (.raw (.int .u32 1)))⟩,
    ⟨(some 131), none, .sindex (.c (.raw (.string (ByteArray.mk #[48, 48, 48, 49, 48, 50, 48, 51, 48, 52, 48, 53, 48, 54, 48, 55, 48, 56, 48, 57, 49, 48, 49, 49, 49, 50, 49, 51, 49, 52, 49, 53, 49, 54, 49, 55, 49, 56, 49, 57, 50, 48, 50, 49, 50, 50, 50, 51, 50, 52, 50, 53, 50, 54, 50, 55, 50, 56, 50, 57, 51, 48, 51, 49, 51, 50, 51, 51, 51, 52, 51, 53, 51, 54, 51, 55, 51, 56, 51, 57, 52, 48, 52, 49, 52, 50, 52, 51, 52, 52, 52, 53, 52, 54, 52, 55, 52, 56, 52, 57, 53, 48, 53, 49, 53, 50, 53, 51, 53, 52, 53, 53, 53, 54, 53, 55, 53, 56, 53, 57, 54, 48, 54, 49, 54, 50, 54, 51, 54, 52, 54, 53, 54, 54, 54, 55, 54, 56, 54, 57, 55, 48, 55, 49, 55, 50, 55, 51, 55, 52, 55, 53, 55, 54, 55, 55, 55, 56, 55, 57, 56, 48, 56, 49, 56, 50, 56, 51, 56, 52, 56, 53, 56, 54, 56, 55, 56, 56, 56, 57, 57, 48, 57, 49, 57, 50, 57, 51, 57, 52, 57, 53, 57, 54, 57, 55, 57, 56, 57, 57])))) (.t 130)⟩,
    ⟨(some 132), none, .mov (.t 14)⟩,
    ⟨(some 133), none, .sindex (.c (.raw (.string (ByteArray.mk #[48, 48, 48, 49, 48, 50, 48, 51, 48, 52, 48, 53, 48, 54, 48, 55, 48, 56, 48, 57, 49, 48, 49, 49, 49, 50, 49, 51, 49, 52, 49, 53, 49, 54, 49, 55, 49, 56, 49, 57, 50, 48, 50, 49, 50, 50, 50, 51, 50, 52, 50, 53, 50, 54, 50, 55, 50, 56, 50, 57, 51, 48, 51, 49, 51, 50, 51, 51, 51, 52, 51, 53, 51, 54, 51, 55, 51, 56, 51, 57, 52, 48, 52, 49, 52, 50, 52, 51, 52, 52, 52, 53, 52, 54, 52, 55, 52, 56, 52, 57, 53, 48, 53, 49, 53, 50, 53, 51, 53, 52, 53, 53, 53, 54, 53, 55, 53, 56, 53, 57, 54, 48, 54, 49, 54, 50, 54, 51, 54, 52, 54, 53, 54, 54, 54, 55, 54, 56, 54, 57, 55, 48, 55, 49, 55, 50, 55, 51, 55, 52, 55, 53, 55, 54, 55, 55, 55, 56, 55, 57, 56, 48, 56, 49, 56, 50, 56, 51, 56, 52, 56, 53, 56, 54, 56, 55, 56, 56, 56, 57, 57, 48, 57, 49, 57, 50, 57, 51, 57, 52, 57, 53, 57, 54, 57, 55, 57, 56, 57, 57])))) (.t 132)⟩,
    ⟨(some 134), none, .iaddr 1 none (.t 123) (.t 125)⟩,
    ⟨none, none, .store none (.t 134) (.t 131)⟩,
    ⟨(some 135), none, .iaddr 1 none (.t 126) (.t 128)⟩,
    ⟨none, none, .store none (.t 135) (.t 133)⟩]
    (.fl 0 (.fl 1 (.fl 2 (.fl 3 (.fl 4 (.fl 5 (.fl 6 (.fl 7 (.fl 8 (.fl 9 (.fl 10 (.fr 11 (.st 12 [] (.fr 13 (.st 14 [] .done))))))))))))))))
  (.reg [⟨(some 136), none, .mov (.t 4)⟩,
    ⟨(some 137), none, .bin .sub .no (.t 136) (.c (.raw (.int .i64 4)))⟩,
    ⟨(some 4), none, .mov (.t 137)⟩]))))))
  .skip))
 (.seq (.seq (.reg [⟨(some 138), none, .mov (.t 4)⟩,
   ⟨(some 139), none, .bin .geq .no (.t 138) (.c (.raw (.int .i64 2)))⟩])
 (.cond (.t 139)
  (.seq (.reg [⟨(some 140), none, .mov (.t 12)⟩,
    ⟨(some 141), none, .bin .rem .no (.t 140) (.c (.raw (.int .u32 100)))⟩,
    ⟨(some 142), none, .bin .mul .no (.t 141) (.c (.raw (.int .u32 2)))⟩,
    ⟨(some 16), none, .mov (.t 142)⟩])
  (.seq (.reg [⟨(some 143), none, .mov (.t 12)⟩,
    ⟨(some 144), none, .bin .quo .no (.t 143) (.c (.raw (.int .u32 100)))⟩,
    ⟨(some 12), none, .mov (.t 144)⟩])
  (.seq (.draw [⟨(some 145), none, .mov (.t 0)⟩,
    ⟨(some 146), none, .mov (.t 4)⟩,
    ⟨(some 147), none, .bin .sub .no (.t 146) (.c (.raw (.int .i64 1)))⟩,
    ⟨(some 148), none, .mov (.t 0)⟩,
    ⟨(some 149), none, .mov (.t 4)⟩,
    ⟨(some 150), none, .bin .sub .no (.t 149) (.c (.raw (.int .i64 2)))⟩,
    ⟨(some 151), none, .mov (.t 16)⟩,
    ⟨(some 152), none, .bin .add .no (.t 151) (.c (.raw (.int .u32 1)))⟩,
    ⟨(some 153), none, .sindex (.c (.raw (.string (ByteArray.mk #[48, 48, 48, 49, 48, 50, 48, 51, 48, 52, 48, 53, 48, 54, 48, 55, 48, 56, 48, 57, 49, 48, 49, 49, 49, 50, 49, 51, 49, 52, 49, 53, 49, 54, 49, 55, 49, 56, 49, 57, 50, 48, 50, 49, 50, 50, 50, 51, 50, 52, 50, 53, 50, 54, 50, 55, 50, 56, 50, 57, 51, 48, 51, 49, 51, 50, 51, 51, 51, 52, 51, 53, 51, 54, 51, 55, 51, 56, 51, 57, 52, 48, 52, 49, 52, 50, 52, 51, 52, 52, 52, 53, 52, 54, 52, 55, 52, 56, 52, 57, 53, 48, 53, 49, 53, 50, 53, 51, 53, 52, 53, 53, 53, 54, 53, 55, 53, 56, 53, 57, 54, 48, 54, 49, 54, 50, 54, 51, 54, 52, 54, 53, 54, 54, 54, 55, 54, 56, 54, 57, 55, 48, 55, 49, 55, 50, 55, 51, 55, 52, 55, 53, 55, 54, 55, 55, 55, 56, 55, 57, 56, 48, 56, 49, 56, 50, 56, 51, 56, 52, 56, 53, 56, 54, 56, 55, 56, 56, 56, 57, 57, 48, 57, 49, 57, 50, 57, 51, 57, 52, 57, 53, 57, 54, 57, 55, 57, 56, 57, 57])))) (.t 152)⟩,
    ⟨(some 154), none, .mov (.t 16)⟩,
    ⟨(some 155), none, .sindex (.c (.raw (.string (ByteArray.mk #[48, 48, 48, 49, 48, 50, 48, 51, 48, 52, 48, 53, 48, 54, 48, 55, 48, 56, 48, 57, 49, 48, 49, 49, 49, 50, 49, 51, 49, 52, 49, 53, 49, 54, 49, 55, 49, 56, 49, 57, 50, 48, 50, 49, 50, 50, 50, 51, 50, 52, 50, 53, 50, 54, 50, 55, 50, 56, 50, 57, 51, 48, 51, 49, 51, 50, 51, 51, 51, 52, 51, 53, 51, 54, 51, 55, 51, 56, 51, 57, 52, 48, 52, 49, 52, 50, 52, 51, 52, 52, 52, 53, 52, 54, 52, 55, 52, 56, 52, 57, 53, 48, 53, 49, 53, 50, 53, 51, 53, 52, 53, 53, 53, 54, 53, 55, 53, 56, 53, 57, 54, 48, 54, 49, 54, 50, 54, 51, 54, 52, 54, 53, 54, 54, 54, 55, 54, 56, 54, 57, 55, 48, 55, 49, 55, 50, 55, 51, 55, 52, 55, 53, 55, 54, 55, 55, 55, 56, 55, 57, 56, 48, 56, 49, 56, 50, 56, 51, 56, 52, 56, 53, 56, 54, 56, 55, 56, 56, 56, 57, 57, 48, 57, 49, 57, 50, 57, 51, 57, 52, 57, 53, 57, 54, 57, 55, 57, 56, 57, 57])))) (.t 154)⟩,
    ⟨(some 156), none, .iaddr 1 none (.t 145) (.t 147)⟩,
    ⟨none, none, .store none (.t 156) (.t 153)⟩,
    ⟨(some 157), none, .iaddr 1 none (.t 148) (.t 150)⟩,
    ⟨none, none, .store none (.t 157) (.t 155)⟩]
    (.fl 0 (.fl 1 (.fl 2 (.fl 3 (.fl 4 (.fl 5 (.fl 6 (.fl 7 (.fl 8 (.fl 9 (.fl 10 (.fr 11 (.st 12 [] (.fr 13 (.st 14 [] .done))))))))))))))))
  (.reg [⟨(some 158), none, .mov (.t 4)⟩,
    ⟨(some 159), none, .bin .sub .no (.t 158) (.c (.raw (.int .i64 2)))⟩,
    ⟨(some 4), none, .mov (.t 159)⟩]))))
  .skip))
 (.seq (.reg [⟨(some 160), none, .mov (.t 4)⟩,
   ⟨(some 161), none, .bin .gtr .no (.t 160) (.c (.raw (.int .i64 0)))⟩])
 (.cond (.t 161)
  (.reg [⟨(some 162), none, .mov (.t 0)⟩,
    ⟨(some 163), none, .mov (.t 12)⟩,
    ⟨(some 164), none, .bin .add .no (.c (.raw (.int .u32 48))) (.t 163)⟩,
    ⟨(some 165), none, .conv (.int .u8) (.t 164)⟩,
    ⟨(some 166), none, .iaddr 1 none (.t 162) (.c (.raw (.int .i64 0)))⟩,
    ⟨none, none, .store none (.t 166) (.t 165)⟩])
  .skip)))))))
theorem i_internal_strconv_formatBase10 : Is Tryd.prog 53 167 [] c_internal_strconv_formatBase10 := ⟨Tryd.f53, _, p_internal_strconv_formatBase10, rfl, rfl, by kernel_rfl, by kernel_rfl, rfl⟩
def p_cmp_isNaN_int : List (Nat × Pl) := []
def c_cmp_isNaN_int : VCode :=
 (.seq (.reg [⟨(some 2), none, .mov (.c (.kb false))⟩])
 (.seq (.reg [⟨(some 3), none, .mov (.t 0)⟩,
   ⟨(some 4), none, .mov (.t 0)⟩,
   ⟨(some 5), none, .bin .neq .no (.t 3) (.t 4)⟩,
   ⟨(some 2), none, .mov (.t 5)⟩])
 .ret))
theorem i_cmp_isNaN_int : Is Tryd.prog 55 6 [.t 2] c_cmp_isNaN_int := ⟨Tryd.f55, _, p_cmp_isNaN_int, rfl, rfl, by kernel_rfl, by kernel_rfl, rfl⟩
def p_slices_SortFunc_sl_api_Dot_api_Dot : List (Nat × Pl) := []
def c_slices_SortFunc_sl_api_Dot_api_Dot : VCode :=
 (.seq (.reg [⟨(some 5), none, .mov (.t 0)⟩,
   ⟨(some 6), none, .len .sl (.t 5)⟩,
   ⟨(some 4), none, .mov (.t 6)⟩])
 (.reg [⟨(some 7), none, .mov (.t 0)⟩,
   ⟨(some 8), none, .mov (.t 4)⟩,
   ⟨(some 9), none, .mov (.t 4)⟩,
   ⟨(some 10), none, .conv (.int .u64) (.t 9)⟩,
   ⟨(some 11), none, .call 50 [(.t 10)]⟩,
   ⟨(some 12), none, .mov (.t 1)⟩,
   ⟨(some 13), none, .call 75 [(.t 7), (.c (.raw (.int .i64 0))), (.t 8), (.t 11), (.t 12)]⟩]))
theorem i_slices_SortFunc_sl_api_Dot_api_Dot : Is Tryd.prog 56 14 [] c_slices_SortFunc_sl_api_Dot_api_Dot := ⟨Tryd.f56, _, p_slices_SortFunc_sl_api_Dot_api_Dot, rfl, rfl, by kernel_rfl, by kernel_rfl, rfl⟩
def p_pack_Bytes : List (Nat × Pl) := []
def c_pack_Bytes : VCode :=
 (.seq (.reg [⟨(some 4), none, .mov (.c (.raw (.slice none 0 0)))⟩])
 (.seq (.reg [⟨(some 5), none, .mov (.t 0)⟩,
   ⟨(some 6), none, .mov (.t 1)⟩,
   ⟨(some 7), none, .len .sl (.t 6)⟩,
   ⟨(some 8), none, .call 30 [(.t 5), (.t 7)]⟩,
   ⟨(some 9), none, .mov (.t 1)⟩,
   ⟨(some 10), none, .append 5 1 1 [(.int .u8 0)] (.t 8) (.t 9)⟩,
   ⟨(some 4), none, .mov (.t 10)⟩])
 .ret))
theorem i_pack_Bytes : Is Tryd.prog 57 11 [.t 4] c_pack_Bytes := ⟨Tryd.f57, _, p_pack_Bytes, rfl, rfl, by kernel_rfl, by kernel_rfl, rfl⟩
def p_slices_insertionSortOrdered_string : List (Nat × Pl) := [(4, (.fl 0 (.fl 1 (.fl 2 (.fl 3 (.fl 4 (.fl 5 (.fr 6 (.fr 7 (.fl 8 (.fl 9 (.fl 10 (.fr 11 (.fr 12 (.st 13 [] (.fl 14 .done)))))))))))))))), (6, (.fl 0 (.fl 1 (.fl 2 (.fl 3 (.fl 4 (.fl 5 (.fl 6 (.fl 7 (.fr 8 (.fr 9 (.fl 10 (.fl 11 (.fr 12 (.fr 13 (.fr 14 (.st 15 [] (.fr 16 (.st 17 [] .done)))))))))))))))))))]
def c_slices_insertionSortOrdered_string : VCode :=
 (.seq (.reg [⟨(some 8), none, .mov (.t 1)⟩,
   ⟨(some 9), none, .bin .add .no (.t 8) (.c (.raw (.int .i64 1)))⟩,
   ⟨(some 6), none, .mov (.t 9)⟩])
 (.block 0 (.loop (.seq (.seq (.reg [⟨(some 10), none, .mov (.t 6)⟩,
    ⟨(some 11), none, .mov (.t 2)⟩,
    ⟨(some 12), none, .bin .lss .no (.t 10) (.t 11)⟩])
  (.cond (.t 12)
   .skip
   (.exit 0)))
  (.seq (.block 1 (.seq (.reg [⟨(some 15), none, .mov (.t 6)⟩,
    ⟨(some 7), none, .mov (.t 15)⟩])
  (.block 2 (.loop (.seq (.seq (.draw [⟨(some 16), none, .mov (.t 7)⟩,
     ⟨(some 17), none, .mov (.t 1)⟩,
     ⟨(some 18), none, .bin .gtr .no (.t 16) (.t 17)⟩,
     ⟨(some 19), none, .mov (.t 18)⟩,
     ⟨(some 20), (some (19, true)), .mov (.t 0)⟩,
     ⟨(some 21), (some (19, true)), .mov (.t 7)⟩,
     ⟨(some 22), (some (19, true)), .iaddr 1 none (.t 20) (.t 21)⟩,
     ⟨(some 23), (some (19, true)), .load none (.t 22)⟩,
     ⟨(some 24), (some (19, true)), .mov (.t 0)⟩,
     ⟨(some 25), (some (19, true)), .mov (.t 7)⟩,
     ⟨(some 26), (some (19, true)), .bin .sub .no (.t 25) (.c (.raw (.int .i64 1)))⟩,
     ⟨(some 27), (some (19, true)), .iaddr 1 none (.t 24) (.t 26)⟩,
     ⟨(some 28), (some (19, true)), .load none (.t 27)⟩,
     ⟨(some 29), (some (19, true)), .call 66 [(.t 23), (.t 28)]⟩,
     ⟨(some 30), none, .pick (.t 19) (.t 29) (.c (.kb false))⟩]
     (.fl 0 (.fl 1 (.fl 2 (.fl 3 (.fl 4 (.fl 5 (.fr 6 (.fr 7 (.fl 8 (.fl 9 (.fl 10 (.fr 11 (.fr 12 (.st 13 [] (.fl 14 .done))))))))))))))))
   (.cond (.t 30)
    .skip
    (.exit 2)))
   (.seq (.block 3 (.draw [⟨(some 33), none, .mov (.t 0)⟩,
     ⟨(some 34), none, .mov (.t 7)⟩,
     ⟨(some 35), none, .mov (.t 0)⟩,
     ⟨(some 36), none, .mov (.t 7)⟩,
     ⟨(some 37), none, .bin .sub .no (.t 36) (.c (.raw (.int .i64 1)))⟩,
     ⟨(some 38), none, .mov (.t 0)⟩,
     ⟨(some 39), none, .mov (.t 7)⟩,
     ⟨(some 40), none, .bin .sub .no (.t 39) (.c (.raw (.int .i64 1)))⟩,
     ⟨(some 41), none, .iaddr 1 none (.t 38) (.t 40)⟩,
     ⟨(some 42), none, .load none (.t 41)⟩,
     ⟨(some 43), none, .mov (.t 0)⟩,
     ⟨(some 44), none, .mov (.t 7)⟩,
     ⟨(some 45), none, .iaddr 1 none (.t 43) (.t 44)⟩,
     ⟨(some 46), none, .load none (.t 45)⟩,
     ⟨(some 47), none, .iaddr 1 none (.t 33) (.t 34)⟩,
     ⟨none, none, .store none (.t 47) (.t 42)⟩,
     ⟨(some 48), none, .iaddr 1 none (.t 35) (.t 37)⟩,
     ⟨none, none, .store none (.t 48) (.t 46)⟩]
     (.fl 0 (.fl 1 (.fl 2 (.fl 3 (.fl 4 (.fl 5 (.fl 6 (.fl 7 (.fr 8 (.fr 9 (.fl 10 (.fl 11 (.fr 12 (.fr 13 (.fr 14 (.st 15 [] (.fr 16 (.st 17 [] .done))))))))))))))))))))
   (.reg [⟨(some 31), none, .mov (.t 7)⟩,
     ⟨(some 32), none, .bin .sub .no (.t 31) (.c (.raw (.int .i64 1)))⟩,
     ⟨(some 7), none, .mov (.t 32)⟩])))))))
  (.reg [⟨(some 13), none, .mov (.t 6)⟩,
    ⟨(some 14), none, .bin .add .no (.t 13) (.c (.raw (.int .i64 1)))⟩,
    ⟨(some 6), none, .mov (.t 14)⟩]))))))
theorem i_slices_insertionSortOrdered_string : Is Tryd.prog 60 49 [] c_slices_insertionSortOrdered_string := ⟨Tryd.f60, _, p_slices_insertionSortOrdered_string, rfl, rfl, by kernel_rfl, by kernel_rfl, rfl⟩
def p_slices_heapSortOrdered_string : List (Nat × Pl) := [(10, (.fl 0 (.fl 1 (.fl 2 (.fl 3 (.fl 4 (.fl 5 (.fl 6 (.fl 7 (.fl 8 (.fl 9 (.fr 10 (.fr 11 (.fl 12 (.fl 13 (.fr 14 (.fr 15 (.fr 16 (.st 17 [] (.fr 18 (.st 19 [] .done)))))))))))))))))))))]
def c_slices_heapSortOrdered_string : VCode :=
 (.seq (.reg [⟨(some 11), none, .mov (.t 1)⟩,
   ⟨(some 6), none, .mov (.t 11)⟩])
 (.seq (.reg [⟨(some 7), none, .mov (.c (.raw (.int .i64 0)))⟩])
 (.seq (.reg [⟨(some 12), none, .mov (.t 2)⟩,
   ⟨(some 13), none, .mov (.t 1)⟩,
   ⟨(some 14), none, .bin .sub .no (.t 12) (.t 13)⟩,
   ⟨(some 8), none, .mov (.t 14)⟩])
 (.seq (.seq (.reg [⟨(some 15), none, .mov (.t 8)⟩,
   ⟨(some 16), none, .bin .sub .no (.t 15) (.c (.raw (.int .i64 1)))⟩,
   ⟨(some 17), none, .bin .quo .no (.t 16) (.c (.raw (.int .i64 2)))⟩,
   ⟨(some 9), none, .mov (.t 17)⟩])
 (.block 0 (.loop (.seq (.seq (.reg [⟨(some 18), none, .mov (.t 9)⟩,
    ⟨(some 19), none, .bin .geq .no (.t 18) (.c (.raw (.int .i64 0)))⟩])
  (.cond (.t 19)
   .skip
   (.exit 0)))
  (.seq (.block 1 (.reg [⟨(some 22), none, .mov (.t 0)⟩,
    ⟨(some 23), none, .mov (.t 9)⟩,
    ⟨(some 24), none, .mov (.t 8)⟩,
    ⟨(some 25), none, .mov (.t 6)⟩,
    ⟨(some 26), none, .call 76 [(.t 22), (.t 23), (.t 24), (.t 25)]⟩]))
  (.reg [⟨(some 20), none, .mov (.t 9)⟩,
    ⟨(some 21), none, .bin .sub .no (.t 20) (.c (.raw (.int .i64 1)))⟩,
    ⟨(some 9), none, .mov (.t 21)⟩]))))))
 (.seq (.reg [⟨(some 27), none, .mov (.t 8)⟩,
   ⟨(some 28), none, .bin .sub .no (.t 27) (.c (.raw (.int .i64 1)))⟩,
   ⟨(some 10), none, .mov (.t 28)⟩])
 (.block 2 (.loop (.seq (.seq (.reg [⟨(some 29), none, .mov (.t 10)⟩,
    ⟨(some 30), none, .bin .geq .no (.t 29) (.c (.raw (.int .i64 0)))⟩])
  (.cond (.t 30)
   .skip
   (.exit 2)))
  (.seq (.block 3 (.seq (.draw [⟨(some 33), none, .mov (.t 0)⟩,
    ⟨(some 34), none, .mov (.t 6)⟩,
    ⟨(some 35), none, .mov (.t 0)⟩,
    ⟨(some 36), none, .mov (.t 6)⟩,
    ⟨(some 37), none, .mov (.t 10)⟩,
    ⟨(some 38), none, .bin .add .no (.t 36) (.t 37)⟩,
    ⟨(some 39), none, .mov (.t 0)⟩,
    ⟨(some 40), none, .mov (.t 6)⟩,
    ⟨(some 41), none, .mov (.t 10)⟩,
    ⟨(some 42), none, .bin .add .no (.t 40) (.t 41)⟩,
    ⟨(some 43), none, .iaddr 1 none (.t 39) (.t 42)⟩,
    ⟨(some 44), none, .load none (.t 43)⟩,
    ⟨(some 45), none, .mov (.t 0)⟩,
    ⟨(some 46), none, .mov (.t 6)⟩,
    ⟨(some 47), none, .iaddr 1 none (.t 45) (.t 46)⟩,
    ⟨(some 48), none, .load none (.t 47)⟩,
    ⟨(some 49), none, .iaddr 1 none (.t 33) (.t 34)⟩,
    ⟨none, none, .store none (.t 49) (.t 44)⟩,
    ⟨(some 50), none, .iaddr 1 none (.t 35) (.t 38)⟩,
    ⟨none, none, .store none (.t 50) (.t 48)⟩]
    (.fl 0 (.fl 1 (.fl 2 (.fl 3 (.fl 4 (.fl 5 (.fl 6 (.fl 7 (.fl 8 (.fl 9 (.fr 10 (.fr 11 (.fl 12 (.fl 13 (.fr 14 (.fr 15 (.fr 16 (.st 17 [] (.fr 18 (.st 19 [] .done)))))))))))))))))))))
  (.reg [⟨(some 51), none, .mov (.t 0)⟩,
    ⟨(some 52), none, .mov (.t 7)⟩,
    ⟨(some 53), none, .mov (.t 10)⟩,
    ⟨(some 54), none, .mov (.t 6)⟩,
    ⟨(some 55), none, .call 76 [(.t 51), (.t 52), (.t 53), (.t 54)]⟩])))
  (.reg [⟨(some 31), none, .mov (.t 10)⟩,
    ⟨(some 32), none, .bin .sub .no (.t 31) (.c (.raw (.int .i64 1)))⟩,
    ⟨(some 10), none, .mov (.t 32)⟩]))))))))))
theorem i_slices_heapSortOrdered_string : Is Tryd.prog 61 56 [] c_slices_heapSortOrdered_string := ⟨Tryd.f61, _, p_slices_heapSortOrdered_string, rfl, rfl, by kernel_rfl, by kernel_rfl, rfl⟩
def p_slices_breakPatternsOrdered_string : List (Nat × Pl) := [(10, (.fl 0 (.fl 1 (.fl 2 (.fl 3 (.fl 4 (.fl 5 (.fl 6 (.fl 7 (.fl 8 (.fl 9 (.fr 10 (.fr 11 (.fl 12 (.fl 13 (.fr 14 (.fr 15 (.fr 16 (.st 17 [] (.fr 18 (.st 19 [] .done)))))))))))))))))))))]
def c_slices_breakPatternsOrdered_string : VCode :=
 (.seq (.reg [⟨(some 11), none, .mov (.t 2)⟩,
   ⟨(some 12), none, .mov (.t 1)⟩,
   ⟨(some 13), none, .bin .sub .no (.t 11) (.t 12)⟩,
   ⟨(some 6), none, .mov (.t 13)⟩])
 (.seq (.reg [⟨(some 14), none, .mov (.t 6)⟩,
   ⟨(some 15), none, .bin .geq .no (.t 14) (.c (.raw (.int .i64 8)))⟩])
 (.cond (.t 15)
  (.seq (.reg [⟨(some 16), none, .mov (.t 6)⟩,
    ⟨(some 17), none, .conv (.int .u64) (.t 16)⟩,
    ⟨(some 7), none, .new 138 [(.int .u64 0)]⟩,
    ⟨none, none, .store none (.t 7) (.t 17)⟩])
  (.seq (.reg [⟨(some 18), none, .mov (.t 6)⟩,
    ⟨(some 19), none, .call 77 [(.t 18)]⟩,
    ⟨(some 8), none, .mov (.t 19)⟩])
  (.seq (.reg [⟨(some 20), none, .mov (.t 1)⟩,
    ⟨(some 21), none, .mov (.t 6)⟩,
    ⟨(some 22), none, .bin .quo .no (.t 21) (.c (.raw (.int .i64 4)))⟩,
    ⟨(some 23), none, .bin .mul .no (.t 22) (.c (.raw (.int .i64 2)))⟩,
    ⟨(some 24), none, .bin .add .no (.t 20) (.t 23)⟩,
    ⟨(some 25), none, .bin .sub .no (.t 24) (.c (.raw (.int .i64 1)))⟩,
    ⟨(some 9), none, .mov (.t 25)⟩])
  (.block 0 (.loop (.seq (.seq (.reg [⟨(some 26), none, .mov (.t 9)⟩,
     ⟨(some 27), none, .mov (.t 1)⟩,
     ⟨(some 28), none, .mov (.t 6)⟩,
     ⟨(some 29), none, .bin .quo .no (.t 28) (.c (.raw (.int .i64 4)))⟩,
     ⟨(some 30), none, .bin .mul .no (.t 29) (.c (.raw (.int .i64 2)))⟩,
     ⟨(some 31), none, .bin .add .no (.t 27) (.t 30)⟩,
     ⟨(some 32), none, .bin .add .no (.t 31) (.c (.raw (.int .i64 1)))⟩,
     ⟨(some 33), none, .bin .leq .no (.t 26) (.t 32)⟩])
   (.cond (.t 33)
    .skip
    (.exit 0)))
   (.seq (.block 1 (.seq (.reg [⟨(some 36), none, .call 78 [(.t 7)]⟩,
     ⟨(some 37), none, .mov (.t 8)⟩,
     ⟨(some 38), none, .bin .sub .no (.t 37) (.c (.raw (.int .u64 1)))⟩,
     ⟨(some 39), none, .bin .and .no (.t 36) (.t 38)⟩,
     ⟨(some 40), none, .conv (.int .i64) (.t 39)⟩,
     ⟨(some 10), none, .mov (.t 40)⟩])
   (.seq (.seq (.reg [⟨(some 41), none, .mov (.t 10)⟩,
     ⟨(some 42), none, .mov (.t 6)⟩,
     ⟨(some 43), none, .bin .geq .no (.t 41) (.t 42)⟩])
   (.cond (.t 43)
    (.reg [⟨(some 44), none, .mov (.t 10)⟩,
      ⟨(some 45), none, .mov (.t 6)⟩,
      ⟨(some 46), none, .bin .sub .no (.t 44) (.t 45)⟩,
      ⟨(some 10), none, .mov (.t 46)⟩])
    .skip))
   (.draw [⟨(some 47), none, .mov (.t 0)⟩,
     ⟨(some 48), none, .mov (.t 9)⟩,
     ⟨(some 49), none, .mov (.t 0)⟩,
     ⟨(some 50), none, .mov (.t 1)⟩,
     ⟨(some 51), none, .mov (.t 10)⟩,
     ⟨(some 52), none, .bin .add .no (.t 50) (.t 51)⟩,
     ⟨(some 53), none, .mov (.t 0)⟩,
     ⟨(some 54), none, .mov (.t 1)⟩,
     ⟨(some 55), none, .mov (.t 10)⟩,
     ⟨(some 56), none, .bin .add .no (.t 54) (.t 55)⟩,
     ⟨(some 57), none, .iaddr 1 none (.t 53) (.t 56)⟩,
     ⟨(some 58), none, .load none (.t 57)⟩,
     ⟨(some 59), none, .mov (.t 0)⟩,
     ⟨(some 60), none, .mov (.t 9)⟩,
     ⟨(some 61), none, .iaddr 1 none (.t 59) (.t 60)⟩,
     ⟨(some 62), none, .load none (.t 61)⟩,
     ⟨(some 63), none, .iaddr 1 none (.t 47) (.t 48)⟩,
     ⟨none, none, .store none (.t 63) (.t 58)⟩,
     ⟨(some 64), none, .iaddr 1 none (.t 49) (.t 52)⟩,
     ⟨none, none, .store none (.t 64) (.t 62)⟩]
     (.fl 0 (.fl 1 (.fl 2 (.fl 3 (.fl 4 (.fl 5 (.fl 6 (.fl 7 (.fl 8 (.fl 9 (.fr 10 (.fr 11 (.fl 12 (.fl 13 (.fr 14 (.fr 15 (.fr 16 (.st 17 [] (.fr 18 (.st 19 [] .done))))))))))))))))))))))))
   (.reg [⟨(some 34), none, .mov (.t 9)⟩,
     ⟨(some 35), none, .bin .add .no (.t 34) (.c (.raw (.int .i64 1)))⟩,
     ⟨(some 9), none, .mov (.t 35)⟩]))))))))
  .skip)))
theorem i_slices_breakPatternsOrdered_string : Is Tryd.prog 62 65 [] c_slices_breakPatternsOrdered_string := ⟨Tryd.f62, _, p_slices_breakPatternsOrdered_string, rfl, rfl, by kernel_rfl, by kernel_rfl, rfl⟩
def p_slices_choosePivotOrdered_string : List (Nat × Pl) := []
def c_slices_choosePivotOrdered_string : VCode :=
 (.seq (.reg [⟨(some 6), none, .mov (.c (.raw (.int .i64 0)))⟩,
   ⟨(some 7), none, .mov (.c (.raw (.int .i64 0)))⟩])
 (.seq (.reg [⟨(some 13), none, .mov (.t 2)⟩,
   ⟨(some 14), none, .mov (.t 1)⟩,
   ⟨(some 15), none, .bin .sub .no (.t 13) (.t 14)⟩,
   ⟨(some 8), none, .mov (.t 15)⟩])
 (.seq (.reg [⟨(some 9), none, .new 3 [(.int .i64 0)]⟩])
 (.seq (.reg [⟨(some 16), none, .mov (.t 1)⟩,
   ⟨(some 17), none, .mov (.t 8)⟩,
   ⟨(some 18), none, .bin .quo .no (.t 17) (.c (.raw (.int .i64 4)))⟩,
   ⟨(some 19), none, .bin .mul .no (.t 18) (.c (.raw (.int .i64 1)))⟩,
   ⟨(some 20), none, .bin .add .no (.t 16) (.t 19)⟩,
   ⟨(some 10), none, .mov (.t 20)⟩])
 (.seq (.reg [⟨(some 21), none, .mov (.t 1)⟩,
   ⟨(some 22), none, .mov (.t 8)⟩,
   ⟨(some 23), none, .bin .quo .no (.t 22) (.c (.raw (.int .i64 4)))⟩,
   ⟨(some 24), none, .bin .mul .no (.t 23) (.c (.raw (.int .i64 2)))⟩,
   ⟨(some 25), none, .bin .add .no (.t 21) (.t 24)⟩,
   ⟨(some 11), none, .mov (.t 25)⟩])
 (.seq (.reg [⟨(some 26), none, .mov (.t 1)⟩,
   ⟨(some 27), none, .mov (.t 8)⟩,
   ⟨(some 28), none, .bin .quo .no (.t 27) (.c (.raw (.int .i64 4)))⟩,
   ⟨(some 29), none, .bin .mul .no (.t 28) (.c (.raw (.int .i64 3)))⟩,
   ⟨(some 30), none, .bin .add .no (.t 26) (.t 29)⟩,
   ⟨(some 12), none, .mov (.t 30)⟩])
 (.seq (.seq (.reg [⟨(some 31), none, .mov (.t 8)⟩,
   ⟨(some 32), none, .bin .geq .no (.t 31) (.c (.raw (.int .i64 8)))⟩])
 (.cond (.t 32)
  (.seq (.seq (.reg [⟨(some 33), none, .mov (.t 8)⟩,
    ⟨(some 34), none, .bin .geq .no (.t 33) (.c (.raw (.int .i64 50)))⟩])
  (.cond (.t 34)
   (.seq (.reg [⟨(some 35), none, .mov (.t 0)⟩,
     ⟨(some 36), none, .mov (.t 10)⟩,
     ⟨(some 37), none, .call 79 [(.t 35), (.t 36), (.t 9)]⟩,
     ⟨(some 10), none, .mov (.t 37)⟩])
   (.seq (.reg [⟨(some 38), none, .mov (.t 0)⟩,
     ⟨(some 39), none, .mov (.t 11)⟩,
     ⟨(some 40), none, .call 79 [(.t 38), (.t 39), (.t 9)]⟩,
     ⟨(some 11), none, .mov (.t 40)⟩])
   (.reg [⟨(some 41), none, .mov (.t 0)⟩,
     ⟨(some 42), none, .mov (.t 12)⟩,
     ⟨(some 43), none, .call 79 [(.t 41), (.t 42), (.t 9)]⟩,
     ⟨(some 12), none, .mov (.t 43)⟩])))
   .skip))
  (.reg [⟨(some 44), none, .mov (.t 0)⟩,
    ⟨(some 45), none, .mov (.t 10)⟩,
    ⟨(some 46), none, .mov (.t 11)⟩,
    ⟨(some 47), none, .mov (.t 12)⟩,
    ⟨(some 48), none, .call 80 [(.t 44), (.t 45), (.t 46), (.t 47), (.t 9)]⟩,
    ⟨(some 11), none, .mov (.t 48)⟩]))
  .skip))
 (.seq (.reg [⟨(some 49), none, .load none (.t 9)⟩])
 (.block 0 (.seq (.reg [⟨(some 52), none, .bin .eql .no (.t 49) (.c (.raw (.int .i64 0)))⟩,
   ⟨(some 51), none, .mov (.t 52)⟩])
 (.cond (.t 51)
  (.seq (.reg [⟨(some 53), none, .mov (.t 11)⟩,
    ⟨(some 6), none, .mov (.t 53)⟩,
    ⟨(some 7), none, .mov (.c (.raw (.int .i64 1)))⟩])
  .ret)
  (.seq (.reg [⟨(some 55), none, .bin .eql .no (.t 49) (.c (.raw (.int .i64 12)))⟩,
    ⟨(some 54), none, .mov (.t 55)⟩])
  (.cond (.t 54)
   (.seq (.reg [⟨(some 56), none, .mov (.t 11)⟩,
     ⟨(some 6), none, .mov (.t 56)⟩,
     ⟨(some 7), none, .mov (.c (.raw (.int .i64 2)))⟩])
   .ret)
   (.seq (.reg [⟨(some 50), none, .mov (.t 11)⟩,
     ⟨(some 6), none, .mov (.t 50)⟩,
     ⟨(some 7), none, .mov (.c (.raw (.int .i64 0)))⟩])
   .ret))))))))))))))
theorem i_slices_choosePivotOrdered_string : Is Tryd.prog 63 57 [.t 6, .t 7] c_slices_choosePivotOrdered_string := ⟨Tryd.f63, _, p_slices_choosePivotOrdered_string, rfl, rfl, by kernel_rfl, by kernel_rfl, rfl⟩
def p_slices_reverseRangeOrdered_string : List (Nat × Pl) := [(3, (.fl 0 (.fl 1 (.fl 2 (.fl 3 (.fl 4 (.fl 5 (.fr 6 (.fr 7 (.fl 8 (.fl 9 (.fr 10 (.fr 11 (.fr 12 (.st 13 [] (.fr 14 (.st 15 [] .done)))))))))))))))))]
def c_slices_reverseRangeOrdered_string : VCode :=
 (.seq (.reg [⟨(some 8), none, .mov (.t 1)⟩,
   ⟨(some 6), none, .mov (.t 8)⟩])
 (.seq (.reg [⟨(some 9), none, .mov (.t 2)⟩,
   ⟨(some 10), none, .bin .sub .no (.t 9) (.c (.raw (.int .i64 1)))⟩,
   ⟨(some 7), none, .mov (.t 10)⟩])
 (.block 0 (.loop (.seq (.seq (.reg [⟨(some 11), none, .mov (.t 6)⟩,
    ⟨(some 12), none, .mov (.t 7)⟩,
    ⟨(some 13), none, .bin .lss .no (.t 11) (.t 12)⟩])
  (.cond (.t 13)
   .skip
   (.exit 0)))
  (.block 1 (.seq (.draw [⟨(some 14), none, .mov (.t 0)⟩,
    ⟨(some 15), none, .mov (.t 6)⟩,
    ⟨(some 16), none, .mov (.t 0)⟩,
    ⟨(some 17), none, .mov (.t 7)⟩,
    ⟨(some 18), none, .mov (.t 0)⟩,
    ⟨(some 19), none, .mov (.t 7)⟩,
    ⟨(some 20), none, .iaddr 1 none (.t 18) (.t 19)⟩,
    ⟨(some 21), none, .load none (.t 20)⟩,
    ⟨(some 22), none, .mov (.t 0)⟩,
    ⟨(some 23), none, .mov (.t 6)⟩,
    ⟨(some 24), none, .iaddr 1 none (.t 22) (.t 23)⟩,
    ⟨(some 25), none, .load none (.t 24)⟩,
    ⟨(some 26), none, .iaddr 1 none (.t 14) (.t 15)⟩,
    ⟨none, none, .store none (.t 26) (.t 21)⟩,
    ⟨(some 27), none, .iaddr 1 none (.t 16) (.t 17)⟩,
    ⟨none, none, .store none (.t 27) (.t 25)⟩]
    (.fl 0 (.fl 1 (.fl 2 (.fl 3 (.fl 4 (.fl 5 (.fr 6 (.fr 7 (.fl 8 (.fl 9 (.fr 10 (.fr 11 (.fr 12 (.st 13 [] (.fr 14 (.st 15 [] .done)))))))))))))))))
  (.seq (.reg [⟨(some 28), none, .mov (.t 6)⟩,
    ⟨(some 29), none, .bin .add .no (.t 28) (.c (.raw (.int .i64 1)))⟩,
    ⟨(some 6), none, .mov (.t 29)⟩])
  (.reg [⟨(some 30), none, .mov (.t 7)⟩,
    ⟨(some 31), none, .bin .sub .no (.t 30) (.c (.raw (.int .i64 1)))⟩,
    ⟨(some 7), none, .mov (.t 31)⟩])))))))))
theorem i_slices_reverseRangeOrdered_string : Is Tryd.prog 64 32 [] c_slices_reverseRangeOrdered_string := ⟨Tryd.f64, _, p_slices_reverseRangeOrdered_string, rfl, rfl, by kernel_rfl, by kernel_rfl, rfl⟩
def p_slices_partialInsertionSortOrdered_string : List (Nat × Pl) := [(5, (.fl 0 (.fl 1 (.fl 2 (.fl 3 (.fl 4 (.fl 5 (.fr 6 (.fr 7 (.fl 8 (.fl 9 (.fl 10 (.fr 11 (.fr 12 (.st 13 [] (.fl 14 (.fl 15 .done))))))))))))))))), (11, (.fl 0 (.fl 1 (.fl 2 (.fl 3 (.fl 4 (.fl 5 (.fl 6 (.fl 7 (.fr 8 (.fr 9 (.fl 10 (.fl 11 (.fr 12 (.fr 13 (.fr 14 (.st 15 [] (.fr 16 (.st 17 [] .done))))))))))))))))))), (16, (.fl 0 (.fl 1 (.fr 2 (.fr 3 (.fl 4 (.fl 5 (.fl 6 (.fr 7 (.fr 8 (.st 9 [] (.fl 10 .done)))))))))))), (17, (.fl 0 (.fl 1 (.fl 2 (.fl 3 (.fl 4 (.fl 5 (.fl 6 (.fl 7 (.fr 8 (.fr 9 (.fl 10 (.fl 11 (.fr 12 (.fr 13 (.fr 14 (.st 15 [] (.fr 16 (.st 17 [] .done))))))))))))))))))), (22, (.fl 0 (.fl 1 (.fr 2 (.fr 3 (.fl 4 (.fl 5 (.fl 6 (.fr 7 (.fr 8 (.st 9 [] (.fl 10 .done)))))))))))), (23, (.fl 0 (.fl 1 (.fl 2 (.fl 3 (.fl 4 (.fl 5 (.fl 6 (.fl 7 (.fr 8 (.fr 9 (.fl 10 (.fl 11 (.fr 12 (.fr 13 (.fr 14 (.st 15 [] (.fr 16 (.st 17 [] .done)))))))))))))))))))]
def c_slices_partialInsertionSortOrdered_string : VCode :=
 (.seq (.reg [⟨(some 6), none, .mov (.c (.kb false))⟩])
 (.seq (.reg [⟨(some 11), none, .mov (.t 1)⟩,
   ⟨(some 12), none, .bin .add .no (.t 11) (.c (.raw (.int .i64 1)))⟩,
   ⟨(some 7), none, .mov (.t 12)⟩])
 (.seq (.seq (.reg [⟨(some 8), none, .mov (.c (.raw (.int .i64 0)))⟩])
 (.block 0 (.loop (.seq (.seq (.reg [⟨(some 13), none, .mov (.t 8)⟩,
    ⟨(some 14), none, .bin .lss .no (.t 13) (.c (.raw (.int .i64 5)))⟩])
  (.cond (.t 14)
   .skip
   (.exit 0)))
  (.seq (.block 1 (.seq (.block 2 (.loop (.seq (.seq (.draw [⟨(some 17), none, .mov (.t 7)⟩,
     ⟨(some 18), none, .mov (.t 2)⟩,
     ⟨(some 19), none, .bin .lss .no (.t 17) (.t 18)⟩,
     ⟨(some 20), none, .mov (.t 19)⟩,
     ⟨(some 21), (some (20, true)), .mov (.t 0)⟩,
     ⟨(some 22), (some (20, true)), .mov (.t 7)⟩,
     ⟨(some 23), (some (20, true)), .iaddr 1 none (.t 21) (.t 22)⟩,
     ⟨(some 24), (some (20, true)), .load none (.t 23)⟩,
     ⟨(some 25), (some (20, true)), .mov (.t 0)⟩,
     ⟨(some 26), (some (20, true)), .mov (.t 7)⟩,
     ⟨(some 27), (some (20, true)), .bin .sub .no (.t 26) (.c (.raw (.int .i64 1)))⟩,
     ⟨(some 28), (some (20, true)), .iaddr 1 none (.t 25) (.t 27)⟩,
     ⟨(some 29), (some (20, true)), .load none (.t 28)⟩,
     ⟨(some 30), (some (20, true)), .call 66 [(.t 24), (.t 29)]⟩,
     ⟨(some 31), (some (20, true)), .un .not (.t 30)⟩,
     ⟨(some 32), none, .pick (.t 20) (.t 31) (.c (.kb false))⟩]
     (.fl 0 (.fl 1 (.fl 2 (.fl 3 (.fl 4 (.fl 5 (.fr 6 (.fr 7 (.fl 8 (.fl 9 (.fl 10 (.fr 11 (.fr 12 (.st 13 [] (.fl 14 (.fl 15 .done)))))))))))))))))
   (.cond (.t 32)
    .skip
    (.exit 2)))
   (.block 3 (.reg [⟨(some 33), none, .mov (.t 7)⟩,
     ⟨(some 34), none, .bin .add .no (.t 33) (.c (.raw (.int .i64 1)))⟩,
     ⟨(some 7), none, .mov (.t 34)⟩])))))
  (.seq (.seq (.reg [⟨(some 35), none, .mov (.t 7)⟩,
    ⟨(some 36), none, .mov (.t 2)⟩,
    ⟨(some 37), none, .bin .eql .no (.t 35) (.t 36)⟩])
  (.cond (.t 37)
   (.seq (.reg [⟨(some 6), none, .mov (.c (.kb true))⟩])
   .ret)
   .skip))
  (.seq (.seq (.reg [⟨(some 38), none, .mov (.t 2)⟩,
    ⟨(some 39), none, .mov (.t 1)⟩,
    ⟨(some 40), none, .bin .sub .no (.t 38) (.t 39)⟩,
    ⟨(some 41), none, .bin .lss .no (.t 40) (.c (.raw (.int .i64 50)))⟩])
  (.cond (.t 41)
   (.seq (.reg [⟨(some 6), none, .mov (.c (.kb false))⟩])
   .ret)
   .skip))
  (.seq (.draw [⟨(some 42), none, .mov (.t 0)⟩,
    ⟨(some 43), none, .mov (.t 7)⟩,
    ⟨(some 44), none, .mov (.t 0)⟩,
    ⟨(some 45), none, .mov (.t 7)⟩,
    ⟨(some 46), none, .bin .sub .no (.t 45) (.c (.raw (.int .i64 1)))⟩,
    ⟨(some 47), none, .mov (.t 0)⟩,
    ⟨(some 48), none, .mov (.t 7)⟩,
    ⟨(some 49), none, .bin .sub .no (.t 48) (.c (.raw (.int .i64 1)))⟩,
    ⟨(some 50), none, .iaddr 1 none (.t 47) (.t 49)⟩,
    ⟨(some 51), none, .load none (.t 50)⟩,
    ⟨(some 52), none, .mov (.t 0)⟩,
    ⟨(some 53), none, .mov (.t 7)⟩,
    ⟨(some 54), none, .iaddr 1 none (.t 52) (.t 53)⟩,
    ⟨(some 55), none, .load none (.t 54)⟩,
    ⟨(some 56), none, .iaddr 1 none (.t 42) (.t 43)⟩,
    ⟨none, none, .store none (.t 56) (.t 51)⟩,
    ⟨(some 57), none, .iaddr 1 none (.t 44) (.t 46)⟩,
    ⟨none, none, .store none (.t 57) (.t 55)⟩]
    (.fl 0 (.fl 1 (.fl 2 (.fl 3 (.fl 4 (.fl 5 (.fl 6 (.fl 7 (.fr 8 (.fr 9 (.fl 10 (.fl 11 (.fr 12 (.fr 13 (.fr 14 (.st 15 [] (.fr 16 (.st 17 [] .done)))))))))))))))))))
  (.seq (.seq (.reg [⟨(some 58), none, .mov (.t 7)⟩,
    ⟨(some 59), none, .mov (.t 1)⟩,
    ⟨(some 60), none, .bin .sub .no (.t 58) (.t 59)⟩,
    ⟨(some 61), none, .bin .geq .no (.t 60) (.c (.raw (.int .i64 2)))⟩])
  (.cond (.t 61)
   (.seq (.reg [⟨(some 62), none, .mov (.t 7)⟩,
     ⟨(some 63), none, .bin .sub .no (.t 62) (.c (.raw (.int .i64 1)))⟩,
     ⟨(some 9), none, .mov (.t 63)⟩])
   (.block 4 (.loop (.seq (.seq (.reg [⟨(some 64), none, .mov (.t 9)⟩,
      ⟨(some 65), none, .bin .geq .no (.t 64) (.c (.raw (.int .i64 1)))⟩])
    (.cond (.t 65)
     .skip
     (.exit 4)))
    (.seq (.block 5 (.seq (.seq (.draw [⟨(some 68), none, .mov (.t 0)⟩,
      ⟨(some 69), none, .mov (.t 9)⟩,
      ⟨(some 70), none, .iaddr 1 none (.t 68) (.t 69)⟩,
      ⟨(some 71), none, .load none (.t 70)⟩,
      ⟨(some 72), none, .mov (.t 0)⟩,
      ⟨(some 73), none, .mov (.t 9)⟩,
      ⟨(some 74), none, .bin .sub .no (.t 73) (.c (.raw (.int .i64 1)))⟩,
      ⟨(some 75), none, .iaddr 1 none (.t 72) (.t 74)⟩,
      ⟨(some 76), none, .load none (.t 75)⟩,
      ⟨(some 77), none, .call 66 [(.t 71), (.t 76)]⟩,
      ⟨(some 78), none, .un .not (.t 77)⟩]
      (.fl 0 (.fl 1 (.fr 2 (.fr 3 (.fl 4 (.fl 5 (.fl 6 (.fr 7 (.fr 8 (.st 9 [] (.fl 10 .done))))))))))))
    (.cond (.t 78)
     (.exit 4)
     .skip))
    (.draw [⟨(some 79), none, .mov (.t 0)⟩,
      ⟨(some 80), none, .mov (.t 9)⟩,
      ⟨(some 81), none, .mov (.t 0)⟩,
      ⟨(some 82), none, .mov (.t 9)⟩,
      ⟨(some 83), none, .bin .sub .no (.t 82) (.c (.raw (.int .i64 1)))⟩,
      ⟨(some 84), none, .mov (.t 0)⟩,
      ⟨(some 85), none, .mov (.t 9)⟩,
      ⟨(some 86), none, .bin .sub .no (.t 85) (.c (.raw (.int .i64 1)))⟩,
      ⟨(some 87), none, .iaddr 1 none (.t 84) (.t 86)⟩,
      ⟨(some 88), none, .load none (.t 87)⟩,
      ⟨(some 89), none, .mov (.t 0)⟩,
      ⟨(some 90), none, .mov (.t 9)⟩,
      ⟨(some 91), none, .iaddr 1 none (.t 89) (.t 90)⟩,
      ⟨(some 92), none, .load none (.t 91)⟩,
      ⟨(some 93), none, .iaddr 1 none (.t 79) (.t 80)⟩,
      ⟨none, none, .store none (.t 93) (.t 88)⟩,
      ⟨(some 94), none, .iaddr 1 none (.t 81) (.t 83)⟩,
      ⟨none, none, .store none (.t 94) (.t 92)⟩]
      (.fl 0 (.fl 1 (.fl 2 (.fl 3 (.fl 4 (.fl 5 (.fl 6 (.fl 7 (.fr 8 (.fr 9 (.fl 10 (.fl 11 (.fr 12 (.fr 13 (.fr 14 (.st 15 [] (.fr 16 (.st 17 [] .done)))))))))))))))))))))
    (.reg [⟨(some 66), none, .mov (.t 9)⟩,
      ⟨(some 67), none, .bin .sub .no (.t 66) (.c (.raw (.int .i64 1)))⟩,
      ⟨(some 9), none, .mov (.t 67)⟩]))))))
   .skip))
  (.seq (.reg [⟨(some 95), none, .mov (.t 2)⟩,
    ⟨(some 96), none, .mov (.t 7)⟩,
    ⟨(some 97), none, .bin .sub .no (.t 95) (.t 96)⟩,
    ⟨(some 98), none, .bin .geq .no (.t 97) (.c (.raw (.int .i64 2)))⟩])
  (.cond (.t 98)
   (.seq (.reg [⟨(some 99), none, .mov (.t 7)⟩,
     ⟨(some 100), none, .bin .add .no (.t 99) (.c (.raw (.int .i64 1)))⟩,
     ⟨(some 10), none, .mov (.t 100)⟩])
   (.block 6 (.loop (.seq (.seq (.reg [⟨(some 101), none, .mov (.t 10)⟩,
      ⟨(some 102), none, .mov (.t 2)⟩,
      ⟨(some 103), none, .bin .lss .no (.t 101) (.t 102)⟩])
    (.cond (.t 103)
     .skip
     (.exit 6)))
    (.seq (.block 7 (.seq (.seq (.draw [⟨(some 106), none, .mov (.t 0)⟩,
      ⟨(some 107), none, .mov (.t 10)⟩,
      ⟨(some 108), none, .iaddr 1 none (.t 106) (.t 107)⟩,
      ⟨(some 109), none, .load none (.t 108)⟩,
      ⟨(some 110), none, .mov (.t 0)⟩,
      ⟨(some 111), none, .mov (.t 10)⟩,
      ⟨(some 112), none, .bin .sub .no (.t 111) (.c (.raw (.int .i64 1)))⟩,
      ⟨(some 113), none, .iaddr 1 none (.t 110) (.t 112)⟩,
      ⟨(some 114), none, .load none (.t 113)⟩,
      ⟨(some 115), none, .call 66 [(.t 109), (.t 114)]⟩,
      ⟨(some 116), none, .un .not (.t 115)⟩]
      (.fl 0 (.fl 1 (.fr 2 (.fr 3 (.fl 4 (.fl 5 (.fl 6 (.fr 7 (.fr 8 (.st 9 [] (.fl 10 .done))))))))))))
    (.cond (.t 116)
     (.exit 6)
     .skip))
    (.draw [⟨(some 117), none, .mov (.t 0)⟩,
      ⟨(some 118), none, .mov (.t 10)⟩,
      ⟨(some 119), none, .mov (.t 0)⟩,
      ⟨(some 120), none, .mov (.t 10)⟩,
      ⟨(some 121), none, .bin .sub .no (.t 120) (.c (.raw (.int .i64 1)))⟩,
      ⟨(some 122), none, .mov (.t 0)⟩,
      ⟨(some 123), none, .mov (.t 10)⟩,
      ⟨(some 124), none, .bin .sub .no (.t 123) (.c (.raw (.int .i64 1)))⟩,
      ⟨(some 125), none, .iaddr 1 none (.t 122) (.t 124)⟩,
      ⟨(some 126), none, .load none (.t 125)⟩,
      ⟨(some 127), none, .mov (.t 0)⟩,
      ⟨(some 128), none, .mov (.t 10)⟩,
      ⟨(some 129), none, .iaddr 1 none (.t 127) (.t 128)⟩,
      ⟨(some 130), none, .load none (.t 129)⟩,
      ⟨(some 131), none, .iaddr 1 none (.t 117) (.t 118)⟩,
      ⟨none, none, .store none (.t 131) (.t 126)⟩,
      ⟨(some 132), none, .iaddr 1 none (.t 119) (.t 121)⟩,
      ⟨none, none, .store none (.t 132) (.t 130)⟩]
      (.fl 0 (.fl 1 (.fl 2 (.fl 3 (.fl 4 (.fl 5 (.fl 6 (.fl 7 (.fr 8 (.fr 9 (.fl 10 (.fl 11 (.fr 12 (.fr 13 (.fr 14 (.st 15 [] (.fr 16 (.st 17 [] .done)))))))))))))))))))))
    (.reg [⟨(some 104), none, .mov (.t 10)⟩,
      ⟨(some 105), none, .bin .add .no (.t 104) (.c (.raw (.int .i64 1)))⟩,
      ⟨(some 10), none, .mov (.t 105)⟩]))))))
   .skip))))))))
  (.reg [⟨(some 15), none, .mov (.t 8)⟩,
    ⟨(some 16), none, .bin .add .no (.t 15) (.c (.raw (.int .i64 1)))⟩,
    ⟨(some 8), none, .mov (.t 16)⟩]))))))
 (.seq (.reg [⟨(some 6), none, .mov (.c (.kb false))⟩])
 .ret))))
theorem i_slices_partialInsertionSortOrdered_string : Is Tryd.prog 65 133 [.t 6] c_slices_partialInsertionSortOrdered_string := ⟨Tryd.f65, _, p_slices_partialInsertionSortOrdered_string, rfl, rfl, by kernel_rfl, by kernel_rfl, rfl⟩
def p_cmp_Less_string : List (Nat × Pl) := []
def c_cmp_Less_string : VCode :=
 (.seq (.reg [⟨(some 4), none, .mov (.c (.kb false))⟩])
 (.seq (.reg [⟨(some 5), none, .mov (.t 0)⟩,
   ⟨(some 6), none, .call 81 [(.t 5)]⟩,
   ⟨(some 7), none, .mov (.t 6)⟩,
   ⟨(some 8), (some (7, true)), .mov (.t 1)⟩,
   ⟨(some 9), (some (7, true)), .call 81 [(.t 8)]⟩,
   ⟨(some 10), (some (7, true)), .un .not (.t 9)⟩,
   ⟨(some 11), none, .pick (.t 7) (.t 10) (.c (.kb false))⟩,
   ⟨(some 12), none, .mov (.t 11)⟩,
   ⟨(some 13), (some (12, false)), .mov (.t 0)⟩,
   ⟨(some 14), (some (12, false)), .mov (.t 1)⟩,
   ⟨(some 15), (some (12, false)), .bin .lss .no (.t 13) (.t 14)⟩,
   ⟨(some 16), none, .pick (.t 12) (.c (.kb true)) (.t 15)⟩,
   ⟨(some 4), none, .mov (.t 16)⟩])
 .ret))
theorem i_cmp_Less_string : Is Tryd.prog 66 17 [.t 4] c_cmp_Less_string := ⟨Tryd.f66, _, p_cmp_Less_string, rfl, rfl, by kernel_rfl, by kernel_rfl, rfl⟩
def p_slices_partitionEqualOrdered_string : List (Nat × Pl) := [(1, (.fl 0 (.fl 1 (.fl 2 (.fl 3 (.fl 4 (.fl 5 (.fr 6 (.fr 7 (.fl 8 (.fl 9 (.fr 10 (.fr 11 (.fr 12 (.st 13 [] (.fr 14 (.st 15 [] .done))))))))))))))))), (3, (.fl 0 (.fl 1 (.fl 2 (.fl 3 (.fl 4 (.fl 5 (.fr 6 (.fr 7 (.fl 8 (.fl 9 (.fr 10 (.fr 11 (.st 12 [] (.fl 13 (.fl 14 .done)))))))))))))))), (5, (.fl 0 (.fl 1 (.fl 2 (.fl 3 (.fl 4 (.fl 5 (.fr 6 (.fr 7 (.fl 8 (.fl 9 (.fr 10 (.fr 11 (.st 12 [] (.fl 13 .done))))))))))))))), (8, (.fl 0 (.fl 1 (.fl 2 (.fl 3 (.fl 4 (.fl 5 (.fr 6 (.fr 7 (.fl 8 (.fl 9 (.fr 10 (.fr 11 (.fr 12 (.st 13 [] (.fr 14 (.st 15 [] .done)))))))))))))))))]
def c_slices_partitionEqualOrdered_string : VCode :=
 (.seq (.reg [⟨(some 8), none, .mov (.c (.raw (.int .i64 0)))⟩])
 (.seq (.draw [⟨(some 11), none, .mov (.t 0)⟩,
   ⟨(some 12), none, .mov (.t 1)⟩,
   ⟨(some 13), none, .mov (.t 0)⟩,
   ⟨(some 14), none, .mov (.t 3)⟩,
   ⟨(some 15), none, .mov (.t 0)⟩,
   ⟨(some 16), none, .mov (.t 3)⟩,
   ⟨(some 17), none, .iaddr 1 none (.t 15) (.t 16)⟩,
   ⟨(some 18), none, .load none (.t 17)⟩,
   ⟨(some 19), none, .mov (.t 0)⟩,
   ⟨(some 20), none, .mov (.t 1)⟩,
   ⟨(some 21), none, .iaddr 1 none (.t 19) (.t 20)⟩,
   ⟨(some 22), none, .load none (.t 21)⟩,
   ⟨(some 23), none, .iaddr 1 none (.t 11) (.t 12)⟩,
   ⟨none, none, .store none (.t 23) (.t 18)⟩,
   ⟨(some 24), none, .iaddr 1 none (.t 13) (.t 14)⟩,
   ⟨none, none, .store none (.t 24) (.t 22)⟩]
   (.fl 0 (.fl 1 (.fl 2 (.fl 3 (.fl 4 (.fl 5 (.fr 6 (.fr 7 (.fl 8 (.fl 9 (.fr 10 (.fr 11 (.fr 12 (.st 13 [] (.fr 14 (.st 15 [] .done)))))))))))))))))
 (.seq (.reg [⟨(some 25), none, .mov (.t 1)⟩,
   ⟨(some 26), none, .bin .add .no (.t 25) (.c (.raw (.int .i64 1)))⟩,
   ⟨(some 27), none, .mov (.t 2)⟩,
   ⟨(some 28), none, .bin .sub .no (.t 27) (.c (.raw (.int .i64 1)))⟩,
   ⟨(some 9), none, .mov (.t 26)⟩,
   ⟨(some 10), none, .mov (.t 28)⟩])
 (.seq (.block 0 (.loop (.block 1 (.seq (.block 2 (.loop (.seq (.seq (.draw [⟨(some 29), none, .mov (.t 9)⟩,
     ⟨(some 30), none, .mov (.t 10)⟩,
     ⟨(some 31), none, .bin .leq .no (.t 29) (.t 30)⟩,
     ⟨(some 32), none, .mov (.t 31)⟩,
     ⟨(some 33), (some (32, true)), .mov (.t 0)⟩,
     ⟨(some 34), (some (32, true)), .mov (.t 1)⟩,
     ⟨(some 35), (some (32, true)), .iaddr 1 none (.t 33) (.t 34)⟩,
     ⟨(some 36), (some (32, true)), .load none (.t 35)⟩,
     ⟨(some 37), (some (32, true)), .mov (.t 0)⟩,
     ⟨(some 38), (some (32, true)), .mov (.t 9)⟩,
     ⟨(some 39), (some (32, true)), .iaddr 1 none (.t 37) (.t 38)⟩,
     ⟨(some 40), (some (32, true)), .load none (.t 39)⟩,
     ⟨(some 41), (some (32, true)), .call 66 [(.t 36), (.t 40)]⟩,
     ⟨(some 42), (some (32, true)), .un .not (.t 41)⟩,
     ⟨(some 43), none, .pick (.t 32) (.t 42) (.c (.kb false))⟩]
     (.fl 0 (.fl 1 (.fl 2 (.fl 3 (.fl 4 (.fl 5 (.fr 6 (.fr 7 (.fl 8 (.fl 9 (.fr 10 (.fr 11 (.st 12 [] (.fl 13 (.fl 14 .done))))))))))))))))
   (.cond (.t 43)
    .skip
    (.exit 2)))
   (.block 3 (.reg [⟨(some 44), none, .mov (.t 9)⟩,
     ⟨(some 45), none, .bin .add .no (.t 44) (.c (.raw (.int .i64 1)))⟩,
     ⟨(some 9), none, .mov (.t 45)⟩])))))
  (.seq (.block 4 (.loop (.seq (.seq (.draw [⟨(some 46), none, .mov (.t 9)⟩,
     ⟨(some 47), none, .mov (.t 10)⟩,
     ⟨(some 48), none, .bin .leq .no (.t 46) (.t 47)⟩,
     ⟨(some 49), none, .mov (.t 48)⟩,
     ⟨(some 50), (some (49, true)), .mov (.t 0)⟩,
     ⟨(some 51), (some (49, true)), .mov (.t 1)⟩,
     ⟨(some 52), (some (49, true)), .iaddr 1 none (.t 50) (.t 51)⟩,
     ⟨(some 53), (some (49, true)), .load none (.t 52)⟩,
     ⟨(some 54), (some (49, true)), .mov (.t 0)⟩,
     ⟨(some 55), (some (49, true)), .mov (.t 10)⟩,
     ⟨(some 56), (some (49, true)), .iaddr 1 none (.t 54) (.t 55)⟩,
     ⟨(some 57), (some (49, true)), .load none (.t 56)⟩,
     ⟨(some 58), (some (49, true)), .call 66 [(.t 53), (.t 57)]⟩,
     ⟨(some 59), none, .pick (.t 49) (.t 58) (.c (.kb false))⟩]
     (.fl 0 (.fl 1 (.fl 2 (.fl 3 (.fl 4 (.fl 5 (.fr 6 (.fr 7 (.fl 8 (.fl 9 (.fr 10 (.fr 11 (.st 12 [] (.fl 13 .done)))))))))))))))
   (.cond (.t 59)
    .skip
    (.exit 4)))
   (.block 5 (.reg [⟨(some 60), none, .mov (.t 10)⟩,
     ⟨(some 61), none, .bin .sub .no (.t 60) (.c (.raw (.int .i64 1)))⟩,
     ⟨(some 10), none, .mov (.t 61)⟩])))))
  (.seq (.seq (.reg [⟨(some 62), none, .mov (.t 9)⟩,
    ⟨(some 63), none, .mov (.t 10)⟩,
    ⟨(some 64), none, .bin .gtr .no (.t 62) (.t 63)⟩])
  (.cond (.t 64)
   (.exit 0)
   .skip))
  (.seq (.draw [⟨(some 65), none, .mov (.t 0)⟩,
    ⟨(some 66), none, .mov (.t 9)⟩,
    ⟨(some 67), none, .mov (.t 0)⟩,
    ⟨(some 68), none, .mov (.t 10)⟩,
    ⟨(some 69), none, .mov (.t 0)⟩,
    ⟨(some 70), none, .mov (.t 10)⟩,
    ⟨(some 71), none, .iaddr 1 none (.t 69) (.t 70)⟩,
    ⟨(some 72), none, .load none (.t 71)⟩,
    ⟨(some 73), none, .mov (.t 0)⟩,
    ⟨(some 74), none, .mov (.t 9)⟩,
    ⟨(some 75), none, .iaddr 1 none (.t 73) (.t 74)⟩,
    ⟨(some 76), none, .load none (.t 75)⟩,
    ⟨(some 77), none, .iaddr 1 none (.t 65) (.t 66)⟩,
    ⟨none, none, .store none (.t 77) (.t 72)⟩,
    ⟨(some 78), none, .iaddr 1 none (.t 67) (.t 68)⟩,
    ⟨none, none, .store none (.t 78) (.t 76)⟩]
    (.fl 0 (.fl 1 (.fl 2 (.fl 3 (.fl 4 (.fl 5 (.fr 6 (.fr 7 (.fl 8 (.fl 9 (.fr 10 (.fr 11 (.fr 12 (.st 13 [] (.fr 14 (.st 15 [] .done)))))))))))))))))
  (.seq (.reg [⟨(some 79), none, .mov (.t 9)⟩,
    ⟨(some 80), none, .bin .add .no (.t 79) (.c (.raw (.int .i64 1)))⟩,
    ⟨(some 9), none, .mov (.t 80)⟩])
  (.reg [⟨(some 81), none, .mov (.t 10)⟩,
    ⟨(some 82), none, .bin .sub .no (.t 81) (.c (.raw (.int .i64 1)))⟩,
    ⟨(some 10), none, .mov (.t 82)⟩])))))))))
 (.seq (.reg [⟨(some 83), none, .mov (.t 9)⟩,
   ⟨(some 8), none, .mov (.t 83)⟩])
 .ret)))))
theorem i_slices_partitionEqualOrdered_string : Is Tryd.prog 67 84 [.t 8] c_slices_partitionEqualOrdered_string := ⟨Tryd.f67, _, p_slices_partitionEqualOrdered_string, rfl, rfl, by kernel_rfl, by kernel_rfl, rfl⟩
def p_slices_partitionOrdered_string : List (Nat × Pl) := [(1, (.fl 0 (.fl 1 (.fl 2 (.fl 3 (.fl 4 (.fl 5 (.fr 6 (.fr 7 (.fl 8 (.fl 9 (.fr 10 (.fr 11 (.fr 12 (.st 13 [] (.fr 14 (.st 15 [] .done))))))))))))))))), (3, (.fl 0 (.fl 1 (.fl 2 (.fl 3 (.fl 4 (.fl 5 (.fr 6 (.fr 7 (.fl 8 (.fl 9 (.fr 10 (.fr 11 (.st 12 [] (.fl 13 .done))))))))))))))), (5, (.fl 0 (.fl 1 (.fl 2 (.fl 3 (.fl 4 (.fl 5 (.fr 6 (.fr 7 (.fl 8 (.fl 9 (.fr 10 (.fr 11 (.st 12 [] (.fl 13 (.fl 14 .done)))))))))))))))), (8, (.fl 0 (.fl 1 (.fl 2 (.fl 3 (.fl 4 (.fl 5 (.fr 6 (.fr 7 (.fl 8 (.fl 9 (.fr 10 (.fr 11 (.fr 12 (.st 13 [] (.fr 14 (.st 15 [] .done))))))))))))))))), (10, (.fl 0 (.fl 1 (.fl 2 (.fl 3 (.fl 4 (.fl 5 (.fr 6 (.fr 7 (.fl 8 (.fl 9 (.fr 10 (.fr 11 (.fr 12 (.st 13 [] (.fr 14 (.st 15 [] .done))))))))))))))))), (13, (.fl 0 (.fl 1 (.fl 2 (.fl 3 (.fl 4 (.fl 5 (.fr 6 (.fr 7 (.fl 8 (.fl 9 (.fr 10 (.fr 11 (.st 12 [] (.fl 13 .done))))))))))))))), (15, (.fl 0 (.fl 1 (.fl 2 (.fl 3 (.fl 4 (.fl 5 (.fr 6 (.fr 7 (.fl 8 (.fl 9 (.fr 10 (.fr 11 (.st 12 [] (.fl 13 (.fl 14 .done)))))))))))))))), (18, (.fl 0 (.fl 1 (.fl 2 (.fl 3 (.fl 4 (.fl 5 (.fr 6 (.fr 7 (.fl 8 (.fl 9 (.fr 10 (.fr 11 (.fr 12 (.st 13 [] (.fr 14 (.st 15 [] .done))))))))))))))))), (21, (.fl 0 (.fl 1 (.fl 2 (.fl 3 (.fl 4 (.fl 5 (.fr 6 (.fr 7 (.fl 8 (.fl 9 (.fr 10 (.fr 11 (.fr 12 (.st 13 [] (.fr 14 (.st 15 [] .done)))))))))))))))))]
def c_slices_partitionOrdered_string : VCode :=
 (.seq (.reg [⟨(some 8), none, .mov (.c (.raw (.int .i64 0)))⟩,
   ⟨(some 9), none, .mov (.c (.kb false))⟩])
 (.seq (.draw [⟨(some 12), none, .mov (.t 0)⟩,
   ⟨(some 13), none, .mov (.t 1)⟩,
   ⟨(some 14), none, .mov (.t 0)⟩,
   ⟨(some 15), none, .mov (.t 3)⟩,
   ⟨(some 16), none, .mov (.t 0)⟩,
   ⟨(some 17), none, .mov (.t 3)⟩,
   ⟨(some 18), none, .iaddr 1 none (.t 16) (.t 17)⟩,
   ⟨(some 19), none, .load none (.t 18)⟩,
   ⟨(some 20), none, .mov (.t 0)⟩,
   ⟨(some 21), none, .mov (.t 1)⟩,
   ⟨(some 22), none, .iaddr 1 none (.t 20) (.t 21)⟩,
   ⟨(some 23), none, .load none (.t 22)⟩,
   ⟨(some 24), none, .iaddr 1 none (.t 12) (.t 13)⟩,
   ⟨none, none, .store none (.t 24) (.t 19)⟩,
   ⟨(some 25), none, .iaddr 1 none (.t 14) (.t 15)⟩,
   ⟨none, none, .store none (.t 25) (.t 23)⟩]
   (.fl 0 (.fl 1 (.fl 2 (.fl 3 (.fl 4 (.fl 5 (.fr 6 (.fr 7 (.fl 8 (.fl 9 (.fr 10 (.fr 11 (.fr 12 (.st 13 [] (.fr 14 (.st 15 [] .done)))))))))))))))))
 (.seq (.reg [⟨(some 26), none, .mov (.t 1)⟩,
   ⟨(some 27), none, .bin .add .no (.t 26) (.c (.raw (.int .i64 1)))⟩,
   ⟨(some 28), none, .mov (.t 2)⟩,
   ⟨(some 29), none, .bin .sub .no (.t 28) (.c (.raw (.int .i64 1)))⟩,
   ⟨(some 10), none, .mov (.t 27)⟩,
   ⟨(some 11), none, .mov (.t 29)⟩])
 (.seq (.block 0 (.loop (.seq (.seq (.draw [⟨(some 30), none, .mov (.t 10)⟩,
    ⟨(some 31), none, .mov (.t 11)⟩,
    ⟨(some 32), none, .bin .leq .no (.t 30) (.t 31)⟩,
    ⟨(some 33), none, .mov (.t 32)⟩,
    ⟨(some 34), (some (33, true)), .mov (.t 0)⟩,
    ⟨(some 35), (some (33, true)), .mov (.t 10)⟩,
    ⟨(some 36), (some (33, true)), .iaddr 1 none (.t 34) (.t 35)⟩,
    ⟨(some 37), (some (33, true)), .load none (.t 36)⟩,
    ⟨(some 38), (some (33, true)), .mov (.t 0)⟩,
    ⟨(some 39), (some (33, true)), .mov (.t 1)⟩,
    ⟨(some 40), (some (33, true)), .iaddr 1 none (.t 38) (.t 39)⟩,
    ⟨(some 41), (some (33, true)), .load none (.t 40)⟩,
    ⟨(some 42), (some (33, true)), .call 66 [(.t 37), (.t 41)]⟩,
    ⟨(some 43), none, .pick (.t 33) (.t 42) (.c (.kb false))⟩]
    (.fl 0 (.fl 1 (.fl 2 (.fl 3 (.fl 4 (.fl 5 (.fr 6 (.fr 7 (.fl 8 (.fl 9 (.fr 10 (.fr 11 (.st 12 [] (.fl 13 .done)))))))))))))))
  (.cond (.t 43)
   .skip
   (.exit 0)))
  (.block 1 (.reg [⟨(some 44), none, .mov (.t 10)⟩,
    ⟨(some 45), none, .bin .add .no (.t 44) (.c (.raw (.int .i64 1)))⟩,
    ⟨(some 10), none, .mov (.t 45)⟩])))))
 (.seq (.block 2 (.loop (.seq (.seq (.draw [⟨(some 46), none, .mov (.t 10)⟩,
    ⟨(some 47), none, .mov (.t 11)⟩,
    ⟨(some 48), none, .bin .leq .no (.t 46) (.t 47)⟩,
    ⟨(some 49), none, .mov (.t 48)⟩,
    ⟨(some 50), (some (49, true)), .mov (.t 0)⟩,
    ⟨(some 51), (some (49, true)), .mov (.t 11)⟩,
    ⟨(some 52), (some (49, true)), .iaddr 1 none (.t 50) (.t 51)⟩,
    ⟨(some 53), (some (49, true)), .load none (.t 52)⟩,
    ⟨(some 54), (some (49, true)), .mov (.t 0)⟩,
    ⟨(some 55), (some (49, true)), .mov (.t 1)⟩,
    ⟨(some 56), (some (49, true)), .iaddr 1 none (.t 54) (.t 55)⟩,
    ⟨(some 57), (some (49, true)), .load none (.t 56)⟩,
    ⟨(some 58), (some (49, true)), .call 66 [(.t 53), (.t 57)]⟩,
    ⟨(some 59), (some (49, true)), .un .not (.t 58)⟩,
    ⟨(some 60), none, .pick (.t 49) (.t 59) (.c (.kb false))⟩]
    (.fl 0 (.fl 1 (.fl 2 (.fl 3 (.fl 4 (.fl 5 (.fr 6 (.fr 7 (.fl 8 (.fl 9 (.fr 10 (.fr 11 (.st 12 [] (.fl 13 (.fl 14 .done))))))))))))))))
  (.cond (.t 60)
   .skip
   (.exit 2)))
  (.block 3 (.reg [⟨(some 61), none, .mov (.t 11)⟩,
    ⟨(some 62), none, .bin .sub .no (.t 61) (.c (.raw (.int .i64 1)))⟩,
    ⟨(some 11), none, .mov (.t 62)⟩])))))
 (.seq (.seq (.reg [⟨(some 63), none, .mov (.t 10)⟩,
   ⟨(some 64), none, .mov (.t 11)⟩,
   ⟨(some 65), none, .bin .gtr .no (.t 63) (.t 64)⟩])
 (.cond (.t 65)
  (.seq (.draw [⟨(some 66), none, .mov (.t 0)⟩,
    ⟨(some 67), none, .mov (.t 11)⟩,
    ⟨(some 68), none, .mov (.t 0)⟩,
    ⟨(some 69), none, .mov (.t 1)⟩,
    ⟨(some 70), none, .mov (.t 0)⟩,
    ⟨(some 71), none, .mov (.t 1)⟩,
    ⟨(some 72), none, .iaddr 1 none (.t 70) (.t 71)⟩,
    ⟨(some 73), none, .load none (.t 72)⟩,
    ⟨(some 74), none, .mov (.t 0)⟩,
    ⟨(some 75), none, .mov (.t 11)⟩,
    ⟨(some 76), none, .iaddr 1 none (.t 74) (.t 75)⟩,
    ⟨(some 77), none, .load none (.t 76)⟩,
    ⟨(some 78), none, .iaddr 1 none (.t 66) (.t 67)⟩,
    ⟨none, none, .store none (.t 78) (.t 73)⟩,
    ⟨(some 79), none, .iaddr 1 none (.t 68) (.t 69)⟩,
    ⟨none, none, .store none (.t 79) (.t 77)⟩]
    (.fl 0 (.fl 1 (.fl 2 (.fl 3 (.fl 4 (.fl 5 (.fr 6 (.fr 7 (.fl 8 (.fl 9 (.fr 10 (.fr 11 (.fr 12 (.st 13 [] (.fr 14 (.st 15 [] .done)))))))))))))))))
  (.seq (.reg [⟨(some 80), none, .mov (.t 11)⟩,
    ⟨(some 8), none, .mov (.t 80)⟩,
    ⟨(some 9), none, .mov (.c (.kb true))⟩])
  .ret))
  .skip))
 (.seq (.draw [⟨(some 81), none, .mov (.t 0)⟩,
   ⟨(some 82), none, .mov (.t 10)⟩,
   ⟨(some 83), none, .mov (.t 0)⟩,
   ⟨(some 84), none, .mov (.t 11)⟩,
   ⟨(some 85), none, .mov (.t 0)⟩,
   ⟨(some 86), none, .mov (.t 11)⟩,
   ⟨(some 87), none, .iaddr 1 none (.t 85) (.t 86)⟩,
   ⟨(some 88), none, .load none (.t 87)⟩,
   ⟨(some 89), none, .mov (.t 0)⟩,
   ⟨(some 90), none, .mov (.t 10)⟩,
   ⟨(some 91), none, .iaddr 1 none (.t 89) (.t 90)⟩,
   ⟨(some 92), none, .load none (.t 91)⟩,
   ⟨(some 93), none, .iaddr 1 none (.t 81) (.t 82)⟩,
   ⟨none, none, .store none (.t 93) (.t 88)⟩,
   ⟨(some 94), none, .iaddr 1 none (.t 83) (.t 84)⟩,
   ⟨none, none, .store none (.t 94) (.t 92)⟩]
   (.fl 0 (.fl 1 (.fl 2 (.fl 3 (.fl 4 (.fl 5 (.fr 6 (.fr 7 (.fl 8 (.fl 9 (.fr 10 (.fr 11 (.fr 12 (.st 13 [] (.fr 14 (.st 15 [] .done)))))))))))))))))
 (.seq (.reg [⟨(some 95), none, .mov (.t 10)⟩,
   ⟨(some 96), none, .bin .add .no (.t 95) (.c (.raw (.int .i64 1)))⟩,
   ⟨(some 10), none, .mov (.t 96)⟩])
 (.seq (.reg [⟨(some 97), none, .mov (.t 11)⟩,
   ⟨(some 98), none, .bin .sub .no (.t 97) (.c (.raw (.int .i64 1)))⟩,
   ⟨(some 11), none, .mov (.t 98)⟩])
 (.seq (.block 4 (.loop (.block 5 (.seq (.block 6 (.loop (.seq (.seq (.draw [⟨(some 99), none, .mov (.t 10)⟩,
     ⟨(some 100), none, .mov (.t 11)⟩,
     ⟨(some 101), none, .bin .leq .no (.t 99) (.t 100)⟩,
     ⟨(some 102), none, .mov (.t 101)⟩,
     ⟨(some 103), (some (102, true)), .mov (.t 0)⟩,
     ⟨(some 104), (some (102, true)), .mov (.t 10)⟩,
     ⟨(some 105), (some (102, true)), .iaddr 1 none (.t 103) (.t 104)⟩,
     ⟨(some 106), (some (102, true)), .load none (.t 105)⟩,
     ⟨(some 107), (some (102, true)), .mov (.t 0)⟩,
     ⟨(some 108), (some (102, true)), .mov (.t 1)⟩,
     ⟨(some 109), (some (102, true)), .iaddr 1 none (.t 107) (.t 108)⟩,
     ⟨(some 110), (some (102, true)), .load none (.t 109)⟩,
     ⟨(some 111), (some (102, true)), .call 66 [(.t 106), (.t 110)]⟩,
     ⟨(some 112), none, .pick (.t 102) (.t 111) (.c (.kb false))⟩]
     (.fl 0 (.fl 1 (.fl 2 (.fl 3 (.fl 4 (.fl 5 (.fr 6 (.fr 7 (.fl 8 (.fl 9 (.fr 10 (.fr 11 (.st 12 [] (.fl 13 .done)))))))))))))))
   (.cond (.t 112)
    .skip
    (.exit 6)))
   (.block 7 (.reg [⟨(some 113), none, .mov (.t 10)⟩,
     ⟨(some 114), none, .bin .add .no (.t 113) (.c (.raw (.int .i64 1)))⟩,
     ⟨(some 10), none, .mov (.t 114)⟩])))))
  (.seq (.block 8 (.loop (.seq (.seq (.draw [⟨(some 115), none, .mov (.t 10)⟩,
     ⟨(some 116), none, .mov (.t 11)⟩,
     ⟨(some 117), none, .bin .leq .no (.t 115) (.t 116)⟩,
     ⟨(some 118), none, .mov (.t 117)⟩,
     ⟨(some 119), (some (118, true)), .mov (.t 0)⟩,
     ⟨(some 120), (some (118, true)), .mov (.t 11)⟩,
     ⟨(some 121), (some (118, true)), .iaddr 1 none (.t 119) (.t 120)⟩,
     ⟨(some 122), (some (118, true)), .load none (.t 121)⟩,
     ⟨(some 123), (some (118, true)), .mov (.t 0)⟩,
     ⟨(some 124), (some (118, true)), .mov (.t 1)⟩,
     ⟨(some 125), (some (118, true)), .iaddr 1 none (.t 123) (.t 124)⟩,
     ⟨(some 126), (some (118, true)), .load none (.t 125)⟩,
     ⟨(some 127), (some (118, true)), .call 66 [(.t 122), (.t 126)]⟩,
     ⟨(some 128), (some (118, true)), .un .not (.t 127)⟩,
     ⟨(some 129), none, .pick (.t 118) (.t 128) (.c (.kb false))⟩]
     (.fl 0 (.fl 1 (.fl 2 (.fl 3 (.fl 4 (.fl 5 (.fr 6 (.fr 7 (.fl 8 (.fl 9 (.fr 10 (.fr 11 (.st 12 [] (.fl 13 (.fl 14 .done))))))))))))))))
   (.cond (.t 129)
    .skip
    (.exit 8)))
   (.block 9 (.reg [⟨(some 130), none, .mov (.t 11)⟩,
     ⟨(some 131), none, .bin .sub .no (.t 130) (.c (.raw (.int .i64 1)))⟩,
     ⟨(some 11), none, .mov (.t 131)⟩])))))
  (.seq (.seq (.reg [⟨(some 132), none, .mov (.t 10)⟩,
    ⟨(some 133), none, .mov (.t 11)⟩,
    ⟨(some 134), none, .bin .gtr .no (.t 132) (.t 133)⟩])
  (.cond (.t 134)
   (.exit 4)
   .skip))
  (.seq (.draw [⟨(some 135), none, .mov (.t 0)⟩,
    ⟨(some 136), none, .mov (.t 10)⟩,
    ⟨(some 137), none, .mov (.t 0)⟩,
    ⟨(some 138), none, .mov (.t 11)⟩,
    ⟨(some 139), none, .mov (.t 0)⟩,
    ⟨(some 140), none, .mov (.t 11)⟩,
    ⟨(some 141), none, .iaddr 1 none (.t 139) (.t 140)⟩,
    ⟨(some 142), none, .load none (.t 141)⟩,
    ⟨(some 143), none, .mov (.t 0)⟩,
    ⟨(some 144), none, .mov (.t 10)⟩,
    ⟨(some 145), none, .iaddr 1 none (.t 143) (.t 144)⟩,
    ⟨(some 146), none, .load none (.t 145)⟩,
    ⟨(some 147), none, .iaddr 1 none (.t 135) (.t 136)⟩,
    ⟨none, none, .store none (.t 147) (.t 142)⟩,
    ⟨(some 148), none, .iaddr 1 none (.t 137) (.t 138)⟩,
    ⟨none, none, .store none (.t 148) (.t 146)⟩]
    (.fl 0 (.fl 1 (.fl 2 (.fl 3 (.fl 4 (.fl 5 (.fr 6 (.fr 7 (.fl 8 (.fl 9 (.fr 10 (.fr 11 (.fr 12 (.st 13 [] (.fr 14 (.st 15 [] .done)))))))))))))))))
  (.seq (.reg [⟨(some 149), none, .mov (.t 10)⟩,
    ⟨(some 150), none, .bin .add .no (.t 149) (.c (.raw (.int .i64 1)))⟩,
    ⟨(some 10), none, .mov (.t 150)⟩])
  (.reg [⟨(some 151), none, .mov (.t 11)⟩,
    ⟨(some 152), none, .bin .sub .no (.t 151) (.c (.raw (.int .i64 1)))⟩,
    ⟨(some 11), none, .mov (.t 152)⟩])))))))))
 (.seq (.draw [⟨(some 153), none, .mov (.t 0)⟩,
   ⟨(some 154), none, .mov (.t 11)⟩,
   ⟨(some 155), none, .mov (.t 0)⟩,
   ⟨(some 156), none, .mov (.t 1)⟩,
   ⟨(some 157), none, .mov (.t 0)⟩,
   ⟨(some 158), none, .mov (.t 1)⟩,
   ⟨(some 159), none, .iaddr 1 none (.t 157) (.t 158)⟩,
   ⟨(some 160), none, .load none (.t 159)⟩,
   ⟨(some 161), none, .mov (.t 0)⟩,
   ⟨(some 162), none, .mov (.t 11)⟩,
   ⟨(some 163), none, .iaddr 1 none (.t 161) (.t 162)⟩,
   ⟨(some 164), none, .load none (.t 163)⟩,
   ⟨(some 165), none, .iaddr 1 none (.t 153) (.t 154)⟩,
   ⟨none, none, .store none (.t 165) (.t 160)⟩,
   ⟨(some 166), none, .iaddr 1 none (.t 155) (.t 156)⟩,
   ⟨none, none, .store none (.t 166) (.t 164)⟩]
   (.fl 0 (.fl 1 (.fl 2 (.fl 3 (.fl 4 (.fl 5 (.fr 6 (.fr 7 (.fl 8 (.fl 9 (.fr 10 (.fr 11 (.fr 12 (.st 13 [] (.fr 14 (.st 15 [] .done)))))))))))))))))
 (.seq (.reg [⟨(some 167), none, .mov (.t 11)⟩,
   ⟨(some 8), none, .mov (.t 167)⟩,
   ⟨(some 9), none, .mov (.c (.kb false))⟩])
 .ret))))))))))))
theorem i_slices_partitionOrdered_string : Is Tryd.prog 68 168 [.t 8, .t 9] c_slices_partitionOrdered_string := ⟨Tryd.f68, _, p_slices_partitionOrdered_string, rfl, rfl, by kernel_rfl, by kernel_rfl, rfl⟩
def p_math_bits_Len32 : List (Nat × Pl) := []
def c_math_bits_Len32 : VCode :=
 (.seq (.reg [⟨(some 2), none, .mov (.c (.raw (.int .i64 0)))⟩])
 (.seq (.seq (.reg [⟨(some 3), none, .mov (.t 0)⟩,
   ⟨(some 4), none, .bin .geq .no (.t 3) (.c (.raw (.int .u32 65536)))⟩])
 (.cond (.t 4)
  (.seq (.reg [⟨(some 5), none, .mov (.t 0)⟩,
    ⟨(some 6), none, .bin .shr .no (.t 5) (.c (.raw (.int .u64 16)))⟩,
    ⟨(some 0), none, .mov (.t 6)⟩])
  (.reg [⟨(some 2), none, .mov (.c (.raw (.int .i64 16)))⟩]))
  .skip))
 (.seq (.seq (.reg [⟨(some 7), none, .mov (.t 0)⟩,
   ⟨(some 8), none, .bin .geq .no (.t 7) (.c (.raw (.int .u32 256)))⟩])
 (.cond (.t 8)
  (.seq (.reg [⟨(some 9), none, .mov (.t 0)⟩,
    ⟨(some 10), none, .bin .shr .no (.t 9) (.c (.raw (.int .u64 8)))⟩,
    ⟨(some 0), none, .mov (.t 10)⟩])
  (.reg [⟨(some 11), none, .mov (.t 2)⟩,
    ⟨(some 12), none, .bin .add .no (.t 11) (.c (.raw (.int .i64 8)))⟩,
    ⟨(some 2), none, .mov (.t 12)⟩]))
  .skip))
 (.seq (.reg [⟨(some 13), none, .mov (.t 2)⟩,
   ⟨(some 14), none, .mov (.t 0)⟩,
   ⟨(some 15), none, .conv (.int .u8) (.t 14)⟩,
   ⟨(some 16), none, .sindex (.c (.raw (.string (ByteArray.mk #[0, 1, 2, 2, 3, 3, 3, 3, 4, 4, 4, 4, 4, 4, 4, 4, 5, 5, 5, 5, 5, 5, 5, 5, 5, 5, 5, 5, 5, 5, 5, 5, 6, 6, 6, 6, 6, 6, 6, 6, 6, 6, 6, 6, 6, 6, 6, 6, 6, 6, 6, 6, 6, 6, 6, 6, 6, 6, 6, 6, 6, 6, 6, 6, 7, 7, 7, 7, 7, 7, 7, 7, 7, 7, 7, 7, 7, 7, 7, 7, 7, 7, 7, 7, 7, 7, 7, 7, 7, 7, 7, 7, 7, 7, 7, 7, 7, 7, 7, 7, 7, 7, 7, 7, 7, 7, 7, 7, 7, 7, 7, 7, 7, 7, 7, 7, 7, 7, 7, 7, 7, 7, 7, 7, 7, 7, 7, 7, 8, 8, 8, 8, 8, 8, 8, 8, 8, 8, 8, 8, 8, 8, 8, 8, 8, 8, 8, 8, 8, 8, 8, 8, 8, 8, 8, 8, 8, 8, 8, 8, 8, 8, 8, 8, 8, 8, 8, 8, 8, 8, 8, 8, 8, 8, 8, 8, 8, 8, 8, 8, 8, 8, 8, 8, 8, 8, 8, 8, 8, 8, 8, 8, 8, 8, 8, 8, 8, 8, 8, 8, 8, 8, 8, 8, 8, 8, 8, 8, 8, 8, 8, 8, 8, 8, 8, 8, 8, 8, 8, 8, 8, 8, 8, 8, 8, 8, 8, 8, 8, 8, 8, 8, 8, 8, 8, 8, 8, 8, 8, 8, 8, 8, 8, 8, 8, 8, 8, 8, 8, 8, 8, 8, 8, 8, 8, 8])))) (.t 15)⟩,
   ⟨(some 17), none, .conv (.int .i64) (.t 16)⟩,
   ⟨(some 18), none, .bin .add .no (.t 13) (.t 17)⟩,
   ⟨(some 2), none, .mov (.t 18)⟩])
 .ret))))
theorem i_math_bits_Len32 : Is Tryd.prog 69 19 [.t 2] c_math_bits_Len32 := ⟨Tryd.f69, _, p_math_bits_Len32, rfl, rfl, by kernel_rfl, by kernel_rfl, rfl⟩
def p_math_bits_Len64 : List (Nat × Pl) := []
def c_math_bits_Len64 : VCode :=
 (.seq (.reg [⟨(some 2), none, .mov (.c (.raw (.int .i64 0)))⟩])
 (.seq (.seq (.reg [⟨(some 3), none, .mov (.t 0)⟩,
   ⟨(some 4), none, .bin .geq .no (.t 3) (.c (.raw (.int .u64 4294967296)))⟩])
 (.cond (.t 4)
  (.seq (.reg [⟨(some 5), none, .mov (.t 0)⟩,
    ⟨(some 6), none, .bin .shr .no (.t 5) (.c (.raw (.int .u64 32)))⟩,
    ⟨(some 0), none, .mov (.t 6)⟩])
  (.reg [⟨(some 2), none, .mov (.c (.raw (.int .i64 32)))⟩]))
  .skip))
 (.seq (.seq (.reg [⟨(some 7), none, .mov (.t 0)⟩,
   ⟨(some 8), none, .bin .geq .no (.t 7) (.c (.raw (.int .u64 65536)))⟩])
 (.cond (.t 8)
  (.seq (.reg [⟨(some 9), none, .mov (.t 0)⟩,
    ⟨(some 10), none, .bin .shr .no (.t 9) (.c (.raw (.int .u64 16)))⟩,
    ⟨(some 0), none, .mov (.t 10)⟩])
  (.reg [⟨(some 11), none, .mov (.t 2)⟩,
    ⟨(some 12), none, .bin .add .no (.t 11) (.c (.raw (.int .i64 16)))⟩,
    ⟨(some 2), none, .mov (.t 12)⟩]))
  .skip))
 (.seq (.seq (.reg [⟨(some 13), none, .mov (.t 0)⟩,
   ⟨(some 14), none, .bin .geq .no (.t 13) (.c (.raw (.int .u64 256)))⟩])
 (.cond (.t 14)
  (.seq (.reg [⟨(some 15), none, .mov (.t 0)⟩,
    ⟨(some 16), none, .bin .shr .no (.t 15) (.c (.raw (.int .u64 8)))⟩,
    ⟨(some 0), none, .mov (.t 16)⟩])
  (.reg [⟨(some 17), none, .mov (.t 2)⟩,
    ⟨(some 18), none, .bin .add .no (.t 17) (.c (.raw (.int .i64 8)))⟩,
    ⟨(some 2), none, .mov (.t 18)⟩]))
  .skip))
 (.seq (.reg [⟨(some 19), none, .mov (.t 2)⟩,
   ⟨(some 20), none, .mov (.t 0)⟩,
   ⟨(some 21), none, .conv (.int .u8) (.t 20)⟩,
   ⟨(some 22), none, .sindex (.c (.raw (.string (ByteArray.mk #[0, 1, 2, 2, 3, 3, 3, 3, 4, 4, 4, 4, 4, 4, 4, 4, 5, 5, 5, 5, 5, 5, 5, 5, 5, 5, 5, 5, 5, 5, 5, 5, 6, 6, 6, 6, 6, 6, 6, 6, 6, 6, 6, 6, 6, 6, 6, 6, 6, 6, 6, 6, 6, 6, 6, 6, 6, 6, 6, 6, 6, 6, 6, 6, 7, 7, 7, 7, 7, 7, 7, 7, 7, 7, 7, 7, 7, 7, 7, 7, 7, 7, 7, 7, 7, 7, 7, 7, 7, 7, 7, 7, 7, 7, 7, 7, 7, 7, 7, 7, 7, 7, 7, 7, 7, 7, 7, 7, 7, 7, 7, 7, 7, 7, 7, 7, 7, 7, 7, 7, 7, 7, 7, 7, 7, 7, 7, 7, 8, 8, 8, 8, 8, 8, 8, 8, 8, 8, 8, 8, 8, 8, 8, 8, 8, 8, 8, 8, 8, 8, 8, 8, 8, 8, 8, 8, 8, 8, 8, 8, 8, 8, 8, 8, 8, 8, 8, 8, 8, 8, 8, 8, 8, 8, 8, 8, 8, 8, 8, 8, 8, 8, 8, 8, 8, 8, 8, 8, 8, 8, 8, 8, 8, 8, 8, 8, 8, 8, 8, 8, 8, 8, 8, 8, 8, 8, 8, 8, 8, 8, 8, 8, 8, 8, 8, 8, 8, 8, 8, 8, 8, 8, 8, 8, 8, 8, 8, 8, 8, 8, 8, 8, 8, 8, 8, 8, 8, 8, 8, 8, 8, 8, 8, 8, 8, 8, 8, 8, 8, 8, 8, 8, 8, 8, 8, 8])))) (.t 21)⟩,
   ⟨(some 23), none, .conv (.int .i64) (.t 22)⟩,
   ⟨(some 24), none, .bin .add .no (.t 19) (.t 23)⟩,
   ⟨(some 2), none, .mov (.t 24)⟩])
 .ret)))))
theorem i_math_bits_Len64 : Is Tryd.prog 70 25 [.t 2] c_math_bits_Len64 := ⟨Tryd.f70, _, p_math_bits_Len64, rfl, rfl, by kernel_rfl, by kernel_rfl, rfl⟩
def p_internal_strconv_log10Pow2 : List (Nat × Pl) := []
def c_internal_strconv_log10Pow2 : VCode :=
 (.seq (.reg [⟨(some 2), none, .mov (.c (.raw (.int .i64 0)))⟩])
 (.seq (.reg [⟨(some 3), none, .mov (.t 0)⟩,
   ⟨(some 4), none, .bin .mul .no (.t 3) (.c (.raw (.int .i64 78913)))⟩,
   ⟨(some 5), none, .bin .shr .no (.t 4) (.c (.raw (.int .u64 18)))⟩,
   ⟨(some 2), none, .mov (.t 5)⟩])
 .ret))
theorem i_internal_strconv_log10Pow2 : Is Tryd.prog 71 6 [.t 2] c_internal_strconv_log10Pow2 := ⟨Tryd.f71, _, p_internal_strconv_log10Pow2, rfl, rfl, by kernel_rfl, by kernel_rfl, rfl⟩
def p_internal_strconv_bool2_int : List (Nat × Pl) := []
def c_internal_strconv_bool2_int : VCode :=
 (.seq (.reg [⟨(some 2), none, .mov (.c (.raw (.int .i64 0)))⟩])
 (.seq (.seq (.reg [⟨(some 3), none, .mov (.t 0)⟩])
 (.cond (.t 3)
  (.seq (.reg [⟨(some 2), none, .mov (.c (.raw (.int .i64 1)))⟩])
  .ret)
  .skip))
 (.seq (.reg [⟨(some 2), none, .mov (.c (.raw (.int .i64 0)))⟩])
 .ret)))
theorem i_internal_strconv_bool2_int : Is Tryd.prog 72 4 [.t 2] c_internal_strconv_bool2_int := ⟨Tryd.f72, _, p_internal_strconv_bool2_int, rfl, rfl, by kernel_rfl, by kernel_rfl, rfl⟩
def p_internal_strconv_isPowerOfTwo : List (Nat × Pl) := []
def c_internal_strconv_isPowerOfTwo : VCode :=
 (.seq (.reg [⟨(some 2), none, .mov (.c (.kb false))⟩])
 (.seq (.reg [⟨(some 3), none, .mov (.t 0)⟩,
   ⟨(some 4), none, .mov (.t 0)⟩,
   ⟨(some 5), none, .bin .sub .no (.t 4) (.c (.raw (.int .i64 1)))⟩,
   ⟨(some 6), none, .bin .and .no (.t 3) (.t 5)⟩,
   ⟨(some 7), none, .bin .eql .no (.t 6) (.c (.raw (.int .i64 0)))⟩,
   ⟨(some 2), none, .mov (.t 7)⟩])
 .ret))
theorem i_internal_strconv_isPowerOfTwo : Is Tryd.prog 73 8 [.t 2] c_internal_strconv_isPowerOfTwo := ⟨Tryd.f73, _, p_internal_strconv_isPowerOfTwo, rfl, rfl, by kernel_rfl, by kernel_rfl, rfl⟩
def p_math_bits_TrailingZeros : List (Nat × Pl) := []
def c_math_bits_TrailingZeros : VCode :=
 (.seq (.reg [⟨(some 2), none, .mov (.c (.raw (.int .i64 0)))⟩])
 (.seq (.cond (.c (.kb false))
  (.seq (.reg [⟨(some 3), none, .mov (.t 0)⟩,
    ⟨(some 4), none, .conv (.int .u32) (.t 3)⟩,
    ⟨(some 5), none, .call 82 [(.t 4)]⟩,
    ⟨(some 2), none, .mov (.t 5)⟩])
  .ret)
  .skip)
 (.seq (.reg [⟨(some 6), none, .mov (.t 0)⟩,
   ⟨(some 7), none, .call 83 [(.t 6)]⟩,
   ⟨(some 2), none, .mov (.t 7)⟩])
 .ret)))
theorem i_math_bits_TrailingZeros : Is Tryd.prog 74 8 [.t 2] c_math_bits_TrailingZeros := ⟨Tryd.f74, _, p_math_bits_TrailingZeros, rfl, rfl, by kernel_rfl, by kernel_rfl, rfl⟩
def p_slices_pdqsortCmpFunc_api_Dot : List (Nat × Pl) := [(17, (.fl 0 (.fl 1 (.fl 2 (.fl 3 (.fl 4 (.fl 5 (.fl 6 (.fr 7 (.fr 8 (.fl 9 (.fl 10 (.fr 11 (.fr 12 (.st 13 [] (.fl 14 (.fl 15 (.fl 16 .done))))))))))))))))))]
def c_slices_pdqsortCmpFunc_api_Dot : VCode :=
 (.seq (.reg [⟨(some 10), none, .mov (.c (.kb true))⟩])
 (.seq (.reg [⟨(some 11), none, .mov (.c (.kb true))⟩])
 (.block 0 (.loop (.block 1 (.seq (.reg [⟨(some 21), none, .mov (.t 2)⟩,
    ⟨(some 22), none, .mov (.t 1)⟩,
    ⟨(some 23), none, .bin .sub .no (.t 21) (.t 22)⟩,
    ⟨(some 12), none, .mov (.t 23)⟩])
  (.seq (.seq (.reg [⟨(some 24), none, .mov (.t 12)⟩,
    ⟨(some 25), none, .bin .leq .no (.t 24) (.c (.raw (.int .i64 12)))⟩])
  (.cond (.t 25)
   (.seq (.reg [⟨(some 26), none, .mov (.t 0)⟩,
     ⟨(some 27), none, .mov (.t 1)⟩,
     ⟨(some 28), none, .mov (.t 2)⟩,
     ⟨(some 29), none, .mov (.t 4)⟩,
     ⟨(some 30), none, .call 84 [(.t 26), (.t 27), (.t 28), (.t 29)]⟩])
   .ret)
   .skip))
  (.seq (.seq (.reg [⟨(some 31), none, .mov (.t 3)⟩,
    ⟨(some 32), none, .bin .eql .no (.t 31) (.c (.raw (.int .i64 0)))⟩])
  (.cond (.t 32)
   (.seq (.reg [⟨(some 33), none, .mov (.t 0)⟩,
     ⟨(some 34), none, .mov (.t 1)⟩,
     ⟨(some 35), none, .mov (.t 2)⟩,
     ⟨(some 36), none, .mov (.t 4)⟩,
     ⟨(some 37), none, .call 85 [(.t 33), (.t 34), (.t 35), (.t 36)]⟩])
   .ret)
   .skip))
  (.seq (.seq (.reg [⟨(some 38), none, .mov (.t 10)⟩,
    ⟨(some 39), none, .un .not (.t 38)⟩])
  (.cond (.t 39)
   (.seq (.reg [⟨(some 40), none, .mov (.t 0)⟩,
     ⟨(some 41), none, .mov (.t 1)⟩,
     ⟨(some 42), none, .mov (.t 2)⟩,
     ⟨(some 43), none, .mov (.t 4)⟩,
     ⟨(some 44), none, .call 86 [(.t 40), (.t 41), (.t 42), (.t 43)]⟩])
   (.reg [⟨(some 45), none, .mov (.t 3)⟩,
     ⟨(some 46), none, .bin .sub .no (.t 45) (.c (.raw (.int .i64 1)))⟩,
     ⟨(some 3), none, .mov (.t 46)⟩]))
   .skip))
  (.seq (.reg [⟨(some 48), none, .mov (.t 0)⟩,
    ⟨(some 49), none, .mov (.t 1)⟩,
    ⟨(some 50), none, .mov (.t 2)⟩,
    ⟨(some 51), none, .mov (.t 4)⟩,
    ⟨(some 52), none, .call 87 [(.t 48), (.t 49), (.t 50), (.t 51)]⟩,
    ⟨(some 47), none, .mov (.t 52)⟩,
    ⟨(some 53), none, .extr (.t 47) 0⟩,
    ⟨(some 54), none, .extr (.t 47) 1⟩,
    ⟨(some 13), none, .mov (.t 53)⟩,
    ⟨(some 14), none, .mov (.t 54)⟩])
  (.seq (.seq (.reg [⟨(some 55), none, .mov (.t 14)⟩,
    ⟨(some 56), none, .bin .eql .no (.t 55) (.c (.raw (.int .i64 2)))⟩])
  (.cond (.t 56)
   (.seq (.reg [⟨(some 57), none, .mov (.t 0)⟩,
     ⟨(some 58), none, .mov (.t 1)⟩,
     ⟨(some 59), none, .mov (.t 2)⟩,
     ⟨(some 60), none, .mov (.t 4)⟩,
     ⟨(some 61), none, .call 88 [(.t 57), (.t 58), (.t 59), (.t 60)]⟩])
   (.seq (.reg [⟨(some 62), none, .mov (.t 2)⟩,
     ⟨(some 63), none, .bin .sub .no (.t 62) (.c (.raw (.int .i64 1)))⟩,
     ⟨(some 64), none, .mov (.t 13)⟩,
     ⟨(some 65), none, .mov (.t 1)⟩,
     ⟨(some 66), none, .bin .sub .no (.t 64) (.t 65)⟩,
     ⟨(some 67), none, .bin .sub .no (.t 63) (.t 66)⟩,
     ⟨(some 13), none, .mov (.t 67)⟩])
   (.reg [⟨(some 14), none, .mov (.c (.raw (.int .i64 1)))⟩])))
   .skip))
  (.seq (.seq (.reg [⟨(some 68), none, .mov (.t 10)⟩,
    ⟨(some 69), none, .mov (.t 68)⟩,
    ⟨(some 70), (some (69, true)), .mov (.t 11)⟩,
    ⟨(some 71), none, .pick (.t 69) (.t 70) (.c (.kb false))⟩,
    ⟨(some 72), none, .mov (.t 71)⟩,
    ⟨(some 73), (some (72, true)), .mov (.t 14)⟩,
    ⟨(some 74), (some (72, true)), .bin .eql .no (.t 73) (.c (.raw (.int .i64 1)))⟩,
    ⟨(some 75), none, .pick (.t 72) (.t 74) (.c (.kb false))⟩])
  (.cond (.t 75)
   (.seq (.reg [⟨(some 76), none, .mov (.t 0)⟩,
     ⟨(some 77), none, .mov (.t 1)⟩,
     ⟨(some 78), none, .mov (.t 2)⟩,
     ⟨(some 79), none, .mov (.t 4)⟩,
     ⟨(some 80), none, .call 89 [(.t 76), (.t 77), (.t 78), (.t 79)]⟩])
   (.cond (.t 80)
    .ret
    .skip))
   .skip))
  (.seq (.seq (.draw [⟨(some 81), none, .mov (.t 1)⟩,
    ⟨(some 82), none, .bin .gtr .no (.t 81) (.c (.raw (.int .i64 0)))⟩,
    ⟨(some 83), none, .mov (.t 82)⟩,
    ⟨(some 84), (some (83, true)), .mov (.t 4)⟩,
    ⟨(some 85), (some (83, true)), .mov (.t 0)⟩,
    ⟨(some 86), (some (83, true)), .mov (.t 1)⟩,
    ⟨(some 87), (some (83, true)), .bin .sub .no (.t 86) (.c (.raw (.int .i64 1)))⟩,
    ⟨(some 88), (some (83, true)), .iaddr 2 none (.t 85) (.t 87)⟩,
    ⟨(some 89), (some (83, true)), .load (some 2) (.t 88)⟩,
    ⟨(some 90), (some (83, true)), .mov (.t 0)⟩,
    ⟨(some 91), (some (83, true)), .mov (.t 13)⟩,
    ⟨(some 92), (some (83, true)), .iaddr 2 none (.t 90) (.t 91)⟩,
    ⟨(some 93), (some (83, true)), .load (some 2) (.t 92)⟩,
    ⟨(some 94), (some (83, true)), .callv (.t 84) [(.t 89), (.t 93)]⟩,
    ⟨(some 95), (some (83, true)), .bin .lss .no (.t 94) (.c (.raw (.int .i64 0)))⟩,
    ⟨(some 96), (some (83, true)), .un .not (.t 95)⟩,
    ⟨(some 97), none, .pick (.t 83) (.t 96) (.c (.kb false))⟩]
    (.fl 0 (.fl 1 (.fl 2 (.fl 3 (.fl 4 (.fl 5 (.fl 6 (.fr 7 (.fr 8 (.fl 9 (.fl 10 (.fr 11 (.fr 12 (.st 13 [] (.fl 14 (.fl 15 (.fl 16 .done))))))))))))))))))
  (.cond (.t 97)
   (.seq (.reg [⟨(some 98), none, .mov (.t 0)⟩,
     ⟨(some 99), none, .mov (.t 1)⟩,
     ⟨(some 100), none, .mov (.t 2)⟩,
     ⟨(some 101), none, .mov (.t 13)⟩,
     ⟨(some 102), none, .mov (.t 4)⟩,
     ⟨(some 103), none, .call 90 [(.t 98), (.t 99), (.t 100), (.t 101), (.t 102)]⟩,
     ⟨(some 15), none, .mov (.t 103)⟩])
   (.seq (.reg [⟨(some 104), none, .mov (.t 15)⟩,
     ⟨(some 1), none, .mov (.t 104)⟩])
   (.exit 1)))
   .skip))
  (.seq (.reg [⟨(some 106), none, .mov (.t 0)⟩,
    ⟨(some 107), none, .mov (.t 1)⟩,
    ⟨(some 108), none, .mov (.t 2)⟩,
    ⟨(some 109), none, .mov (.t 13)⟩,
    ⟨(some 110), none, .mov (.t 4)⟩,
    ⟨(some 111), none, .call 91 [(.t 106), (.t 107), (.t 108), (.t 109), (.t 110)]⟩,
    ⟨(some 105), none, .mov (.t 111)⟩,
    ⟨(some 112), none, .extr (.t 105) 0⟩,
    ⟨(some 113), none, .extr (.t 105) 1⟩,
    ⟨(some 16), none, .mov (.t 112)⟩,
    ⟨(some 17), none, .mov (.t 113)⟩])
  (.seq (.reg [⟨(some 114), none, .mov (.t 17)⟩,
    ⟨(some 11), none, .mov (.t 114)⟩])
  (.seq (.reg [⟨(some 115), none, .mov (.t 16)⟩,
    ⟨(some 116), none, .mov (.t 1)⟩,
    ⟨(some 117), none, .bin .sub .no (.t 115) (.t 116)⟩,
    ⟨(some 118), none, .mov (.t 2)⟩,
    ⟨(some 119), none, .mov (.t 16)⟩,
    ⟨(some 120), none, .bin .sub .no (.t 118) (.t 119)⟩,
    ⟨(some 18), none, .mov (.t 117)⟩,
    ⟨(some 19), none, .mov (.t 120)⟩])
  (.seq (.reg [⟨(some 121), none, .mov (.t 12)⟩,
    ⟨(some 122), none, .bin .quo .no (.t 121) (.c (.raw (.int .i64 8)))⟩,
    ⟨(some 20), none, .mov (.t 122)⟩])
  (.seq (.reg [⟨(some 123), none, .mov (.t 18)⟩,
    ⟨(some 124), none, .mov (.t 19)⟩,
    ⟨(some 125), none, .bin .lss .no (.t 123) (.t 124)⟩])
  (.cond (.t 125)
   (.seq (.reg [⟨(some 126), none, .mov (.t 18)⟩,
     ⟨(some 127), none, .mov (.t 20)⟩,
     ⟨(some 128), none, .bin .geq .no (.t 126) (.t 127)⟩,
     ⟨(some 10), none, .mov (.t 128)⟩])
   (.seq (.reg [⟨(some 129), none, .mov (.t 0)⟩,
     ⟨(some 130), none, .mov (.t 1)⟩,
     ⟨(some 131), none, .mov (.t 16)⟩,
     ⟨(some 132), none, .mov (.t 3)⟩,
     ⟨(some 133), none, .mov (.t 4)⟩,
     ⟨(some 134), none, .call 75 [(.t 129), (.t 130), (.t 131), (.t 132), (.t 133)]⟩])
   (.reg [⟨(some 135), none, .mov (.t 16)⟩,
     ⟨(some 136), none, .bin .add .no (.t 135) (.c (.raw (.int .i64 1)))⟩,
     ⟨(some 1), none, .mov (.t 136)⟩])))
   (.seq (.reg [⟨(some 137), none, .mov (.t 19)⟩,
     ⟨(some 138), none, .mov (.t 20)⟩,
     ⟨(some 139), none, .bin .geq .no (.t 137) (.t 138)⟩,
     ⟨(some 10), none, .mov (.t 139)⟩])
   (.seq (.reg [⟨(some 140), none, .mov (.t 0)⟩,
     ⟨(some 141), none, .mov (.t 16)⟩,
     ⟨(some 142), none, .bin .add .no (.t 141) (.c (.raw (.int .i64 1)))⟩,
     ⟨(some 143), none, .mov (.t 2)⟩,
     ⟨(some 144), none, .mov (.t 3)⟩,
     ⟨(some 145), none, .mov (.t 4)⟩,
     ⟨(some 146), none, .call 75 [(.t 140), (.t 142), (.t 143), (.t 144), (.t 145)]⟩])
   (.reg [⟨(some 147), none, .mov (.t 16)⟩,
     ⟨(some 2), none, .mov (.t 147)⟩]))))))))))))))))))))))
theorem i_slices_pdqsortCmpFunc_api_Dot : Is Tryd.prog 75 148 [] c_slices_pdqsortCmpFunc_api_Dot := ⟨Tryd.f75, _, p_slices_pdqsortCmpFunc_api_Dot, rfl, rfl, by kernel_rfl, by kernel_rfl, rfl⟩
def p_slices_siftDownOrdered_string : List (Nat × Pl) := [(3, (.fl 0 (.fl 1 (.fl 2 (.fl 3 (.fl 4 (.fl 5 (.fl 6 (.fl 7 (.fl 8 (.fr 9 (.fr 10 (.fl 11 (.fl 12 (.fl 13 (.fl 14 (.fl 15 (.fr 16 (.fr 17 (.st 18 [] (.fl 19 .done))))))))))))))))))))), (5, (.fl 0 (.fl 1 (.fl 2 (.fl 3 (.fr 4 (.fr 5 (.fl 6 (.fl 7 (.fl 8 (.fl 9 (.fr 10 (.fr 11 (.st 12 [] (.fl 13 .done))))))))))))))), (6, (.fl 0 (.fl 1 (.fl 2 (.fl 3 (.fl 4 (.fl 5 (.fl 6 (.fl 7 (.fl 8 (.fl 9 (.fl 10 (.fl 11 (.fr 12 (.fr 13 (.fl 14 (.fl 15 (.fl 16 (.fl 17 (.fr 18 (.fr 19 (.fr 20 (.st 21 [] (.fr 22 (.st 23 [] .done)))))))))))))))))))))))))]
def c_slices_siftDownOrdered_string : VCode :=
 (.seq (.reg [⟨(some 10), none, .mov (.t 1)⟩,
   ⟨(some 8), none, .mov (.t 10)⟩])
 (.block 0 (.loop (.block 1 (.seq (.reg [⟨(some 11), none, .mov (.t 8)⟩,
    ⟨(some 12), none, .bin .mul .no (.c (.raw (.int .i64 2))) (.t 11)⟩,
    ⟨(some 13), none, .bin .add .no (.t 12) (.c (.raw (.int .i64 1)))⟩,
    ⟨(some 9), none, .mov (.t 13)⟩])
  (.seq (.seq (.reg [⟨(some 14), none, .mov (.t 9)⟩,
    ⟨(some 15), none, .mov (.t 2)⟩,
    ⟨(some 16), none, .bin .geq .no (.t 14) (.t 15)⟩])
  (.cond (.t 16)
   (.exit 0)
   .skip))
  (.seq (.seq (.draw [⟨(some 17), none, .mov (.t 9)⟩,
    ⟨(some 18), none, .bin .add .no (.t 17) (.c (.raw (.int .i64 1)))⟩,
    ⟨(some 19), none, .mov (.t 2)⟩,
    ⟨(some 20), none, .bin .lss .no (.t 18) (.t 19)⟩,
    ⟨(some 21), none, .mov (.t 20)⟩,
    ⟨(some 22), (some (21, true)), .mov (.t 0)⟩,
    ⟨(some 23), (some (21, true)), .mov (.t 3)⟩,
    ⟨(some 24), (some (21, true)), .mov (.t 9)⟩,
    ⟨(some 25), (some (21, true)), .bin .add .no (.t 23) (.t 24)⟩,
    ⟨(some 26), (some (21, true)), .iaddr 1 none (.t 22) (.t 25)⟩,
    ⟨(some 27), (some (21, true)), .load none (.t 26)⟩,
    ⟨(some 28), (some (21, true)), .mov (.t 0)⟩,
    ⟨(some 29), (some (21, true)), .mov (.t 3)⟩,
    ⟨(some 30), (some (21, true)), .mov (.t 9)⟩,
    ⟨(some 31), (some (21, true)), .bin .add .no (.t 29) (.t 30)⟩,
    ⟨(some 32), (some (21, true)), .bin .add .no (.t 31) (.c (.raw (.int .i64 1)))⟩,
    ⟨(some 33), (some (21, true)), .iaddr 1 none (.t 28) (.t 32)⟩,
    ⟨(some 34), (some (21, true)), .load none (.t 33)⟩,
    ⟨(some 35), (some (21, true)), .call 66 [(.t 27), (.t 34)]⟩,
    ⟨(some 36), none, .pick (.t 21) (.t 35) (.c (.kb false))⟩]
    (.fl 0 (.fl 1 (.fl 2 (.fl 3 (.fl 4 (.fl 5 (.fl 6 (.fl 7 (.fl 8 (.fr 9 (.fr 10 (.fl 11 (.fl 12 (.fl 13 (.fl 14 (.fl 15 (.fr 16 (.fr 17 (.st 18 [] (.fl 19 .done)))))))))))))))))))))
  (.cond (.t 36)
   (.reg [⟨(some 37), none, .mov (.t 9)⟩,
     ⟨(some 38), none, .bin .add .no (.t 37) (.c (.raw (.int .i64 1)))⟩,
     ⟨(some 9), none, .mov (.t 38)⟩])
   .skip))
  (.seq (.seq (.draw [⟨(some 39), none, .mov (.t 0)⟩,
    ⟨(some 40), none, .mov (.t 3)⟩,
    ⟨(some 41), none, .mov (.t 8)⟩,
    ⟨(some 42), none, .bin .add .no (.t 40) (.t 41)⟩,
    ⟨(some 43), none, .iaddr 1 none (.t 39) (.t 42)⟩,
    ⟨(some 44), none, .load none (.t 43)⟩,
    ⟨(some 45), none, .mov (.t 0)⟩,
    ⟨(some 46), none, .mov (.t 3)⟩,
    ⟨(some 47), none, .mov (.t 9)⟩,
    ⟨(some 48), none, .bin .add .no (.t 46) (.t 47)⟩,
    ⟨(some 49), none, .iaddr 1 none (.t 45) (.t 48)⟩,
    ⟨(some 50), none, .load none (.t 49)⟩,
    ⟨(some 51), none, .call 66 [(.t 44), (.t 50)]⟩,
    ⟨(some 52), none, .un .not (.t 51)⟩]
    (.fl 0 (.fl 1 (.fl 2 (.fl 3 (.fr 4 (.fr 5 (.fl 6 (.fl 7 (.fl 8 (.fl 9 (.fr 10 (.fr 11 (.st 12 [] (.fl 13 .done)))))))))))))))
  (.cond (.t 52)
   .ret
   .skip))
  (.seq (.draw [⟨(some 53), none, .mov (.t 0)⟩,
    ⟨(some 54), none, .mov (.t 3)⟩,
    ⟨(some 55), none, .mov (.t 8)⟩,
    ⟨(some 56), none, .bin .add .no (.t 54) (.t 55)⟩,
    ⟨(some 57), none, .mov (.t 0)⟩,
    ⟨(some 58), none, .mov (.t 3)⟩,
    ⟨(some 59), none, .mov (.t 9)⟩,
    ⟨(some 60), none, .bin .add .no (.t 58) (.t 59)⟩,
    ⟨(some 61), none, .mov (.t 0)⟩,
    ⟨(some 62), none, .mov (.t 3)⟩,
    ⟨(some 63), none, .mov (.t 9)⟩,
    ⟨(some 64), none, .bin .add .no (.t 62) (.t 63)⟩,
    ⟨(some 65), none, .iaddr 1 none (.t 61) (.t 64)⟩,
    ⟨(some 66), none, .load none (.t 65)⟩,
    ⟨(some 67), none, .mov (.t 0)⟩,
    ⟨(some 68), none, .mov (.t 3)⟩,
    ⟨(some 69), none, .mov (.t 8)⟩,
    ⟨(some 70), none, .bin .add .no (.t 68) (.t 69)⟩,
    ⟨(some 71), none, .iaddr 1 none (.t 67) (.t 70)⟩,
    ⟨(some 72), none, .load none (.t 71)⟩,
    ⟨(some 73), none, .iaddr 1 none (.t 53) (.t 56)⟩,
    ⟨none, none, .store none (.t 73) (.t 66)⟩,
    ⟨(some 74), none, .iaddr 1 none (.t 57) (.t 60)⟩,
    ⟨none, none, .store none (.t 74) (.t 72)⟩]
    (.fl 0 (.fl 1 (.fl 2 (.fl 3 (.fl 4 (.fl 5 (.fl 6 (.fl 7 (.fl 8 (.fl 9 (.fl 10 (.fl 11 (.fr 12 (.fr 13 (.fl 14 (.fl 15 (.fl 16 (.fl 17 (.fr 18 (.fr 19 (.fr 20 (.st 21 [] (.fr 22 (.st 23 [] .done)))))))))))))))))))))))))
  (.reg [⟨(some 75), none, .mov (.t 9)⟩,
    ⟨(some 8), none, .mov (.t 75)⟩]))))))))))
theorem i_slices_siftDownOrdered_string : Is Tryd.prog 76 76 [] c_slices_siftDownOrdered_string := ⟨Tryd.f76, _, p_slices_siftDownOrdered_string, rfl, rfl, by kernel_rfl, by kernel_rfl, rfl⟩
def p_slices_nextPowerOfTwo : List (Nat × Pl) := []
def c_slices_nextPowerOfTwo : VCode :=
 (.seq (.reg [⟨(some 2), none, .mov (.c (.raw (.int .u64 0)))⟩])
 (.seq (.reg [⟨(some 3), none, .mov (.t 0)⟩,
   ⟨(some 4), none, .conv (.int .u64) (.t 3)⟩,
   ⟨(some 5), none, .call 50 [(.t 4)]⟩,
   ⟨(some 6), none, .bin .shl .no (.c (.raw (.int .u64 1))) (.t 5)⟩,
   ⟨(some 2), none, .mov (.t 6)⟩])
 .ret))
theorem i_slices_nextPowerOfTwo : Is Tryd.prog 77 7 [.t 2] c_slices_nextPowerOfTwo := ⟨Tryd.f77, _, p_slices_nextPowerOfTwo, rfl, rfl, by kernel_rfl, by kernel_rfl, rfl⟩
def p_slices_xorshift_Next : List (Nat × Pl) := [(1, (.fl 0 (.fr 1 (.fr 2 (.fl 3 (.fr 4 (.fr 5 (.fl 6 (.fl 7 (.fr 8 (.st 9 [] .done))))))))))), (2, (.fl 0 (.fr 1 (.fr 2 (.fl 3 (.fr 4 (.fr 5 (.fl 6 (.fl 7 (.fr 8 (.st 9 [] .done))))))))))), (3, (.fl 0 (.fr 1 (.fr 2 (.fl 3 (.fr 4 (.fr 5 (.fl 6 (.fl 7 (.fr 8 (.st 9 [] .done)))))))))))]
def c_slices_xorshift_Next : VCode :=
 (.seq (.reg [⟨(some 2), none, .mov (.c (.raw (.int .u64 0)))⟩])
 (.seq (.draw [⟨(some 3), none, .mov (.t 0)⟩,
   ⟨(some 4), none, .nilck (.t 3)⟩,
   ⟨(some 5), none, .load none (.t 4)⟩,
   ⟨(some 6), none, .mov (.t 0)⟩,
   ⟨(some 7), none, .nilck (.t 6)⟩,
   ⟨(some 8), none, .load none (.t 7)⟩,
   ⟨(some 9), none, .bin .shl .no (.t 8) (.c (.raw (.int .u64 13)))⟩,
   ⟨(some 10), none, .bin .xor .no (.t 5) (.t 9)⟩,
   ⟨(some 11), none, .nilck (.t 3)⟩,
   ⟨none, none, .store none (.t 11) (.t 10)⟩]
   (.fl 0 (.fr 1 (.fr 2 (.fl 3 (.fr 4 (.fr 5 (.fl 6 (.fl 7 (.fr 8 (.st 9 [] .done)))))))))))
 (.seq (.draw [⟨(some 12), none, .mov (.t 0)⟩,
   ⟨(some 13), none, .nilck (.t 12)⟩,
   ⟨(some 14), none, .load none (.t 13)⟩,
   ⟨(some 15), none, .mov (.t 0)⟩,
   ⟨(some 16), none, .nilck (.t 15)⟩,
   ⟨(some 17), none, .load none (.t 16)⟩,
   ⟨(some 18), none, .bin .shr .no (.t 17) (.c (.raw (.int .u64 7)))⟩,
   ⟨(some 19), none, .bin .xor .no (.t 14) (.t 18)⟩,
   ⟨(some 20), none, .nilck (.t 12)⟩,
   ⟨none, none, .store none (.t 20) (.t 19)⟩]
   (.fl 0 (.fr 1 (.fr 2 (.fl 3 (.fr 4 (.fr 5 (.fl 6 (.fl 7 (.fr 8 (.st 9 [] .done)))))))))))
 (.seq (.draw [⟨(some 21), none, .mov (.t 0)⟩,
   ⟨(some 22), none, .nilck (.t 21)⟩,
   ⟨(some 23), none, .load none (.t 22)⟩,
   ⟨(some 24), none, .mov (.t 0)⟩,
   ⟨(some 25), none, .nilck (.t 24)⟩,
   ⟨(some 26), none, .load none (.t 25)⟩,
   ⟨(some 27), none, .bin .shl .no (.t 26) (.c (.raw (.int .u64 17)))⟩,
   ⟨(some 28), none, .bin .xor .no (.t 23) (.t 27)⟩,
   ⟨(some 29), none, .nilck (.t 21)⟩,
   ⟨none, none, .store none (.t 29) (.t 28)⟩]
   (.fl 0 (.fr 1 (.fr 2 (.fl 3 (.fr 4 (.fr 5 (.fl 6 (.fl 7 (.fr 8 (.st 9 [] .done)))))))))))
 (.seq (.reg [⟨(some 30), none, .mov (.t 0)⟩,
   ⟨(some 31), none, .nilck (.t 30)⟩,
   ⟨(some 32), none, .load none (.t 31)⟩,
   ⟨(some 2), none, .mov (.t 32)⟩])
 .ret)))))
theorem i_slices_xorshift_Next : Is Tryd.prog 78 33 [.t 2] c_slices_xorshift_Next := ⟨Tryd.f78, _, p_slices_xorshift_Next, rfl, rfl, by kernel_rfl, by kernel_rfl, rfl⟩
def p_slices_medianAdjacentOrdered_string : List (Nat × Pl) := []
def c_slices_medianAdjacentOrdered_string : VCode :=
 (.seq (.reg [⟨(some 6), none, .mov (.c (.raw (.int .i64 0)))⟩])
 (.seq (.reg [⟨(some 7), none, .mov (.t 0)⟩,
   ⟨(some 8), none, .mov (.t 1)⟩,
   ⟨(some 9), none, .bin .sub .no (.t 8) (.c (.raw (.int .i64 1)))⟩,
   ⟨(some 10), none, .mov (.t 1)⟩,
   ⟨(some 11), none, .mov (.t 1)⟩,
   ⟨(some 12), none, .bin .add .no (.t 11) (.c (.raw (.int .i64 1)))⟩,
   ⟨(some 13), none, .mov (.t 2)⟩,
   ⟨(some 14), none, .call 80 [(.t 7), (.t 9), (.t 10), (.t 12), (.t 13)]⟩,
   ⟨(some 6), none, .mov (.t 14)⟩])
 .ret))
theorem i_slices_medianAdjacentOrdered_string : Is Tryd.prog 79 15 [.t 6] c_slices_medianAdjacentOrdered_string := ⟨Tryd.f79, _, p_slices_medianAdjacentOrdered_string, rfl, rfl, by kernel_rfl, by kernel_rfl, rfl⟩
def p_slices_medianOrdered_string : List (Nat × Pl) := []
def c_slices_medianOrdered_string : VCode :=
 (.seq (.reg [⟨(some 10), none, .mov (.c (.raw (.int .i64 0)))⟩])
 (.seq (.reg [⟨(some 12), none, .mov (.t 0)⟩,
   ⟨(some 13), none, .mov (.t 1)⟩,
   ⟨(some 14), none, .mov (.t 2)⟩,
   ⟨(some 15), none, .mov (.t 4)⟩,
   ⟨(some 16), none, .call 92 [(.t 12), (.t 13), (.t 14), (.t 15)]⟩,
   ⟨(some 11), none, .mov (.t 16)⟩,
   ⟨(some 17), none, .extr (.t 11) 0⟩,
   ⟨(some 18), none, .extr (.t 11) 1⟩,
   ⟨(some 1), none, .mov (.t 17)⟩,
   ⟨(some 2), none, .mov (.t 18)⟩])
 (.seq (.reg [⟨(some 20), none, .mov (.t 0)⟩,
   ⟨(some 21), none, .mov (.t 2)⟩,
   ⟨(some 22), none, .mov (.t 3)⟩,
   ⟨(some 23), none, .mov (.t 4)⟩,
   ⟨(some 24), none, .call 92 [(.t 20), (.t 21), (.t 22), (.t 23)]⟩,
   ⟨(some 19), none, .mov (.t 24)⟩,
   ⟨(some 25), none, .extr (.t 19) 0⟩,
   ⟨(some 26), none, .extr (.t 19) 1⟩,
   ⟨(some 2), none, .mov (.t 25)⟩,
   ⟨(some 3), none, .mov (.t 26)⟩])
 (.seq (.reg [⟨(some 28), none, .mov (.t 0)⟩,
   ⟨(some 29), none, .mov (.t 1)⟩,
   ⟨(some 30), none, .mov (.t 2)⟩,
   ⟨(some 31), none, .mov (.t 4)⟩,
   ⟨(some 32), none, .call 92 [(.t 28), (.t 29), (.t 30), (.t 31)]⟩,
   ⟨(some 27), none, .mov (.t 32)⟩,
   ⟨(some 33), none, .extr (.t 27) 0⟩,
   ⟨(some 34), none, .extr (.t 27) 1⟩,
   ⟨(some 1), none, .mov (.t 33)⟩,
   ⟨(some 2), none, .mov (.t 34)⟩])
 (.seq (.reg [⟨(some 35), none, .mov (.t 2)⟩,
   ⟨(some 10), none, .mov (.t 35)⟩])
 .ret)))))
theorem i_slices_medianOrdered_string : Is Tryd.prog 80 36 [.t 10] c_slices_medianOrdered_string := ⟨Tryd.f80, _, p_slices_medianOrdered_string, rfl, rfl, by kernel_rfl, by kernel_rfl, rfl⟩
def p_cmp_isNaN_string : List (Nat × Pl) := []
def c_cmp_isNaN_string : VCode :=
 (.seq (.reg [⟨(some 2), none, .mov (.c (.kb false))⟩])
 (.seq (.reg [⟨(some 3), none, .mov (.t 0)⟩,
   ⟨(some 4), none, .mov (.t 0)⟩,
   ⟨(some 5), none, .bin .neq .no (.t 3) (.t 4)⟩,
   ⟨(some 2), none, .mov (.t 5)⟩])
 .ret))
theorem i_cmp_isNaN_string : Is Tryd.prog 81 6 [.t 2] c_cmp_isNaN_string := ⟨Tryd.f81, _, p_cmp_isNaN_string, rfl, rfl, by kernel_rfl, by kernel_rfl, rfl⟩
def p_slices_insertionSortCmpFunc_api_Dot : List (Nat × Pl) := [(4, (.fl 0 (.fl 1 (.fl 2 (.fl 3 (.fl 4 (.fl 5 (.fl 6 (.fr 7 (.fr 8 (.fl 9 (.fl 10 (.fl 11 (.fr 12 (.fr 13 (.st 14 [] (.fl 15 (.fl 16 .done)))))))))))))))))), (6, (.fl 0 (.fl 1 (.fl 2 (.fl 3 (.fl 4 (.fl 5 (.fl 6 (.fl 7 (.fr 8 (.fr 9 (.fl 10 (.fl 11 (.fr 12 (.fr 13 (.fr 14 (.st 15 [] (.fr 16 (.st 17 [] .done)))))))))))))))))))]
def c_slices_insertionSortCmpFunc_api_Dot : VCode :=
 (.seq (.reg [⟨(some 10), none, .mov (.t 1)⟩,
   ⟨(some 11), none, .bin .add .no (.t 10) (.c (.raw (.int .i64 1)))⟩,
   ⟨(some 8), none, .mov (.t 11)⟩])
 (.block 0 (.loop (.seq (.seq (.reg [⟨(some 12), none, .mov (.t 8)⟩,
    ⟨(some 13), none, .mov (.t 2)⟩,
    ⟨(some 14), none, .bin .lss .no (.t 12) (.t 13)⟩])
  (.cond (.t 14)
   .skip
   (.exit 0)))
  (.seq (.block 1 (.seq (.reg [⟨(some 17), none, .mov (.t 8)⟩,
    ⟨(some 9), none, .mov (.t 17)⟩])
  (.block 2 (.loop (.seq (.seq (.draw [⟨(some 18), none, .mov (.t 9)⟩,
     ⟨(some 19), none, .mov (.t 1)⟩,
     ⟨(some 20), none, .bin .gtr .no (.t 18) (.t 19)⟩,
     ⟨(some 21), none, .mov (.t 20)⟩,
     ⟨(some 22), (some (21, true)), .mov (.t 3)⟩,
     ⟨(some 23), (some (21, true)), .mov (.t 0)⟩,
     ⟨(some 24), (some (21, true)), .mov (.t 9)⟩,
     ⟨(some 25), (some (21, true)), .iaddr 2 none (.t 23) (.t 24)⟩,
     ⟨(some 26), (some (21, true)), .load (some 2) (.t 25)⟩,
     ⟨(some 27), (some (21, true)), .mov (.t 0)⟩,
     ⟨(some 28), (some (21, true)), .mov (.t 9)⟩,
     ⟨(some 29), (some (21, true)), .bin .sub .no (.t 28) (.c (.raw (.int .i64 1)))⟩,
     ⟨(some 30), (some (21, true)), .iaddr 2 none (.t 27) (.t 29)⟩,
     ⟨(some 31), (some (21, true)), .load (some 2) (.t 30)⟩,
     ⟨(some 32), (some (21, true)), .callv (.t 22) [(.t 26), (.t 31)]⟩,
     ⟨(some 33), (some (21, true)), .bin .lss .no (.t 32) (.c (.raw (.int .i64 0)))⟩,
     ⟨(some 34), none, .pick (.t 21) (.t 33) (.c (.kb false))⟩]
     (.fl 0 (.fl 1 (.fl 2 (.fl 3 (.fl 4 (.fl 5 (.fl 6 (.fr 7 (.fr 8 (.fl 9 (.fl 10 (.fl 11 (.fr 12 (.fr 13 (.st 14 [] (.fl 15 (.fl 16 .done))))))))))))))))))
   (.cond (.t 34)
    .skip
    (.exit 2)))
   (.seq (.block 3 (.draw [⟨(some 37), none, .mov (.t 0)⟩,
     ⟨(some 38), none, .mov (.t 9)⟩,
     ⟨(some 39), none, .mov (.t 0)⟩,
     ⟨(some 40), none, .mov (.t 9)⟩,
     ⟨(some 41), none, .bin .sub .no (.t 40) (.c (.raw (.int .i64 1)))⟩,
     ⟨(some 42), none, .mov (.t 0)⟩,
     ⟨(some 43), none, .mov (.t 9)⟩,
     ⟨(some 44), none, .bin .sub .no (.t 43) (.c (.raw (.int .i64 1)))⟩,
     ⟨(some 45), none, .iaddr 2 none (.t 42) (.t 44)⟩,
     ⟨(some 46), none, .load (some 2) (.t 45)⟩,
     ⟨(some 47), none, .mov (.t 0)⟩,
     ⟨(some 48), none, .mov (.t 9)⟩,
     ⟨(some 49), none, .iaddr 2 none (.t 47) (.t 48)⟩,
     ⟨(some 50), none, .load (some 2) (.t 49)⟩,
     ⟨(some 51), none, .iaddr 2 none (.t 37) (.t 38)⟩,
     ⟨none, none, .store (some 2) (.t 51) (.t 46)⟩,
     ⟨(some 52), none, .iaddr 2 none (.t 39) (.t 41)⟩,
     ⟨none, none, .store (some 2) (.t 52) (.t 50)⟩]
     (.fl 0 (.fl 1 (.fl 2 (.fl 3 (.fl 4 (.fl 5 (.fl 6 (.fl 7 (.fr 8 (.fr 9 (.fl 10 (.fl 11 (.fr 12 (.fr 13 (.fr 14 (.st 15 [] (.fr 16 (.st 17 [] .done))))))))))))))))))))
   (.reg [⟨(some 35), none, .mov (.t 9)⟩,
     ⟨(some 36), none, .bin .sub .no (.t 35) (.c (.raw (.int .i64 1)))⟩,
     ⟨(some 9), none, .mov (.t 36)⟩])))))))
  (.reg [⟨(some 15), none, .mov (.t 8)⟩,
    ⟨(some 16), none, .bin .add .no (.t 15) (.c (.raw (.int .i64 1)))⟩,
    ⟨(some 8), none, .mov (.t 16)⟩]))))))
theorem i_slices_insertionSortCmpFunc_api_Dot : Is Tryd.prog 84 53 [] c_slices_insertionSortCmpFunc_api_Dot := ⟨Tryd.f84, _, p_slices_insertionSortCmpFunc_api_Dot, rfl, rfl, by kernel_rfl, by kernel_rfl, rfl⟩
def p_slices_heapSortCmpFunc_api_Dot : List (Nat × Pl) := [(10, (.fl 0 (.fl 1 (.fl 2 (.fl 3 (.fl 4 (.fl 5 (.fl 6 (.fl 7 (.fl 8 (.fl 9 (.fr 10 (.fr 11 (.fl 12 (.fl 13 (.fr 14 (.fr 15 (.fr 16 (.st 17 [] (.fr 18 (.st 19 [] .done)))))))))))))))))))))]
def c_slices_heapSortCmpFunc_api_Dot : VCode :=
 (.seq (.reg [⟨(some 13), none, .mov (.t 1)⟩,
   ⟨(some 8), none, .mov (.t 13)⟩])
 (.seq (.reg [⟨(some 9), none, .mov (.c (.raw (.int .i64 0)))⟩])
 (.seq (.reg [⟨(some 14), none, .mov (.t 2)⟩,
   ⟨(some 15), none, .mov (.t 1)⟩,
   ⟨(some 16), none, .bin .sub .no (.t 14) (.t 15)⟩,
   ⟨(some 10), none, .mov (.t 16)⟩])
 (.seq (.seq (.reg [⟨(some 17), none, .mov (.t 10)⟩,
   ⟨(some 18), none, .bin .sub .no (.t 17) (.c (.raw (.int .i64 1)))⟩,
   ⟨(some 19), none, .bin .quo .no (.t 18) (.c (.raw (.int .i64 2)))⟩,
   ⟨(some 11), none, .mov (.t 19)⟩])
 (.block 0 (.loop (.seq (.seq (.reg [⟨(some 20), none, .mov (.t 11)⟩,
    ⟨(some 21), none, .bin .geq .no (.t 20) (.c (.raw (.int .i64 0)))⟩])
  (.cond (.t 21)
   .skip
   (.exit 0)))
  (.seq (.block 1 (.reg [⟨(some 24), none, .mov (.t 0)⟩,
    ⟨(some 25), none, .mov (.t 11)⟩,
    ⟨(some 26), none, .mov (.t 10)⟩,
    ⟨(some 27), none, .mov (.t 8)⟩,
    ⟨(some 28), none, .mov (.t 3)⟩,
    ⟨(some 29), none, .call 93 [(.t 24), (.t 25), (.t 26), (.t 27), (.t 28)]⟩]))
  (.reg [⟨(some 22), none, .mov (.t 11)⟩,
    ⟨(some 23), none, .bin .sub .no (.t 22) (.c (.raw (.int .i64 1)))⟩,
    ⟨(some 11), none, .mov (.t 23)⟩]))))))
 (.seq (.reg [⟨(some 30), none, .mov (.t 10)⟩,
   ⟨(some 31), none, .bin .sub .no (.t 30) (.c (.raw (.int .i64 1)))⟩,
   ⟨(some 12), none, .mov (.t 31)⟩])
 (.block 2 (.loop (.seq (.seq (.reg [⟨(some 32), none, .mov (.t 12)⟩,
    ⟨(some 33), none, .bin .geq .no (.t 32) (.c (.raw (.int .i64 0)))⟩])
  (.cond (.t 33)
   .skip
   (.exit 2)))
  (.seq (.block 3 (.seq (.draw [⟨(some 36), none, .mov (.t 0)⟩,
    ⟨(some 37), none, .mov (.t 8)⟩,
    ⟨(some 38), none, .mov (.t 0)⟩,
    ⟨(some 39), none, .mov (.t 8)⟩,
    ⟨(some 40), none, .mov (.t 12)⟩,
    ⟨(some 41), none, .bin .add .no (.t 39) (.t 40)⟩,
    ⟨(some 42), none, .mov (.t 0)⟩,
    ⟨(some 43), none, .mov (.t 8)⟩,
    ⟨(some 44), none, .mov (.t 12)⟩,
    ⟨(some 45), none, .bin .add .no (.t 43) (.t 44)⟩,
    ⟨(some 46), none, .iaddr 2 none (.t 42) (.t 45)⟩,
    ⟨(some 47), none, .load (some 2) (.t 46)⟩,
    ⟨(some 48), none, .mov (.t 0)⟩,
    ⟨(some 49), none, .mov (.t 8)⟩,
    ⟨(some 50), none, .iaddr 2 none (.t 48) (.t 49)⟩,
    ⟨(some 51), none, .load (some 2) (.t 50)⟩,
    ⟨(some 52), none, .iaddr 2 none (.t 36) (.t 37)⟩,
    ⟨none, none, .store (some 2) (.t 52) (.t 47)⟩,
    ⟨(some 53), none, .iaddr 2 none (.t 38) (.t 41)⟩,
    ⟨none, none, .store (some 2) (.t 53) (.t 51)⟩]
    (.fl 0 (.fl 1 (.fl 2 (.fl 3 (.fl 4 (.fl 5 (.fl 6 (.fl 7 (.fl 8 (.fl 9 (.fr 10 (.fr 11 (.fl 12 (.fl 13 (.fr 14 (.fr 15 (.fr 16 (.st 17 [] (.fr 18 (.st 19 [] .done)))))))))))))))))))))
  (.reg [⟨(some 54), none, .mov (.t 0)⟩,
    ⟨(some 55), none, .mov (.t 9)⟩,
    ⟨(some 56), none, .mov (.t 12)⟩,
    ⟨(some 57), none, .mov (.t 8)⟩,
    ⟨(some 58), none, .mov (.t 3)⟩,
    ⟨(some 59), none, .call 93 [(.t 54), (.t 55), (.t 56), (.t 57), (.t 58)]⟩])))
  (.reg [⟨(some 34), none, .mov (.t 12)⟩,
    ⟨(some 35), none, .bin .sub .no (.t 34) (.c (.raw (.int .i64 1)))⟩,
    ⟨(some 12), none, .mov (.t 35)⟩]))))))))))
theorem i_slices_heapSortCmpFunc_api_Dot : Is Tryd.prog 85 60 [] c_slices_heapSortCmpFunc_api_Dot := ⟨Tryd.f85, _, p_slices_heapSortCmpFunc_api_Dot, rfl, rfl, by kernel_rfl, by kernel_rfl, rfl⟩
def p_slices_breakPatternsCmpFunc_api_Dot : List (Nat × Pl) := [(10, (.fl 0 (.fl 1 (.fl 2 (.fl 3 (.fl 4 (.fl 5 (.fl 6 (.fl 7 (.fl 8 (.fl 9 (.fr 10 (.fr 11 (.fl 12 (.fl 13 (.fr 14 (.fr 15 (.fr 16 (.st 17 [] (.fr 18 (.st 19 [] .done)))))))))))))))))))))]
def c_slices_breakPatternsCmpFunc_api_Dot : VCode :=
 (.seq (.reg [⟨(some 13), none, .mov (.t 2)⟩,
   ⟨(some 14), none, .mov (.t 1)⟩,
   ⟨(some 15), none, .bin .sub .no (.t 13) (.t 14)⟩,
   ⟨(some 8), none, .mov (.t 15)⟩])
 (.seq (.reg [⟨(some 16), none, .mov (.t 8)⟩,
   ⟨(some 17), none, .bin .geq .no (.t 16) (.c (.raw (.int .i64 8)))⟩])
 (.cond (.t 17)
  (.seq (.reg [⟨(some 18), none, .mov (.t 8)⟩,
    ⟨(some 19), none, .conv (.int .u64) (.t 18)⟩,
    ⟨(some 9), none, .new 138 [(.int .u64 0)]⟩,
    ⟨none, none, .store none (.t 9) (.t 19)⟩])
  (.seq (.reg [⟨(some 20), none, .mov (.t 8)⟩,
    ⟨(some 21), none, .call 77 [(.t 20)]⟩,
    ⟨(some 10), none, .mov (.t 21)⟩])
  (.seq (.reg [⟨(some 22), none, .mov (.t 1)⟩,
    ⟨(some 23), none, .mov (.t 8)⟩,
    ⟨(some 24), none, .bin .quo .no (.t 23) (.c (.raw (.int .i64 4)))⟩,
    ⟨(some 25), none, .bin .mul .no (.t 24) (.c (.raw (.int .i64 2)))⟩,
    ⟨(some 26), none, .bin .add .no (.t 22) (.t 25)⟩,
    ⟨(some 27), none, .bin .sub .no (.t 26) (.c (.raw (.int .i64 1)))⟩,
    ⟨(some 11), none, .mov (.t 27)⟩])
  (.block 0 (.loop (.seq (.seq (.reg [⟨(some 28), none, .mov (.t 11)⟩,
     ⟨(some 29), none, .mov (.t 1)⟩,
     ⟨(some 30), none, .mov (.t 8)⟩,
     ⟨(some 31), none, .bin .quo .no (.t 30) (.c (.raw (.int .i64 4)))⟩,
     ⟨(some 32), none, .bin .mul .no (.t 31) (.c (.raw (.int .i64 2)))⟩,
     ⟨(some 33), none, .bin .add .no (.t 29) (.t 32)⟩,
     ⟨(some 34), none, .bin .add .no (.t 33) (.c (.raw (.int .i64 1)))⟩,
     ⟨(some 35), none, .bin .leq .no (.t 28) (.t 34)⟩])
   (.cond (.t 35)
    .skip
    (.exit 0)))
   (.seq (.block 1 (.seq (.reg [⟨(some 38), none, .call 78 [(.t 9)]⟩,
     ⟨(some 39), none, .mov (.t 10)⟩,
     ⟨(some 40), none, .bin .sub .no (.t 39) (.c (.raw (.int .u64 1)))⟩,
     ⟨(some 41), none, .bin .and .no (.t 38) (.t 40)⟩,
     ⟨(some 42), none, .conv (.int .i64) (.t 41)⟩,
     ⟨(some 12), none, .mov (.t 42)⟩])
   (.seq (.seq (.reg [⟨(some 43), none, .mov (.t 12)⟩,
     ⟨(some 44), none, .mov (.t 8)⟩,
     ⟨(some 45), none, .bin .geq .no (.t 43) (.t 44)⟩])
   (.cond (.t 45)
    (.reg [⟨(some 46), none, .mov (.t 12)⟩,
      ⟨(some 47), none, .mov (.t 8)⟩,
      ⟨(some 48), none, .bin .sub .no (.t 46) (.t 47)⟩,
      ⟨(some 12), none, .mov (.t 48)⟩])
    .skip))
   (.draw [⟨(some 49), none, .mov (.t 0)⟩,
     ⟨(some 50), none, .mov (.t 11)⟩,
     ⟨(some 51), none, .mov (.t 0)⟩,
     ⟨(some 52), none, .mov (.t 1)⟩,
     ⟨(some 53), none, .mov (.t 12)⟩,
     ⟨(some 54), none, .bin .add .no (.t 52) (.t 53)⟩,
     ⟨(some 55), none, .mov (.t 0)⟩,
     ⟨(some 56), none, .mov (.t 1)⟩,
     ⟨(some 57), none, .mov (.t 12)⟩,
     ⟨(some 58), none, .bin .add .no (.t 56) (.t 57)⟩,
     ⟨(some 59), none, .iaddr 2 none (.t 55) (.t 58)⟩,
     ⟨(some 60), none, .load (some 2) (.t 59)⟩,
     ⟨(some 61), none, .mov (.t 0)⟩,
     ⟨(some 62), none, .mov (.t 11)⟩,
     ⟨(some 63), none, .iaddr 2 none (.t 61) (.t 62)⟩,
     ⟨(some 64), none, .load (some 2) (.t 63)⟩,
     ⟨(some 65), none, .iaddr 2 none (.t 49) (.t 50)⟩,
     ⟨none, none, .store (some 2) (.t 65) (.t 60)⟩,
     ⟨(some 66), none, .iaddr 2 none (.t 51) (.t 54)⟩,
     ⟨none, none, .store (some 2) (.t 66) (.t 64)⟩]
     (.fl 0 (.fl 1 (.fl 2 (.fl 3 (.fl 4 (.fl 5 (.fl 6 (.fl 7 (.fl 8 (.fl 9 (.fr 10 (.fr 11 (.fl 12 (.fl 13 (.fr 14 (.fr 15 (.fr 16 (.st 17 [] (.fr 18 (.st 19 [] .done))))))))))))))))))))))))
   (.reg [⟨(some 36), none, .mov (.t 11)⟩,
     ⟨(some 37), none, .bin .add .no (.t 36) (.c (.raw (.int .i64 1)))⟩,
     ⟨(some 11), none, .mov (.t 37)⟩]))))))))
  .skip)))
theorem i_slices_breakPatternsCmpFunc_api_Dot : Is Tryd.prog 86 67 [] c_slices_breakPatternsCmpFunc_api_Dot := ⟨Tryd.f86, _, p_slices_breakPatternsCmpFunc_api_Dot, rfl, rfl, by kernel_rfl, by kernel_rfl, rfl⟩
def p_slices_choosePivotCmpFunc_api_Dot : List (Nat × Pl) := []
def c_slices_choosePivotCmpFunc_api_Dot : VCode :=
 (.seq (.reg [⟨(some 8), none, .mov (.c (.raw (.int .i64 0)))⟩,
   ⟨(some 9), none, .mov (.c (.raw (.int .i64 0)))⟩])
 (.seq (.reg [⟨(some 15), none, .mov (.t 2)⟩,
   ⟨(some 16), none, .mov (.t 1)⟩,
   ⟨(some 17), none, .bin .sub .no (.t 15) (.t 16)⟩,
   ⟨(some 10), none, .mov (.t 17)⟩])
 (.seq (.reg [⟨(some 11), none, .new 3 [(.int .i64 0)]⟩])
 (.seq (.reg [⟨(some 18), none, .mov (.t 1)⟩,
   ⟨(some 19), none, .mov (.t 10)⟩,
   ⟨(some 20), none, .bin .quo .no (.t 19) (.c (.raw (.int .i64 4)))⟩,
   ⟨(some 21), none, .bin .mul .no (.t 20) (.c (.raw (.int .i64 1)))⟩,
   ⟨(some 22), none, .bin .add .no (.t 18) (.t 21)⟩,
   ⟨(some 12), none, .mov (.t 22)⟩])
 (.seq (.reg [⟨(some 23), none, .mov (.t 1)⟩,
   ⟨(some 24), none, .mov (.t 10)⟩,
   ⟨(some 25), none, .bin .quo .no (.t 24) (.c (.raw (.int .i64 4)))⟩,
   ⟨(some 26), none, .bin .mul .no (.t 25) (.c (.raw (.int .i64 2)))⟩,
   ⟨(some 27), none, .bin .add .no (.t 23) (.t 26)⟩,
   ⟨(some 13), none, .mov (.t 27)⟩])
 (.seq (.reg [⟨(some 28), none, .mov (.t 1)⟩,
   ⟨(some 29), none, .mov (.t 10)⟩,
   ⟨(some 30), none, .bin .quo .no (.t 29) (.c (.raw (.int .i64 4)))⟩,
   ⟨(some 31), none, .bin .mul .no (.t 30) (.c (.raw (.int .i64 3)))⟩,
   ⟨(some 32), none, .bin .add .no (.t 28) (.t 31)⟩,
   ⟨(some 14), none, .mov (.t 32)⟩])
 (.seq (.seq (.reg [⟨(some 33), none, .mov (.t 10)⟩,
   ⟨(some 34), none, .bin .geq .no (.t 33) (.c (.raw (.int .i64 8)))⟩])
 (.cond (.t 34)
  (.seq (.seq (.reg [⟨(some 35), none, .mov (.t 10)⟩,
    ⟨(some 36), none, .bin .geq .no (.t 35) (.c (.raw (.int .i64 50)))⟩])
  (.cond (.t 36)
   (.seq (.reg [⟨(some 37), none, .mov (.t 0)⟩,
     ⟨(some 38), none, .mov (.t 12)⟩,
     ⟨(some 39), none, .mov (.t 3)⟩,
     ⟨(some 40), none, .call 94 [(.t 37), (.t 38), (.t 11), (.t 39)]⟩,
     ⟨(some 12), none, .mov (.t 40)⟩])
   (.seq (.reg [⟨(some 41), none, .mov (.t 0)⟩,
     ⟨(some 42), none, .mov (.t 13)⟩,
     ⟨(some 43), none, .mov (.t 3)⟩,
     ⟨(some 44), none, .call 94 [(.t 41), (.t 42), (.t 11), (.t 43)]⟩,
     ⟨(some 13), none, .mov (.t 44)⟩])
   (.reg [⟨(some 45), none, .mov (.t 0)⟩,
     ⟨(some 46), none, .mov (.t 14)⟩,
     ⟨(some 47), none, .mov (.t 3)⟩,
     ⟨(some 48), none, .call 94 [(.t 45), (.t 46), (.t 11), (.t 47)]⟩,
     ⟨(some 14), none, .mov (.t 48)⟩])))
   .skip))
  (.reg [⟨(some 49), none, .mov (.t 0)⟩,
    ⟨(some 50), none, .mov (.t 12)⟩,
    ⟨(some 51), none, .mov (.t 13)⟩,
    ⟨(some 52), none, .mov (.t 14)⟩,
    ⟨(some 53), none, .mov (.t 3)⟩,
    ⟨(some 54), none, .call 95 [(.t 49), (.t 50), (.t 51), (.t 52), (.t 11), (.t 53)]⟩,
    ⟨(some 13), none, .mov (.t 54)⟩]))
  .skip))
 (.seq (.reg [⟨(some 55), none, .load none (.t 11)⟩])
 (.block 0 (.seq (.reg [⟨(some 58), none, .bin .eql .no (.t 55) (.c (.raw (.int .i64 0)))⟩,
   ⟨(some 57), none, .mov (.t 58)⟩])
 (.cond (.t 57)
  (.seq (.reg [⟨(some 59), none, .mov (.t 13)⟩,
    ⟨(some 8), none, .mov (.t 59)⟩,
    ⟨(some 9), none, .mov (.c (.raw (.int .i64 1)))⟩])
  .ret)
  (.seq (.reg [⟨(some 61), none, .bin .eql .no (.t 55) (.c (.raw (.int .i64 12)))⟩,
    ⟨(some 60), none, .mov (.t 61)⟩])
  (.cond (.t 60)
   (.seq (.reg [⟨(some 62), none, .mov (.t 13)⟩,
     ⟨(some 8), none, .mov (.t 62)⟩,
     ⟨(some 9), none, .mov (.c (.raw (.int .i64 2)))⟩])
   .ret)
   (.seq (.reg [⟨(some 56), none, .mov (.t 13)⟩,
     ⟨(some 8), none, .mov (.t 56)⟩,
     ⟨(some 9), none, .mov (.c (.raw (.int .i64 0)))⟩])
   .ret))))))))))))))
theorem i_slices_choosePivotCmpFunc_api_Dot : Is Tryd.prog 87 63 [.t 8, .t 9] c_slices_choosePivotCmpFunc_api_Dot := ⟨Tryd.f87, _, p_slices_choosePivotCmpFunc_api_Dot, rfl, rfl, by kernel_rfl, by kernel_rfl, rfl⟩
def p_slices_reverseRangeCmpFunc_api_Dot : List (Nat × Pl) := [(3, (.fl 0 (.fl 1 (.fl 2 (.fl 3 (.fl 4 (.fl 5 (.fr 6 (.fr 7 (.fl 8 (.fl 9 (.fr 10 (.fr 11 (.fr 12 (.st 13 [] (.fr 14 (.st 15 [] .done)))))))))))))))))]
def c_slices_reverseRangeCmpFunc_api_Dot : VCode :=
 (.seq (.reg [⟨(some 10), none, .mov (.t 1)⟩,
   ⟨(some 8), none, .mov (.t 10)⟩])
 (.seq (.reg [⟨(some 11), none, .mov (.t 2)⟩,
   ⟨(some 12), none, .bin .sub .no (.t 11) (.c (.raw (.int .i64 1)))⟩,
   ⟨(some 9), none, .mov (.t 12)⟩])
 (.block 0 (.loop (.seq (.seq (.reg [⟨(some 13), none, .mov (.t 8)⟩,
    ⟨(some 14), none, .mov (.t 9)⟩,
    ⟨(some 15), none, .bin .lss .no (.t 13) (.t 14)⟩])
  (.cond (.t 15)
   .skip
   (.exit 0)))
  (.block 1 (.seq (.draw [⟨(some 16), none, .mov (.t 0)⟩,
    ⟨(some 17), none, .mov (.t 8)⟩,
    ⟨(some 18), none, .mov (.t 0)⟩,
    ⟨(some 19), none, .mov (.t 9)⟩,
    ⟨(some 20), none, .mov (.t 0)⟩,
    ⟨(some 21), none, .mov (.t 9)⟩,
    ⟨(some 22), none, .iaddr 2 none (.t 20) (.t 21)⟩,
    ⟨(some 23), none, .load (some 2) (.t 22)⟩,
    ⟨(some 24), none, .mov (.t 0)⟩,
    ⟨(some 25), none, .mov (.t 8)⟩,
    ⟨(some 26), none, .iaddr 2 none (.t 24) (.t 25)⟩,
    ⟨(some 27), none, .load (some 2) (.t 26)⟩,
    ⟨(some 28), none, .iaddr 2 none (.t 16) (.t 17)⟩,
    ⟨none, none, .store (some 2) (.t 28) (.t 23)⟩,
    ⟨(some 29), none, .iaddr 2 none (.t 18) (.t 19)⟩,
    ⟨none, none, .store (some 2) (.t 29) (.t 27)⟩]
    (.fl 0 (.fl 1 (.fl 2 (.fl 3 (.fl 4 (.fl 5 (.fr 6 (.fr 7 (.fl 8 (.fl 9 (.fr 10 (.fr 11 (.fr 12 (.st 13 [] (.fr 14 (.st 15 [] .done)))))))))))))))))
  (.seq (.reg [⟨(some 30), none, .mov (.t 8)⟩,
    ⟨(some 31), none, .bin .add .no (.t 30) (.c (.raw (.int .i64 1)))⟩,
    ⟨(some 8), none, .mov (.t 31)⟩])
  (.reg [⟨(some 32), none, .mov (.t 9)⟩,
    ⟨(some 33), none, .bin .sub .no (.t 32) (.c (.raw (.int .i64 1)))⟩,
    ⟨(some 9), none, .mov (.t 33)⟩])))))))))
theorem i_slices_reverseRangeCmpFunc_api_Dot : Is Tryd.prog 88 34 [] c_slices_reverseRangeCmpFunc_api_Dot := ⟨Tryd.f88, _, p_slices_reverseRangeCmpFunc_api_Dot, rfl, rfl, by kernel_rfl, by kernel_rfl, rfl⟩
def p_slices_partialInsertionSortCmpFunc_api_Dot : List (Nat × Pl) := [(5, (.fl 0 (.fl 1 (.fl 2 (.fl 3 (.fl 4 (.fl 5 (.fl 6 (.fr 7 (.fr 8 (.fl 9 (.fl 10 (.fl 11 (.fr 12 (.fr 13 (.st 14 [] (.fl 15 (.fl 16 (.fl 17 .done))))))))))))))))))), (11, (.fl 0 (.fl 1 (.fl 2 (.fl 3 (.fl 4 (.fl 5 (.fl 6 (.fl 7 (.fr 8 (.fr 9 (.fl 10 (.fl 11 (.fr 12 (.fr 13 (.fr 14 (.st 15 [] (.fr 16 (.st 17 [] .done))))))))))))))))))), (16, (.fl 0 (.fl 1 (.fl 2 (.fr 3 (.fr 4 (.fl 5 (.fl 6 (.fl 7 (.fr 8 (.fr 9 (.st 10 [] (.fl 11 (.fl 12 .done)))))))))))))), (17, (.fl 0 (.fl 1 (.fl 2 (.fl 3 (.fl 4 (.fl 5 (.fl 6 (.fl 7 (.fr 8 (.fr 9 (.fl 10 (.fl 11 (.fr 12 (.fr 13 (.fr 14 (.st 15 [] (.fr 16 (.st 17 [] .done))))))))))))))))))), (22, (.fl 0 (.fl 1 (.fl 2 (.fr 3 (.fr 4 (.fl 5 (.fl 6 (.fl 7 (.fr 8 (.fr 9 (.st 10 [] (.fl 11 (.fl 12 .done)))))))))))))), (23, (.fl 0 (.fl 1 (.fl 2 (.fl 3 (.fl 4 (.fl 5 (.fl 6 (.fl 7 (.fr 8 (.fr 9 (.fl 10 (.fl 11 (.fr 12 (.fr 13 (.fr 14 (.st 15 [] (.fr 16 (.st 17 [] .done)))))))))))))))))))]
def c_slices_partialInsertionSortCmpFunc_api_Dot : VCode :=
 (.seq (.reg [⟨(some 8), none, .mov (.c (.kb false))⟩])
 (.seq (.reg [⟨(some 13), none, .mov (.t 1)⟩,
   ⟨(some 14), none, .bin .add .no (.t 13) (.c (.raw (.int .i64 1)))⟩,
   ⟨(some 9), none, .mov (.t 14)⟩])
 (.seq (.seq (.reg [⟨(some 10), none, .mov (.c (.raw (.int .i64 0)))⟩])
 (.block 0 (.loop (.seq (.seq (.reg [⟨(some 15), none, .mov (.t 10)⟩,
    ⟨(some 16), none, .bin .lss .no (.t 15) (.c (.raw (.int .i64 5)))⟩])
  (.cond (.t 16)
   .skip
   (.exit 0)))
  (.seq (.block 1 (.seq (.block 2 (.loop (.seq (.seq (.draw [⟨(some 19), none, .mov (.t 9)⟩,
     ⟨(some 20), none, .mov (.t 2)⟩,
     ⟨(some 21), none, .bin .lss .no (.t 19) (.t 20)⟩,
     ⟨(some 22), none, .mov (.t 21)⟩,
     ⟨(some 23), (some (22, true)), .mov (.t 3)⟩,
     ⟨(some 24), (some (22, true)), .mov (.t 0)⟩,
     ⟨(some 25), (some (22, true)), .mov (.t 9)⟩,
     ⟨(some 26), (some (22, true)), .iaddr 2 none (.t 24) (.t 25)⟩,
     ⟨(some 27), (some (22, true)), .load (some 2) (.t 26)⟩,
     ⟨(some 28), (some (22, true)), .mov (.t 0)⟩,
     ⟨(some 29), (some (22, true)), .mov (.t 9)⟩,
     ⟨(some 30), (some (22, true)), .bin .sub .no (.t 29) (.c (.raw (.int .i64 1)))⟩,
     ⟨(some 31), (some (22, true)), .iaddr 2 none (.t 28) (.t 30)⟩,
     ⟨(some 32), (some (22, true)), .load (some 2) (.t 31)⟩,
     ⟨(some 33), (some (22, true)), .callv (.t 23) [(.t 27), (.t 32)]⟩,
     ⟨(some 34), (some (22, true)), .bin .lss .no (.t 33) (.c (.raw (.int .i64 0)))⟩,
     ⟨(some 35), (some (22, true)), .un .not (.t 34)⟩,
     ⟨(some 36), none, .pick (.t 22) (.t 35) (.c (.kb false))⟩]
     (.fl 0 (.fl 1 (.fl 2 (.fl 3 (.fl 4 (.fl 5 (.fl 6 (.fr 7 (.fr 8 (.fl 9 (.fl 10 (.fl 11 (.fr 12 (.fr 13 (.st 14 [] (.fl 15 (.fl 16 (.fl 17 .done)))))))))))))))))))
   (.cond (.t 36)
    .skip
    (.exit 2)))
   (.block 3 (.reg [⟨(some 37), none, .mov (.t 9)⟩,
     ⟨(some 38), none, .bin .add .no (.t 37) (.c (.raw (.int .i64 1)))⟩,
     ⟨(some 9), none, .mov (.t 38)⟩])))))
  (.seq (.seq (.reg [⟨(some 39), none, .mov (.t 9)⟩,
    ⟨(some 40), none, .mov (.t 2)⟩,
    ⟨(some 41), none, .bin .eql .no (.t 39) (.t 40)⟩])
  (.cond (.t 41)
   (.seq (.reg [⟨(some 8), none, .mov (.c (.kb true))⟩])
   .ret)
   .skip))
  (.seq (.seq (.reg [⟨(some 42), none, .mov (.t 2)⟩,
    ⟨(some 43), none, .mov (.t 1)⟩,
    ⟨(some 44), none, .bin .sub .no (.t 42) (.t 43)⟩,
    ⟨(some 45), none, .bin .lss .no (.t 44) (.c (.raw (.int .i64 50)))⟩])
  (.cond (.t 45)
   (.seq (.reg [⟨(some 8), none, .mov (.c (.kb false))⟩])
   .ret)
   .skip))
  (.seq (.draw [⟨(some 46), none, .mov (.t 0)⟩,
    ⟨(some 47), none, .mov (.t 9)⟩,
    ⟨(some 48), none, .mov (.t 0)⟩,
    ⟨(some 49), none, .mov (.t 9)⟩,
    ⟨(some 50), none, .bin .sub .no (.t 49) (.c (.raw (.int .i64 1)))⟩,
    ⟨(some 51), none, .mov (.t 0)⟩,
    ⟨(some 52), none, .mov (.t 9)⟩,
    ⟨(some 53), none, .bin .sub .no (.t 52) (.c (.raw (.int .i64 1)))⟩,
    ⟨(some 54), none, .iaddr 2 none (.t 51) (.t 53)⟩,
    ⟨(some 55), none, .load (some 2) (.t 54)⟩,
    ⟨(some 56), none, .mov (.t 0)⟩,
    ⟨(some 57), none, .mov (.t 9)⟩,
    ⟨(some 58), none, .iaddr 2 none (.t 56) (.t 57)⟩,
    ⟨(some 59), none, .load (some 2) (.t 58)⟩,
    ⟨(some 60), none, .iaddr 2 none (.t 46) (.t 47)⟩,
    ⟨none, none, .store (some 2) (.t 60) (.t 55)⟩,
    ⟨(some 61), none, .iaddr 2 none (.t 48) (.t 50)⟩,
    ⟨none, none, .store (some 2) (.t 61) (.t 59)⟩]
    (.fl 0 (.fl 1 (.fl 2 (.fl 3 (.fl 4 (.fl 5 (.fl 6 (.fl 7 (.fr 8 (.fr 9 (.fl 10 (.fl 11 (.fr 12 (.fr 13 (.fr 14 (.st 15 [] (.fr 16 (.st 17 [] .done)))))))))))))))))))
  (.seq (.seq (.reg [⟨(some 62), none, .mov (.t 9)⟩,
    ⟨(some 63), none, .mov (.t 1)⟩,
    ⟨(some 64), none, .bin .sub .no (.t 62) (.t 63)⟩,
    ⟨(some 65), none, .bin .geq .no (.t 64) (.c (.raw (.int .i64 2)))⟩])
  (.cond (.t 65)
   (.seq (.reg [⟨(some 66), none, .mov (.t 9)⟩,
     ⟨(some 67), none, .bin .sub .no (.t 66) (.c (.raw (.int .i64 1)))⟩,
     ⟨(some 11), none, .mov (.t 67)⟩])
   (.block 4 (.loop (.seq (.seq (.reg [⟨(some 68), none, .mov (.t 11)⟩,
      ⟨(some 69), none, .bin .geq .no (.t 68) (.c (.raw (.int .i64 1)))⟩])
    (.cond (.t 69)
     .skip
     (.exit 4)))
    (.seq (.block 5 (.seq (.seq (.draw [⟨(some 72), none, .mov (.t 3)⟩,
      ⟨(some 73), none, .mov (.t 0)⟩,
      ⟨(some 74), none, .mov (.t 11)⟩,
      ⟨(some 75), none, .iaddr 2 none (.t 73) (.t 74)⟩,
      ⟨(some 76), none, .load (some 2) (.t 75)⟩,
      ⟨(some 77), none, .mov (.t 0)⟩,
      ⟨(some 78), none, .mov (.t 11)⟩,
      ⟨(some 79), none, .bin .sub .no (.t 78) (.c (.raw (.int .i64 1)))⟩,
      ⟨(some 80), none, .iaddr 2 none (.t 77) (.t 79)⟩,
      ⟨(some 81), none, .load (some 2) (.t 80)⟩,
      ⟨(some 82), none, .callv (.t 72) [(.t 76), (.t 81)]⟩,
      ⟨(some 83), none, .bin .lss .no (.t 82) (.c (.raw (.int .i64 0)))⟩,
      ⟨(some 84), none, .un .not (.t 83)⟩]
      (.fl 0 (.fl 1 (.fl 2 (.fr 3 (.fr 4 (.fl 5 (.fl 6 (.fl 7 (.fr 8 (.fr 9 (.st 10 [] (.fl 11 (.fl 12 .done))))))))))))))
    (.cond (.t 84)
     (.exit 4)
     .skip))
    (.draw [⟨(some 85), none, .mov (.t 0)⟩,
      ⟨(some 86), none, .mov (.t 11)⟩,
      ⟨(some 87), none, .mov (.t 0)⟩,
      ⟨(some 88), none, .mov (.t 11)⟩,
      ⟨(some 89), none, .bin .sub .no (.t 88) (.c (.raw (.int .i64 1)))⟩,
      ⟨(some 90), none, .mov (.t 0)⟩,
      ⟨(some 91), none, .mov (.t 11)⟩,
      ⟨(some 92), none, .bin .sub .no (.t 91) (.c (.raw (.int .i64 1)))⟩,
      ⟨(some 93), none, .iaddr 2 none (.t 90) (.t 92)⟩,
      ⟨(some 94), none, .load (some 2) (.t 93)⟩,
      ⟨(some 95), none, .mov (.t 0)⟩,
      ⟨(some 96), none, .mov (.t 11)⟩,
      ⟨(some 97), none, .iaddr 2 none (.t 95) (.t 96)⟩,
      ⟨(some 98), none, .load (some 2) (.t 97)⟩,
      ⟨(some 99), none, .iaddr 2 none (.t 85) (.t 86)⟩,
      ⟨none, none, .store (some 2) (.t 99) (.t 94)⟩,
      ⟨(some 100), none, .iaddr 2 none (.t 87) (.t 89)⟩,
      ⟨none, none, .store (some 2) (.t 100) (.t 98)⟩]
      (.fl 0 (.fl 1 (.fl 2 (.fl 3 (.fl 4 (.fl 5 (.fl 6 (.fl 7 (.fr 8 (.fr 9 (.fl 10 (.fl 11 (.fr 12 (.fr 13 (.fr 14 (.st 15 [] (.fr 16 (.st 17 [] .done)))))))))))))))))))))
    (.reg [⟨(some 70), none, .mov (.t 11)⟩,
      ⟨(some 71), none, .bin .sub .no (.t 70) (.c (.raw (.int .i64 1)))⟩,
      ⟨(some 11), none, .mov (.t 71)⟩]))))))
   .skip))
  (.seq (.reg [⟨(some 101), none, .mov (.t 2)⟩,
    ⟨(some 102), none, .mov (.t 9)⟩,
    ⟨(some 103), none, .bin .sub .no (.t 101) (.t 102)⟩,
    ⟨(some 104), none, .bin .geq .no (.t 103) (.c (.raw (.int .i64 2)))⟩])
  (.cond (.t 104)
   (.seq (.reg [⟨(some 105), none, .mov (.t 9)⟩,
     ⟨(some 106), none, .bin .add .no (.t 105) (.c (.raw (.int .i64 1)))⟩,
     ⟨(some 12), none, .mov (.t 106)⟩])
   (.block 6 (.loop (.seq (.seq (.reg [⟨(some 107), none, .mov (.t 12)⟩,
      ⟨(some 108), none, .mov (.t 2)⟩,
      ⟨(some 109), none, .bin .lss .no (.t 107) (.t 108)⟩])
    (.cond (.t 109)
     .skip
     (.exit 6)))
    (.seq (.block 7 (.seq (.seq (.draw [⟨(some 112), none, .mov (.t 3)⟩,
      ⟨(some 113), none, .mov (.t 0)⟩,
      ⟨(some 114), none, .mov (.t 12)⟩,
      ⟨(some 115), none, .iaddr 2 none (.t 113) (.t 114)⟩,
      ⟨(some 116), none, .load (some 2) (.t 115)⟩,
      ⟨(some 117), none, .mov (.t 0)⟩,
      ⟨(some 118), none, .mov (.t 12)⟩,
      ⟨(some 119), none, .bin .sub .no (.t 118) (.c (.raw (.int .i64 1)))⟩,
      ⟨(some 120), none, .iaddr 2 none (.t 117) (.t 119)⟩,
      ⟨(some 121), none, .load (some 2) (.t 120)⟩,
      ⟨(some 122), none, .callv (.t 112) [(.t 116), (.t 121)]⟩,
      ⟨(some 123), none, .bin .lss .no (.t 122) (.c (.raw (.int .i64 0)))⟩,
      ⟨(some 124), none, .un .not (.t 123)⟩]
      (.fl 0 (.fl 1 (.fl 2 (.fr 3 (.fr 4 (.fl 5 (.fl 6 (.fl 7 (.fr 8 (.fr 9 (.st 10 [] (.fl 11 (.fl 12 .done))))))))))))))
    (.cond (.t 124)
     (.exit 6)
     .skip))
    (.draw [⟨(some 125), none, .mov (.t 0)⟩,
      ⟨(some 126), none, .mov (.t 12)⟩,
      ⟨(some 127), none, .mov (.t 0)⟩,
      ⟨(some 128), none, .mov (.t 12)⟩,
      ⟨(some 129), none, .bin .sub .no (.t 128) (.c (.raw (.int .i64 1)))⟩,
      ⟨(some 130), none, .mov (.t 0)⟩,
      ⟨(some 131), none, .mov (.t 12)⟩,
      ⟨(some 132), none, .bin .sub .no (.t 131) (.c (.raw (.int .i64 1)))⟩,
      ⟨(some 133), none, .iaddr 2 none (.t 130) (.t 132)⟩,
      ⟨(some 134), none, .load (some 2) (.t 133)⟩,
      ⟨(some 135), none, .mov (.t 0)⟩,
      ⟨(some 136), none, .mov (.t 12)⟩,
      ⟨(some 137), none, .iaddr 2 none (.t 135) (.t 136)⟩,
      ⟨(some 138), none, .load (some 2) (.t 137)⟩,
      ⟨(some 139), none, .iaddr 2 none (.t 125) (.t 126)⟩,
      ⟨none, none, .store (some 2) (.t 139) (.t 134)⟩,
      ⟨(some 140), none, .iaddr 2 none (.t 127) (.t 129)⟩,
      ⟨none, none, .store (some 2) (.t 140) (.t 138)⟩]
      (.fl 0 (.fl 1 (.fl 2 (.fl 3 (.fl 4 (.fl 5 (.fl 6 (.fl 7 (.fr 8 (.fr 9 (.fl 10 (.fl 11 (.fr 12 (.fr 13 (.fr 14 (.st 15 [] (.fr 16 (.st 17 [] .done)))))))))))))))))))))
    (.reg [⟨(some 110), none, .mov (.t 12)⟩,
      ⟨(some 111), none, .bin .add .no (.t 110) (.c (.raw (.int .i64 1)))⟩,
      ⟨(some 12), none, .mov (.t 111)⟩]))))))
   .skip))))))))
  (.reg [⟨(some 17), none, .mov (.t 10)⟩,
    ⟨(some 18), none, .bin .add .no (.t 17) (.c (.raw (.int .i64 1)))⟩,
    ⟨(some 10), none, .mov (.t 18)⟩]))))))
 (.seq (.reg [⟨(some 8), none, .mov (.c (.kb false))⟩])
 .ret))))
theorem i_slices_partialInsertionSortCmpFunc_api_Dot : Is Tryd.prog 89 141 [.t 8] c_slices_partialInsertionSortCmpFunc_api_Dot := ⟨Tryd.f89, _, p_slices_partialInsertionSortCmpFunc_api_Dot, rfl, rfl, by kernel_rfl, by kernel_rfl, rfl⟩
def p_slices_partitionEqualCmpFunc_api_Dot : List (Nat × Pl) := [(1, (.fl 0 (.fl 1 (.fl 2 (.fl 3 (.fl 4 (.fl 5 (.fr 6 (.fr 7 (.fl 8 (.fl 9 (.fr 10 (.fr 11 (.fr 12 (.st 13 [] (.fr 14 (.st 15 [] .done))))))))))))))))), (3, (.fl 0 (.fl 1 (.fl 2 (.fl 3 (.fl 4 (.fl 5 (.fl 6 (.fr 7 (.fr 8 (.fl 9 (.fl 10 (.fr 11 (.fr 12 (.st 13 [] (.fl 14 (.fl 15 (.fl 16 .done)))))))))))))))))), (5, (.fl 0 (.fl 1 (.fl 2 (.fl 3 (.fl 4 (.fl 5 (.fl 6 (.fr 7 (.fr 8 (.fl 9 (.fl 10 (.fr 11 (.fr 12 (.st 13 [] (.fl 14 (.fl 15 .done))))))))))))))))), (8, (.fl 0 (.fl 1 (.fl 2 (.fl 3 (.fl 4 (.fl 5 (.fr 6 (.fr 7 (.fl 8 (.fl 9 (.fr 10 (.fr 11 (.fr 12 (.st 13 [] (.fr 14 (.st 15 [] .done)))))))))))))))))]
def c_slices_partitionEqualCmpFunc_api_Dot : VCode :=
 (.seq (.reg [⟨(some 10), none, .mov (.c (.raw (.int .i64 0)))⟩])
 (.seq (.draw [⟨(some 13), none, .mov (.t 0)⟩,
   ⟨(some 14), none, .mov (.t 1)⟩,
   ⟨(some 15), none, .mov (.t 0)⟩,
   ⟨(some 16), none, .mov (.t 3)⟩,
   ⟨(some 17), none, .mov (.t 0)⟩,
   ⟨(some 18), none, .mov (.t 3)⟩,
   ⟨(some 19), none, .iaddr 2 none (.t 17) (.t 18)⟩,
   ⟨(some 20), none, .load (some 2) (.t 19)⟩,
   ⟨(some 21), none, .mov (.t 0)⟩,
   ⟨(some 22), none, .mov (.t 1)⟩,
   ⟨(some 23), none, .iaddr 2 none (.t 21) (.t 22)⟩,
   ⟨(some 24), none, .load (some 2) (.t 23)⟩,
   ⟨(some 25), none, .iaddr 2 none (.t 13) (.t 14)⟩,
   ⟨none, none, .store (some 2) (.t 25) (.t 20)⟩,
   ⟨(some 26), none, .iaddr 2 none (.t 15) (.t 16)⟩,
   ⟨none, none, .store (some 2) (.t 26) (.t 24)⟩]
   (.fl 0 (.fl 1 (.fl 2 (.fl 3 (.fl 4 (.fl 5 (.fr 6 (.fr 7 (.fl 8 (.fl 9 (.fr 10 (.fr 11 (.fr 12 (.st 13 [] (.fr 14 (.st 15 [] .done)))))))))))))))))
 (.seq (.reg [⟨(some 27), none, .mov (.t 1)⟩,
   ⟨(some 28), none, .bin .add .no (.t 27) (.c (.raw (.int .i64 1)))⟩,
   ⟨(some 29), none, .mov (.t 2)⟩,
   ⟨(some 30), none, .bin .sub .no (.t 29) (.c (.raw (.int .i64 1)))⟩,
   ⟨(some 11), none, .mov (.t 28)⟩,
   ⟨(some 12), none, .mov (.t 30)⟩])
 (.seq (.block 0 (.loop (.block 1 (.seq (.block 2 (.loop (.seq (.seq (.draw [⟨(some 31), none, .mov (.t 11)⟩,
     ⟨(some 32), none, .mov (.t 12)⟩,
     ⟨(some 33), none, .bin .leq .no (.t 31) (.t 32)⟩,
     ⟨(some 34), none, .mov (.t 33)⟩,
     ⟨(some 35), (some (34, true)), .mov (.t 4)⟩,
     ⟨(some 36), (some (34, true)), .mov (.t 0)⟩,
     ⟨(some 37), (some (34, true)), .mov (.t 1)⟩,
     ⟨(some 38), (some (34, true)), .iaddr 2 none (.t 36) (.t 37)⟩,
     ⟨(some 39), (some (34, true)), .load (some 2) (.t 38)⟩,
     ⟨(some 40), (some (34, true)), .mov (.t 0)⟩,
     ⟨(some 41), (some (34, true)), .mov (.t 11)⟩,
     ⟨(some 42), (some (34, true)), .iaddr 2 none (.t 40) (.t 41)⟩,
     ⟨(some 43), (some (34, true)), .load (some 2) (.t 42)⟩,
     ⟨(some 44), (some (34, true)), .callv (.t 35) [(.t 39), (.t 43)]⟩,
     ⟨(some 45), (some (34, true)), .bin .lss .no (.t 44) (.c (.raw (.int .i64 0)))⟩,
     ⟨(some 46), (some (34, true)), .un .not (.t 45)⟩,
     ⟨(some 47), none, .pick (.t 34) (.t 46) (.c (.kb false))⟩]
     (.fl 0 (.fl 1 (.fl 2 (.fl 3 (.fl 4 (.fl 5 (.fl 6 (.fr 7 (.fr 8 (.fl 9 (.fl 10 (.fr 11 (.fr 12 (.st 13 [] (.fl 14 (.fl 15 (.fl 16 .done))))))))))))))))))
   (.cond (.t 47)
    .skip
    (.exit 2)))
   (.block 3 (.reg [⟨(some 48), none, .mov (.t 11)⟩,
     ⟨(some 49), none, .bin .add .no (.t 48) (.c (.raw (.int .i64 1)))⟩,
     ⟨(some 11), none, .mov (.t 49)⟩])))))
  (.seq (.block 4 (.loop (.seq (.seq (.draw [⟨(some 50), none, .mov (.t 11)⟩,
     ⟨(some 51), none, .mov (.t 12)⟩,
     ⟨(some 52), none, .bin .leq .no (.t 50) (.t 51)⟩,
     ⟨(some 53), none, .mov (.t 52)⟩,
     ⟨(some 54), (some (53, true)), .mov (.t 4)⟩,
     ⟨(some 55), (some (53, true)), .mov (.t 0)⟩,
     ⟨(some 56), (some (53, true)), .mov (.t 1)⟩,
     ⟨(some 57), (some (53, true)), .iaddr 2 none (.t 55) (.t 56)⟩,
     ⟨(some 58), (some (53, true)), .load (some 2) (.t 57)⟩,
     ⟨(some 59), (some (53, true)), .mov (.t 0)⟩,
     ⟨(some 60), (some (53, true)), .mov (.t 12)⟩,
     ⟨(some 61), (some (53, true)), .iaddr 2 none (.t 59) (.t 60)⟩,
     ⟨(some 62), (some (53, true)), .load (some 2) (.t 61)⟩,
     ⟨(some 63), (some (53, true)), .callv (.t 54) [(.t 58), (.t 62)]⟩,
     ⟨(some 64), (some (53, true)), .bin .lss .no (.t 63) (.c (.raw (.int .i64 0)))⟩,
     ⟨(some 65), none, .pick (.t 53) (.t 64) (.c (.kb false))⟩]
     (.fl 0 (.fl 1 (.fl 2 (.fl 3 (.fl 4 (.fl 5 (.fl 6 (.fr 7 (.fr 8 (.fl 9 (.fl 10 (.fr 11 (.fr 12 (.st 13 [] (.fl 14 (.fl 15 .done)))))))))))))))))
   (.cond (.t 65)
    .skip
    (.exit 4)))
   (.block 5 (.reg [⟨(some 66), none, .mov (.t 12)⟩,
     ⟨(some 67), none, .bin .sub .no (.t 66) (.c (.raw (.int .i64 1)))⟩,
     ⟨(some 12), none, .mov (.t 67)⟩])))))
  (.seq (.seq (.reg [⟨(some 68), none, .mov (.t 11)⟩,
    ⟨(some 69), none, .mov (.t 12)⟩,
    ⟨(some 70), none, .bin .gtr .no (.t 68) (.t 69)⟩])
  (.cond (.t 70)
   (.exit 0)
   .skip))
  (.seq (.draw [⟨(some 71), none, .mov (.t 0)⟩,
    ⟨(some 72), none, .mov (.t 11)⟩,
    ⟨(some 73), none, .mov (.t 0)⟩,
    ⟨(some 74), none, .mov (.t 12)⟩,
    ⟨(some 75), none, .mov (.t 0)⟩,
    ⟨(some 76), none, .mov (.t 12)⟩,
    ⟨(some 77), none, .iaddr 2 none (.t 75) (.t 76)⟩,
    ⟨(some 78), none, .load (some 2) (.t 77)⟩,
    ⟨(some 79), none, .mov (.t 0)⟩,
    ⟨(some 80), none, .mov (.t 11)⟩,
    ⟨(some 81), none, .iaddr 2 none (.t 79) (.t 80)⟩,
    ⟨(some 82), none, .load (some 2) (.t 81)⟩,
    ⟨(some 83), none, .iaddr 2 none (.t 71) (.t 72)⟩,
    ⟨none, none, .store (some 2) (.t 83) (.t 78)⟩,
    ⟨(some 84), none, .iaddr 2 none (.t 73) (.t 74)⟩,
    ⟨none, none, .store (some 2) (.t 84) (.t 82)⟩]
    (.fl 0 (.fl 1 (.fl 2 (.fl 3 (.fl 4 (.fl 5 (.fr 6 (.fr 7 (.fl 8 (.fl 9 (.fr 10 (.fr 11 (.fr 12 (.st 13 [] (.fr 14 (.st 15 [] .done)))))))))))))))))
  (.seq (.reg [⟨(some 85), none, .mov (.t 11)⟩,
    ⟨(some 86), none, .bin .add .no (.t 85) (.c (.raw (.int .i64 1)))⟩,
    ⟨(some 11), none, .mov (.t 86)⟩])
  (.reg [⟨(some 87), none, .mov (.t 12)⟩,
    ⟨(some 88), none, .bin .sub .no (.t 87) (.c (.raw (.int .i64 1)))⟩,
    ⟨(some 12), none, .mov (.t 88)⟩])))))))))
 (.seq (.reg [⟨(some 89), none, .mov (.t 11)⟩,
   ⟨(some 10), none, .mov (.t 89)⟩])
 .ret)))))
theorem i_slices_partitionEqualCmpFunc_api_Dot : Is Tryd.prog 90 90 [.t 10] c_slices_partitionEqualCmpFunc_api_Dot := ⟨Tryd.f90, _, p_slices_partitionEqualCmpFunc_api_Dot, rfl, rfl, by kernel_rfl, by kernel_rfl, rfl⟩
def p_slices_partitionCmpFunc_api_Dot : List (Nat × Pl) := [(1, (.fl 0 (.fl 1 (.fl 2 (.fl 3 (.fl 4 (.fl 5 (.fr 6 (.fr 7 (.fl 8 (.fl 9 (.fr 10 (.fr 11 (.fr 12 (.st 13 [] (.fr 14 (.st 15 [] .done))))))))))))))))), (3, (.fl 0 (.fl 1 (.fl 2 (.fl 3 (.fl 4 (.fl 5 (.fl 6 (.fr 7 (.fr 8 (.fl 9 (.fl 10 (.fr 11 (.fr 12 (.st 13 [] (.fl 14 (.fl 15 .done))))))))))))))))), (5, (.fl 0 (.fl 1 (.fl 2 (.fl 3 (.fl 4 (.fl 5 (.fl 6 (.fr 7 (.fr 8 (.fl 9 (.fl 10 (.fr 11 (.fr 12 (.st 13 [] (.fl 14 (.fl 15 (.fl 16 .done)))))))))))))))))), (8, (.fl 0 (.fl 1 (.fl 2 (.fl 3 (.fl 4 (.fl 5 (.fr 6 (.fr 7 (.fl 8 (.fl 9 (.fr 10 (.fr 11 (.fr 12 (.st 13 [] (.fr 14 (.st 15 [] .done))))))))))))))))), (10, (.fl 0 (.fl 1 (.fl 2 (.fl 3 (.fl 4 (.fl 5 (.fr 6 (.fr 7 (.fl 8 (.fl 9 (.fr 10 (.fr 11 (.fr 12 (.st 13 [] (.fr 14 (.st 15 [] .done))))))))))))))))), (13, (.fl 0 (.fl 1 (.fl 2 (.fl 3 (.fl 4 (.fl 5 (.fl 6 (.fr 7 (.fr 8 (.fl 9 (.fl 10 (.fr 11 (.fr 12 (.st 13 [] (.fl 14 (.fl 15 .done))))))))))))))))), (15, (.fl 0 (.fl 1 (.fl 2 (.fl 3 (.fl 4 (.fl 5 (.fl 6 (.fr 7 (.fr 8 (.fl 9 (.fl 10 (.fr 11 (.fr 12 (.st 13 [] (.fl 14 (.fl 15 (.fl 16 .done)))))))))))))))))), (18, (.fl 0 (.fl 1 (.fl 2 (.fl 3 (.fl 4 (.fl 5 (.fr 6 (.fr 7 (.fl 8 (.fl 9 (.fr 10 (.fr 11 (.fr 12 (.st 13 [] (.fr 14 (.st 15 [] .done))))))))))))))))), (21, (.fl 0 (.fl 1 (.fl 2 (.fl 3 (.fl 4 (.fl 5 (.fr 6 (.fr 7 (.fl 8 (.fl 9 (.fr 10 (.fr 11 (.fr 12 (.st 13 [] (.fr 14 (.st 15 [] .done)))))))))))))))))]
def c_slices_partitionCmpFunc_api_Dot : VCode :=
 (.seq (.reg [⟨(some 10), none, .mov (.c (.raw (.int .i64 0)))⟩,
   ⟨(some 11), none, .mov (.c (.kb false))⟩])
 (.seq (.draw [⟨(some 14), none, .mov (.t 0)⟩,
   ⟨(some 15), none, .mov (.t 1)⟩,
   ⟨(some 16), none, .mov (.t 0)⟩,
   ⟨(some 17), none, .mov (.t 3)⟩,
   ⟨(some 18), none, .mov (.t 0)⟩,
   ⟨(some 19), none, .mov (.t 3)⟩,
   ⟨(some 20), none, .iaddr 2 none (.t 18) (.t 19)⟩,
   ⟨(some 21), none, .load (some 2) (.t 20)⟩,
   ⟨(some 22), none, .mov (.t 0)⟩,
   ⟨(some 23), none, .mov (.t 1)⟩,
   ⟨(some 24), none, .iaddr 2 none (.t 22) (.t 23)⟩,
   ⟨(some 25), none, .load (some 2) (.t 24)⟩,
   ⟨(some 26), none, .iaddr 2 none (.t 14) (.t 15)⟩,
   ⟨none, none, .store (some 2) (.t 26) (.t 21)⟩,
   ⟨(some 27), none, .iaddr 2 none (.t 16) (.t 17)⟩,
   ⟨none, none, .store (some 2) (.t 27) (.t 25)⟩]
   (.fl 0 (.fl 1 (.fl 2 (.fl 3 (.fl 4 (.fl 5 (.fr 6 (.fr 7 (.fl 8 (.fl 9 (.fr 10 (.fr 11 (.fr 12 (.st 13 [] (.fr 14 (.st 15 [] .done)))))))))))))))))
 (.seq (.reg [⟨(some 28), none, .mov (.t 1)⟩,
   ⟨(some 29), none, .bin .add .no (.t 28) (.c (.raw (.int .i64 1)))⟩,
   ⟨(some 30), none, .mov (.t 2)⟩,
   ⟨(some 31), none, .bin .sub .no (.t 30) (.c (.raw (.int .i64 1)))⟩,
   ⟨(some 12), none, .mov (.t 29)⟩,
   ⟨(some 13), none, .mov (.t 31)⟩])
 (.seq (.block 0 (.loop (.seq (.seq (.draw [⟨(some 32), none, .mov (.t 12)⟩,
    ⟨(some 33), none, .mov (.t 13)⟩,
    ⟨(some 34), none, .bin .leq .no (.t 32) (.t 33)⟩,
    ⟨(some 35), none, .mov (.t 34)⟩,
    ⟨(some 36), (some (35, true)), .mov (.t 4)⟩,
    ⟨(some 37), (some (35, true)), .mov (.t 0)⟩,
    ⟨(some 38), (some (35, true)), .mov (.t 12)⟩,
    ⟨(some 39), (some (35, true)), .iaddr 2 none (.t 37) (.t 38)⟩,
    ⟨(some 40), (some (35, true)), .load (some 2) (.t 39)⟩,
    ⟨(some 41), (some (35, true)), .mov (.t 0)⟩,
    ⟨(some 42), (some (35, true)), .mov (.t 1)⟩,
    ⟨(some 43), (some (35, true)), .iaddr 2 none (.t 41) (.t 42)⟩,
    ⟨(some 44), (some (35, true)), .load (some 2) (.t 43)⟩,
    ⟨(some 45), (some (35, true)), .callv (.t 36) [(.t 40), (.t 44)]⟩,
    ⟨(some 46), (some (35, true)), .bin .lss .no (.t 45) (.c (.raw (.int .i64 0)))⟩,
    ⟨(some 47), none, .pick (.t 35) (.t 46) (.c (.kb false))⟩]
    (.fl 0 (.fl 1 (.fl 2 (.fl 3 (.fl 4 (.fl 5 (.fl 6 (.fr 7 (.fr 8 (.fl 9 (.fl 10 (.fr 11 (.fr 12 (.st 13 [] (.fl 14 (.fl 15 .done)))))))))))))))))
  (.cond (.t 47)
   .skip
   (.exit 0)))
  (.block 1 (.reg [⟨(some 48), none, .mov (.t 12)⟩,
    ⟨(some 49), none, .bin .add .no (.t 48) (.c (.raw (.int .i64 1)))⟩,
    ⟨(some 12), none, .mov (.t 49)⟩])))))
 (.seq (.block 2 (.loop (.seq (.seq (.draw [⟨(some 50), none, .mov (.t 12)⟩,
    ⟨(some 51), none, .mov (.t 13)⟩,
    ⟨(some 52), none, .bin .leq .no (.t 50) (.t 51)⟩,
    ⟨(some 53), none, .mov (.t 52)⟩,
    ⟨(some 54), (some (53, true)), .mov (.t 4)⟩,
    ⟨(some 55), (some (53, true)), .mov (.t 0)⟩,
    ⟨(some 56), (some (53, true)), .mov (.t 13)⟩,
    ⟨(some 57), (some (53, true)), .iaddr 2 none (.t 55) (.t 56)⟩,
    ⟨(some 58), (some (53, true)), .load (some 2) (.t 57)⟩,
    ⟨(some 59), (some (53, true)), .mov (.t 0)⟩,
    ⟨(some 60), (some (53, true)), .mov (.t 1)⟩,
    ⟨(some 61), (some (53, true)), .iaddr 2 none (.t 59) (.t 60)⟩,
    ⟨(some 62), (some (53, true)), .load (some 2) (.t 61)⟩,
    ⟨(some 63), (some (53, true)), .callv (.t 54) [(.t 58), (.t 62)]⟩,
    ⟨(some 64), (some (53, true)), .bin .lss .no (.t 63) (.c (.raw (.int .i64 0)))⟩,
    ⟨(some 65), (some (53, true)), .un .not (.t 64)⟩,
    ⟨(some 66), none, .pick (.t 53) (.t 65) (.c (.kb false))⟩]
    (.fl 0 (.fl 1 (.fl 2 (.fl 3 (.fl 4 (.fl 5 (.fl 6 (.fr 7 (.fr 8 (.fl 9 (.fl 10 (.fr 11 (.fr 12 (.st 13 [] (.fl 14 (.fl 15 (.fl 16 .done))))))))))))))))))
  (.cond (.t 66)
   .skip
   (.exit 2)))
  (.block 3 (.reg [⟨(some 67), none, .mov (.t 13)⟩,
    ⟨(some 68), none, .bin .sub .no (.t 67) (.c (.raw (.int .i64 1)))⟩,
    ⟨(some 13), none, .mov (.t 68)⟩])))))
 (.seq (.seq (.reg [⟨(some 69), none, .mov (.t 12)⟩,
   ⟨(some 70), none, .mov (.t 13)⟩,
   ⟨(some 71), none, .bin .gtr .no (.t 69) (.t 70)⟩])
 (.cond (.t 71)
  (.seq (.draw [⟨(some 72), none, .mov (.t 0)⟩,
    ⟨(some 73), none, .mov (.t 13)⟩,
    ⟨(some 74), none, .mov (.t 0)⟩,
    ⟨(some 75), none, .mov (.t 1)⟩,
    ⟨(some 76), none, .mov (.t 0)⟩,
    ⟨(some 77), none, .mov (.t 1)⟩,
    ⟨(some 78), none, .iaddr 2 none (.t 76) (.t 77)⟩,
    ⟨(some 79), none, .load (some 2) (.t 78)⟩,
    ⟨(some 80), none, .mov (.t 0)⟩,
    ⟨(some 81), none, .mov (.t 13)⟩,
    ⟨(some 82), none, .iaddr 2 none (.t 80) (.t 81)⟩,
    ⟨(some 83), none, .load (some 2) (.t 82)⟩,
    ⟨(some 84), none, .iaddr 2 none (.t 72) (.t 73)⟩,
    ⟨none, none, .store (some 2) (.t 84) (.t 79)⟩,
    ⟨(some 85), none, .iaddr 2 none (.t 74) (.t 75)⟩,
    ⟨none, none, .store (some 2) (.t 85) (.t 83)⟩]
    (.fl 0 (.fl 1 (.fl 2 (.fl 3 (.fl 4 (.fl 5 (.fr 6 (.fr 7 (.fl 8 (.fl 9 (.fr 10 (.fr 11 (.fr 12 (.st 13 [] (.fr 14 (.st 15 [] .done)))))))))))))))))
  (.seq (.reg [⟨(some 86), none, .mov (.t 13)⟩,
    ⟨(some 10), none, .mov (.t 86)⟩,
    ⟨(some 11), none, .mov (.c (.kb true))⟩])
  .ret))
  .skip))
 (.seq (.draw [⟨(some 87), none, .mov (.t 0)⟩,
   ⟨(some 88), none, .mov (.t 12)⟩,
   ⟨(some 89), none, .mov (.t 0)⟩,
   ⟨(some 90), none, .mov (.t 13)⟩,
   ⟨(some 91), none, .mov (.t 0)⟩,
   ⟨(some 92), none, .mov (.t 13)⟩,
   ⟨(some 93), none, .iaddr 2 none (.t 91) (.t 92)⟩,
   ⟨(some 94), none, .load (some 2) (.t 93)⟩,
   ⟨(some 95), none, .mov (.t 0)⟩,
   ⟨(some 96), none, .mov (.t 12)⟩,
   ⟨(some 97), none, .iaddr 2 none (.t 95) (.t 96)⟩,
   ⟨(some 98), none, .load (some 2) (.t 97)⟩,
   ⟨(some 99), none, .iaddr 2 none (.t 87) (.t 88)⟩,
   ⟨none, none, .store (some 2) (.t 99) (.t 94)⟩,
   ⟨(some 100), none, .iaddr 2 none (.t 89) (.t 90)⟩,
   ⟨none, none, .store (some 2) (.t 100) (.t 98)⟩]
   (.fl 0 (.fl 1 (.fl 2 (.fl 3 (.fl 4 (.fl 5 (.fr 6 (.fr 7 (.fl 8 (.fl 9 (.fr 10 (.fr 11 (.fr 12 (.st 13 [] (.fr 14 (.st 15 [] .done)))))))))))))))))
 (.seq (.reg [⟨(some 101), none, .mov (.t 12)⟩,
   ⟨(some 102), none, .bin .add .no (.t 101) (.c (.raw (.int .i64 1)))⟩,
   ⟨(some 12), none, .mov (.t 102)⟩])
 (.seq (.reg [⟨(some 103), none, .mov (.t 13)⟩,
   ⟨(some 104), none, .bin .sub .no (.t 103) (.c (.raw (.int .i64 1)))⟩,
   ⟨(some 13), none, .mov (.t 104)⟩])
 (.seq (.block 4 (.loop (.block 5 (.seq (.block 6 (.loop (.seq (.seq (.draw [⟨(some 105), none, .mov (.t 12)⟩,
     ⟨(some 106), none, .mov (.t 13)⟩,
     ⟨(some 107), none, .bin .leq .no (.t 105) (.t 106)⟩,
     ⟨(some 108), none, .mov (.t 107)⟩,
     ⟨(some 109), (some (108, true)), .mov (.t 4)⟩,
     ⟨(some 110), (some (108, true)), .mov (.t 0)⟩,
     ⟨(some 111), (some (108, true)), .mov (.t 12)⟩,
     ⟨(some 112), (some (108, true)), .iaddr 2 none (.t 110) (.t 111)⟩,
     ⟨(some 113), (some (108, true)), .load (some 2) (.t 112)⟩,
     ⟨(some 114), (some (108, true)), .mov (.t 0)⟩,
     ⟨(some 115), (some (108, true)), .mov (.t 1)⟩,
     ⟨(some 116), (some (108, true)), .iaddr 2 none (.t 114) (.t 115)⟩,
     ⟨(some 117), (some (108, true)), .load (some 2) (.t 116)⟩,
     ⟨(some 118), (some (108, true)), .callv (.t 109) [(.t 113), (.t 117)]⟩,
     ⟨(some 119), (some (108, true)), .bin .lss .no (.t 118) (.c (.raw (.int .i64 0)))⟩,
     ⟨(some 120), none, .pick (.t 108) (.t 119) (.c (.kb false))⟩]
     (.fl 0 (.fl 1 (.fl 2 (.fl 3 (.fl 4 (.fl 5 (.fl 6 (.fr 7 (.fr 8 (.fl 9 (.fl 10 (.fr 11 (.fr 12 (.st 13 [] (.fl 14 (.fl 15 .done)))))))))))))))))
   (.cond (.t 120)
    .skip
    (.exit 6)))
   (.block 7 (.reg [⟨(some 121), none, .mov (.t 12)⟩,
     ⟨(some 122), none, .bin .add .no (.t 121) (.c (.raw (.int .i64 1)))⟩,
     ⟨(some 12), none, .mov (.t 122)⟩])))))
  (.seq (.block 8 (.loop (.seq (.seq (.draw [⟨(some 123), none, .mov (.t 12)⟩,
     ⟨(some 124), none, .mov (.t 13)⟩,
     ⟨(some 125), none, .bin .leq .no (.t 123) (.t 124)⟩,
     ⟨(some 126), none, .mov (.t 125)⟩,
     ⟨(some 127), (some (126, true)), .mov (.t 4)⟩,
     ⟨(some 128), (some (126, true)), .mov (.t 0)⟩,
     ⟨(some 129), (some (126, true)), .mov (.t 13)⟩,
     ⟨(some 130), (some (126, true)), .iaddr 2 none (.t 128) (.t 129)⟩,
     ⟨(some 131), (some (126, true)), .load (some 2) (.t 130)⟩,
     ⟨(some 132), (some (126, true)), .mov (.t 0)⟩,
     ⟨(some 133), (some (126, true)), .mov (.t 1)⟩,
     ⟨(some 134), (some (126, true)), .iaddr 2 none (.t 132) (.t 133)⟩,
     ⟨(some 135), (some (126, true)), .load (some 2) (.t 134)⟩,
     ⟨(some 136), (some (126, true)), .callv (.t 127) [(.t 131), (.t 135)]⟩,
     ⟨(some 137), (some (126, true)), .bin .lss .no (.t 136) (.c (.raw (.int .i64 0)))⟩,
     ⟨(some 138), (some (126, true)), .un .not (.t 137)⟩,
     ⟨(some 139), none, .pick (.t 126) (.t 138) (.c (.kb false))⟩]
     (.fl 0 (.fl 1 (.fl 2 (.fl 3 (.fl 4 (.fl 5 (.fl 6 (.fr 7 (.fr 8 (.fl 9 (.fl 10 (.fr 11 (.fr 12 (.st 13 [] (.fl 14 (.fl 15 (.fl 16 .done))))))))))))))))))
   (.cond (.t 139)
    .skip
    (.exit 8)))
   (.block 9 (.reg [⟨(some 140), none, .mov (.t 13)⟩,
     ⟨(some 141), none, .bin .sub .no (.t 140) (.c (.raw (.int .i64 1)))⟩,
     ⟨(some 13), none, .mov (.t 141)⟩])))))
  (.seq (.seq (.reg [⟨(some 142), none, .mov (.t 12)⟩,
    ⟨(some 143), none, .mov (.t 13)⟩,
    ⟨(some 144), none, .bin .gtr .no (.t 142) (.t 143)⟩])
  (.cond (.t 144)
   (.exit 4)
   .skip))
  (.seq (.draw [⟨(some 145), none, .mov (.t 0)⟩,
    ⟨(some 146), none, .mov (.t 12)⟩,
    ⟨(some 147), none, .mov (.t 0)⟩,
    ⟨(some 148), none, .mov (.t 13)⟩,
    ⟨(some 149), none, .mov (.t 0)⟩,
    ⟨(some 150), none, .mov (.t 13)⟩,
    ⟨(some 151), none, .iaddr 2 none (.t 149) (.t 150)⟩,
    ⟨(some 152), none, .load (some 2) (.t 151)⟩,
    ⟨(some 153), none, .mov (.t 0)⟩,
    ⟨(some 154), none, .mov (.t 12)⟩,
    ⟨(some 155), none, .iaddr 2 none (.t 153) (.t 154)⟩,
    ⟨(some 156), none, .load (some 2) (.t 155)⟩,
    ⟨(some 157), none, .iaddr 2 none (.t 145) (.t 146)⟩,
    ⟨none, none, .store (some 2) (.t 157) (.t 152)⟩,
    ⟨(some 158), none, .iaddr 2 none (.t 147) (.t 148)⟩,
    ⟨none, none, .store (some 2) (.t 158) (.t 156)⟩]
    (.fl 0 (.fl 1 (.fl 2 (.fl 3 (.fl 4 (.fl 5 (.fr 6 (.fr 7 (.fl 8 (.fl 9 (.fr 10 (.fr 11 (.fr 12 (.st 13 [] (.fr 14 (.st 15 [] .done)))))))))))))))))
  (.seq (.reg [⟨(some 159), none, .mov (.t 12)⟩,
    ⟨(some 160), none, .bin .add .no (.t 159) (.c (.raw (.int .i64 1)))⟩,
    ⟨(some 12), none, .mov (.t 160)⟩])
  (.reg [⟨(some 161), none, .mov (.t 13)⟩,
    ⟨(some 162), none, .bin .sub .no (.t 161) (.c (.raw (.int .i64 1)))⟩,
    ⟨(some 13), none, .mov (.t 162)⟩])))))))))
 (.seq (.draw [⟨(some 163), none, .mov (.t 0)⟩,
   ⟨(some 164), none, .mov (.t 13)⟩,
   ⟨(some 165), none, .mov (.t 0)⟩,
   ⟨(some 166), none, .mov (.t 1)⟩,
   ⟨(some 167), none, .mov (.t 0)⟩,
   ⟨(some 168), none, .mov (.t 1)⟩,
   ⟨(some 169), none, .iaddr 2 none (.t 167) (.t 168)⟩,
   ⟨(some 170), none, .load (some 2) (.t 169)⟩,
   ⟨(some 171), none, .mov (.t 0)⟩,
   ⟨(some 172), none, .mov (.t 13)⟩,
   ⟨(some 173), none, .iaddr 2 none (.t 171) (.t 172)⟩,
   ⟨(some 174), none, .load (some 2) (.t 173)⟩,
   ⟨(some 175), none, .iaddr 2 none (.t 163) (.t 164)⟩,
   ⟨none, none, .store (some 2) (.t 175) (.t 170)⟩,
   ⟨(some 176), none, .iaddr 2 none (.t 165) (.t 166)⟩,
   ⟨none, none, .store (some 2) (.t 176) (.t 174)⟩]
   (.fl 0 (.fl 1 (.fl 2 (.fl 3 (.fl 4 (.fl 5 (.fr 6 (.fr 7 (.fl 8 (.fl 9 (.fr 10 (.fr 11 (.fr 12 (.st 13 [] (.fr 14 (.st 15 [] .done)))))))))))))))))
 (.seq (.reg [⟨(some 177), none, .mov (.t 13)⟩,
   ⟨(some 10), none, .mov (.t 177)⟩,
   ⟨(some 11), none, .mov (.c (.kb false))⟩])
 .ret))))))))))))
theorem i_slices_partitionCmpFunc_api_Dot : Is Tryd.prog 91 178 [.t 10, .t 11] c_slices_partitionCmpFunc_api_Dot := ⟨Tryd.f91, _, p_slices_partitionCmpFunc_api_Dot, rfl, rfl, by kernel_rfl, by kernel_rfl, rfl⟩
def p_slices_order2Ordered_string : List (Nat × Pl) := [(1, (.fl 0 (.fl 1 (.fr 2 (.fr 3 (.fl 4 (.fl 5 (.fr 6 (.fr 7 (.st 8 [] .done))))))))))]
def c_slices_order2Ordered_string : VCode :=
 (.seq (.reg [⟨(some 8), none, .mov (.c (.raw (.int .i64 0)))⟩,
   ⟨(some 9), none, .mov (.c (.raw (.int .i64 0)))⟩])
 (.seq (.seq (.draw [⟨(some 10), none, .mov (.t 0)⟩,
   ⟨(some 11), none, .mov (.t 2)⟩,
   ⟨(some 12), none, .iaddr 1 none (.t 10) (.t 11)⟩,
   ⟨(some 13), none, .load none (.t 12)⟩,
   ⟨(some 14), none, .mov (.t 0)⟩,
   ⟨(some 15), none, .mov (.t 1)⟩,
   ⟨(some 16), none, .iaddr 1 none (.t 14) (.t 15)⟩,
   ⟨(some 17), none, .load none (.t 16)⟩,
   ⟨(some 18), none, .call 66 [(.t 13), (.t 17)]⟩]
   (.fl 0 (.fl 1 (.fr 2 (.fr 3 (.fl 4 (.fl 5 (.fr 6 (.fr 7 (.st 8 [] .done))))))))))
 (.cond (.t 18)
  (.seq (.reg [⟨(some 19), none, .mov (.t 3)⟩,
    ⟨(some 20), none, .nilck (.t 19)⟩,
    ⟨(some 21), none, .load none (.t 20)⟩,
    ⟨(some 22), none, .bin .add .no (.t 21) (.c (.raw (.int .i64 1)))⟩,
    ⟨(some 23), none, .nilck (.t 19)⟩,
    ⟨none, none, .store none (.t 23) (.t 22)⟩])
  (.seq (.reg [⟨(some 24), none, .mov (.t 2)⟩,
    ⟨(some 25), none, .mov (.t 1)⟩,
    ⟨(some 8), none, .mov (.t 24)⟩,
    ⟨(some 9), none, .mov (.t 25)⟩])
  .ret))
  .skip))
 (.seq (.reg [⟨(some 26), none, .mov (.t 1)⟩,
   ⟨(some 27), none, .mov (.t 2)⟩,
   ⟨(some 8), none, .mov (.t 26)⟩,
   ⟨(some 9), none, .mov (.t 27)⟩])
 .ret)))
theorem i_slices_order2Ordered_string : Is Tryd.prog 92 28 [.t 8, .t 9] c_slices_order2Ordered_string := ⟨Tryd.f92, _, p_slices_order2Ordered_string, rfl, rfl, by kernel_rfl, by kernel_rfl, rfl⟩
def p_slices_siftDownCmpFunc_api_Dot : List (Nat × Pl) := [(3, (.fl 0 (.fl 1 (.fl 2 (.fl 3 (.fl 4 (.fl 5 (.fl 6 (.fl 7 (.fl 8 (.fl 9 (.fr 10 (.fr 11 (.fl 12 (.fl 13 (.fl 14 (.fl 15 (.fl 16 (.fr 17 (.fr 18 (.st 19 [] (.fl 20 (.fl 21 .done))))))))))))))))))))))), (5, (.fl 0 (.fl 1 (.fl 2 (.fl 3 (.fl 4 (.fr 5 (.fr 6 (.fl 7 (.fl 8 (.fl 9 (.fl 10 (.fr 11 (.fr 12 (.st 13 [] (.fl 14 (.fl 15 .done))))))))))))))))), (6, (.fl 0 (.fl 1 (.fl 2 (.fl 3 (.fl 4 (.fl 5 (.fl 6 (.fl 7 (.fl 8 (.fl 9 (.fl 10 (.fl 11 (.fr 12 (.fr 13 (.fl 14 (.fl 15 (.fl 16 (.fl 17 (.fr 18 (.fr 19 (.fr 20 (.st 21 [] (.fr 22 (.st 23 [] .done)))))))))))))))))))))))))]
def c_slices_siftDownCmpFunc_api_Dot : VCode :=
 (.seq (.reg [⟨(some 12), none, .mov (.t 1)⟩,
   ⟨(some 10), none, .mov (.t 12)⟩])
 (.block 0 (.loop (.block 1 (.seq (.reg [⟨(some 13), none, .mov (.t 10)⟩,
    ⟨(some 14), none, .bin .mul .no (.c (.raw (.int .i64 2))) (.t 13)⟩,
    ⟨(some 15), none, .bin .add .no (.t 14) (.c (.raw (.int .i64 1)))⟩,
    ⟨(some 11), none, .mov (.t 15)⟩])
  (.seq (.seq (.reg [⟨(some 16), none, .mov (.t 11)⟩,
    ⟨(some 17), none, .mov (.t 2)⟩,
    ⟨(some 18), none, .bin .geq .no (.t 16) (.t 17)⟩])
  (.cond (.t 18)
   (.exit 0)
   .skip))
  (.seq (.seq (.draw [⟨(some 19), none, .mov (.t 11)⟩,
    ⟨(some 20), none, .bin .add .no (.t 19) (.c (.raw (.int .i64 1)))⟩,
    ⟨(some 21), none, .mov (.t 2)⟩,
    ⟨(some 22), none, .bin .lss .no (.t 20) (.t 21)⟩,
    ⟨(some 23), none, .mov (.t 22)⟩,
    ⟨(some 24), (some (23, true)), .mov (.t 4)⟩,
    ⟨(some 25), (some (23, true)), .mov (.t 0)⟩,
    ⟨(some 26), (some (23, true)), .mov (.t 3)⟩,
    ⟨(some 27), (some (23, true)), .mov (.t 11)⟩,
    ⟨(some 28), (some (23, true)), .bin .add .no (.t 26) (.t 27)⟩,
    ⟨(some 29), (some (23, true)), .iaddr 2 none (.t 25) (.t 28)⟩,
    ⟨(some 30), (some (23, true)), .load (some 2) (.t 29)⟩,
    ⟨(some 31), (some (23, true)), .mov (.t 0)⟩,
    ⟨(some 32), (some (23, true)), .mov (.t 3)⟩,
    ⟨(some 33), (some (23, true)), .mov (.t 11)⟩,
    ⟨(some 34), (some (23, true)), .bin .add .no (.t 32) (.t 33)⟩,
    ⟨(some 35), (some (23, true)), .bin .add .no (.t 34) (.c (.raw (.int .i64 1)))⟩,
    ⟨(some 36), (some (23, true)), .iaddr 2 none (.t 31) (.t 35)⟩,
    ⟨(some 37), (some (23, true)), .load (some 2) (.t 36)⟩,
    ⟨(some 38), (some (23, true)), .callv (.t 24) [(.t 30), (.t 37)]⟩,
    ⟨(some 39), (some (23, true)), .bin .lss .no (.t 38) (.c (.raw (.int .i64 0)))⟩,
    ⟨(some 40), none, .pick (.t 23) (.t 39) (.c (.kb false))⟩]
    (.fl 0 (.fl 1 (.fl 2 (.fl 3 (.fl 4 (.fl 5 (.fl 6 (.fl 7 (.fl 8 (.fl 9 (.fr 10 (.fr 11 (.fl 12 (.fl 13 (.fl 14 (.fl 15 (.fl 16 (.fr 17 (.fr 18 (.st 19 [] (.fl 20 (.fl 21 .done)))))))))))))))))))))))
  (.cond (.t 40)
   (.reg [⟨(some 41), none, .mov (.t 11)⟩,
     ⟨(some 42), none, .bin .add .no (.t 41) (.c (.raw (.int .i64 1)))⟩,
     ⟨(some 11), none, .mov (.t 42)⟩])
   .skip))
  (.seq (.seq (.draw [⟨(some 43), none, .mov (.t 4)⟩,
    ⟨(some 44), none, .mov (.t 0)⟩,
    ⟨(some 45), none, .mov (.t 3)⟩,
    ⟨(some 46), none, .mov (.t 10)⟩,
    ⟨(some 47), none, .bin .add .no (.t 45) (.t 46)⟩,
    ⟨(some 48), none, .iaddr 2 none (.t 44) (.t 47)⟩,
    ⟨(some 49), none, .load (some 2) (.t 48)⟩,
    ⟨(some 50), none, .mov (.t 0)⟩,
    ⟨(some 51), none, .mov (.t 3)⟩,
    ⟨(some 52), none, .mov (.t 11)⟩,
    ⟨(some 53), none, .bin .add .no (.t 51) (.t 52)⟩,
    ⟨(some 54), none, .iaddr 2 none (.t 50) (.t 53)⟩,
    ⟨(some 55), none, .load (some 2) (.t 54)⟩,
    ⟨(some 56), none, .callv (.t 43) [(.t 49), (.t 55)]⟩,
    ⟨(some 57), none, .bin .lss .no (.t 56) (.c (.raw (.int .i64 0)))⟩,
    ⟨(some 58), none, .un .not (.t 57)⟩]
    (.fl 0 (.fl 1 (.fl 2 (.fl 3 (.fl 4 (.fr 5 (.fr 6 (.fl 7 (.fl 8 (.fl 9 (.fl 10 (.fr 11 (.fr 12 (.st 13 [] (.fl 14 (.fl 15 .done)))))))))))))))))
  (.cond (.t 58)
   .ret
   .skip))
  (.seq (.draw [⟨(some 59), none, .mov (.t 0)⟩,
    ⟨(some 60), none, .mov (.t 3)⟩,
    ⟨(some 61), none, .mov (.t 10)⟩,
    ⟨(some 62), none, .bin .add .no (.t 60) (.t 61)⟩,
    ⟨(some 63), none, .mov (.t 0)⟩,
    ⟨(some 64), none, .mov (.t 3)⟩,
    ⟨(some 65), none, .mov (.t 11)⟩,
    ⟨(some 66), none, .bin .add .no (.t 64) (.t 65)⟩,
    ⟨(some 67), none, .mov (.t 0)⟩,
    ⟨(some 68), none, .mov (.t 3)⟩,
    ⟨(some 69), none, .mov (.t 11)⟩,
    ⟨(some 70), none, .bin .add .no (.t 68) (.t 69)⟩,
    ⟨(some 71), none, .iaddr 2 none (.t 67) (.t 70)⟩,
    ⟨(some 72), none, .load (some 2) (.t 71)⟩,
    ⟨(some 73), none, .mov (.t 0)⟩,
    ⟨(some 74), none, .mov (.t 3)⟩,
    ⟨(some 75), none, .mov (.t 10)⟩,
    ⟨(some 76), none, .bin .add .no (.t 74) (.t 75)⟩,
    ⟨(some 77), none, .iaddr 2 none (.t 73) (.t 76)⟩,
    ⟨(some 78), none, .load (some 2) (.t 77)⟩,
    ⟨(some 79), none, .iaddr 2 none (.t 59) (.t 62)⟩,
    ⟨none, none, .store (some 2) (.t 79) (.t 72)⟩,
    ⟨(some 80), none, .iaddr 2 none (.t 63) (.t 66)⟩,
    ⟨none, none, .store (some 2) (.t 80) (.t 78)⟩]
    (.fl 0 (.fl 1 (.fl 2 (.fl 3 (.fl 4 (.fl 5 (.fl 6 (.fl 7 (.fl 8 (.fl 9 (.fl 10 (.fl 11 (.fr 12 (.fr 13 (.fl 14 (.fl 15 (.fl 16 (.fl 17 (.fr 18 (.fr 19 (.fr 20 (.st 21 [] (.fr 22 (.st 23 [] .done)))))))))))))))))))))))))
  (.reg [⟨(some 81), none, .mov (.t 11)⟩,
    ⟨(some 10), none, .mov (.t 81)⟩]))))))))))
theorem i_slices_siftDownCmpFunc_api_Dot : Is Tryd.prog 93 82 [] c_slices_siftDownCmpFunc_api_Dot := ⟨Tryd.f93, _, p_slices_siftDownCmpFunc_api_Dot, rfl, rfl, by kernel_rfl, by kernel_rfl, rfl⟩
def p_slices_medianAdjacentCmpFunc_api_Dot : List (Nat × Pl) := []
def c_slices_medianAdjacentCmpFunc_api_Dot : VCode :=
 (.seq (.reg [⟨(some 8), none, .mov (.c (.raw (.int .i64 0)))⟩])
 (.seq (.reg [⟨(some 9), none, .mov (.t 0)⟩,
   ⟨(some 10), none, .mov (.t 1)⟩,
   ⟨(some 11), none, .bin .sub .no (.t 10) (.c (.raw (.int .i64 1)))⟩,
   ⟨(some 12), none, .mov (.t 1)⟩,
   ⟨(some 13), none, .mov (.t 1)⟩,
   ⟨(some 14), none, .bin .add .no (.t 13) (.c (.raw (.int .i64 1)))⟩,
   ⟨(some 15), none, .mov (.t 2)⟩,
   ⟨(some 16), none, .mov (.t 3)⟩,
   ⟨(some 17), none, .call 95 [(.t 9), (.t 11), (.t 12), (.t 14), (.t 15), (.t 16)]⟩,
   ⟨(some 8), none, .mov (.t 17)⟩])
 .ret))
theorem i_slices_medianAdjacentCmpFunc_api_Dot : Is Tryd.prog 94 18 [.t 8] c_slices_medianAdjacentCmpFunc_api_Dot := ⟨Tryd.f94, _, p_slices_medianAdjacentCmpFunc_api_Dot, rfl, rfl, by kernel_rfl, by kernel_rfl, rfl⟩
def p_slices_medianCmpFunc_api_Dot : List (Nat × Pl) := []
def c_slices_medianCmpFunc_api_Dot : VCode :=
 (.seq (.reg [⟨(some 12), none, .mov (.c (.raw (.int .i64 0)))⟩])
 (.seq (.reg [⟨(some 14), none, .mov (.t 0)⟩,
   ⟨(some 15), none, .mov (.t 1)⟩,
   ⟨(some 16), none, .mov (.t 2)⟩,
   ⟨(some 17), none, .mov (.t 4)⟩,
   ⟨(some 18), none, .mov (.t 5)⟩,
   ⟨(some 19), none, .call 96 [(.t 14), (.t 15), (.t 16), (.t 17), (.t 18)]⟩,
   ⟨(some 13), none, .mov (.t 19)⟩,
   ⟨(some 20), none, .extr (.t 13) 0⟩,
   ⟨(some 21), none, .extr (.t 13) 1⟩,
   ⟨(some 1), none, .mov (.t 20)⟩,
   ⟨(some 2), none, .mov (.t 21)⟩])
 (.seq (.reg [⟨(some 23), none, .mov (.t 0)⟩,
   ⟨(some 24), none, .mov (.t 2)⟩,
   ⟨(some 25), none, .mov (.t 3)⟩,
   ⟨(some 26), none, .mov (.t 4)⟩,
   ⟨(some 27), none, .mov (.t 5)⟩,
   ⟨(some 28), none, .call 96 [(.t 23), (.t 24), (.t 25), (.t 26), (.t 27)]⟩,
   ⟨(some 22), none, .mov (.t 28)⟩,
   ⟨(some 29), none, .extr (.t 22) 0⟩,
   ⟨(some 30), none, .extr (.t 22) 1⟩,
   ⟨(some 2), none, .mov (.t 29)⟩,
   ⟨(some 3), none, .mov (.t 30)⟩])
 (.seq (.reg [⟨(some 32), none, .mov (.t 0)⟩,
   ⟨(some 33), none, .mov (.t 1)⟩,
   ⟨(some 34), none, .mov (.t 2)⟩,
   ⟨(some 35), none, .mov (.t 4)⟩,
   ⟨(some 36), none, .mov (.t 5)⟩,
   ⟨(some 37), none, .call 96 [(.t 32), (.t 33), (.t 34), (.t 35), (.t 36)]⟩,
   ⟨(some 31), none, .mov (.t 37)⟩,
   ⟨(some 38), none, .extr (.t 31) 0⟩,
   ⟨(some 39), none, .extr (.t 31) 1⟩,
   ⟨(some 1), none, .mov (.t 38)⟩,
   ⟨(some 2), none, .mov (.t 39)⟩])
 (.seq (.reg [⟨(some 40), none, .mov (.t 2)⟩,
   ⟨(some 12), none, .mov (.t 40)⟩])
 .ret)))))
theorem i_slices_medianCmpFunc_api_Dot : Is Tryd.prog 95 41 [.t 12] c_slices_medianCmpFunc_api_Dot := ⟨Tryd.f95, _, p_slices_medianCmpFunc_api_Dot, rfl, rfl, by kernel_rfl, by kernel_rfl, rfl⟩
def p_slices_order2CmpFunc_api_Dot : List (Nat × Pl) := [(1, (.fl 0 (.fl 1 (.fl 2 (.fr 3 (.fr 4 (.fl 5 (.fl 6 (.fr 7 (.fr 8 (.st 9 [] (.fl 10 .done))))))))))))]
def c_slices_order2CmpFunc_api_Dot : VCode :=
 (.seq (.reg [⟨(some 10), none, .mov (.c (.raw (.int .i64 0)))⟩,
   ⟨(some 11), none, .mov (.c (.raw (.int .i64 0)))⟩])
 (.seq (.seq (.draw [⟨(some 12), none, .mov (.t 4)⟩,
   ⟨(some 13), none, .mov (.t 0)⟩,
   ⟨(some 14), none, .mov (.t 2)⟩,
   ⟨(some 15), none, .iaddr 2 none (.t 13) (.t 14)⟩,
   ⟨(some 16), none, .load (some 2) (.t 15)⟩,
   ⟨(some 17), none, .mov (.t 0)⟩,
   ⟨(some 18), none, .mov (.t 1)⟩,
   ⟨(some 19), none, .iaddr 2 none (.t 17) (.t 18)⟩,
   ⟨(some 20), none, .load (some 2) (.t 19)⟩,
   ⟨(some 21), none, .callv (.t 12) [(.t 16), (.t 20)]⟩,
   ⟨(some 22), none, .bin .lss .no (.t 21) (.c (.raw (.int .i64 0)))⟩]
   (.fl 0 (.fl 1 (.fl 2 (.fr 3 (.fr 4 (.fl 5 (.fl 6 (.fr 7 (.fr 8 (.st 9 [] (.fl 10 .done))))))))))))
 (.cond (.t 22)
  (.seq (.reg [⟨(some 23), none, .mov (.t 3)⟩,
    ⟨(some 24), none, .nilck (.t 23)⟩,
    ⟨(some 25), none, .load none (.t 24)⟩,
    ⟨(some 26), none, .bin .add .no (.t 25) (.c (.raw (.int .i64 1)))⟩,
    ⟨(some 27), none, .nilck (.t 23)⟩,
    ⟨none, none, .store none (.t 27) (.t 26)⟩])
  (.seq (.reg [⟨(some 28), none, .mov (.t 2)⟩,
    ⟨(some 29), none, .mov (.t 1)⟩,
    ⟨(some 10), none, .mov (.t 28)⟩,
    ⟨(some 11), none, .mov (.t 29)⟩])
  .ret))
  .skip))
 (.seq (.reg [⟨(some 30), none, .mov (.t 1)⟩,
   ⟨(some 31), none, .mov (.t 2)⟩,
   ⟨(some 10), none, .mov (.t 30)⟩,
   ⟨(some 11), none, .mov (.t 31)⟩])
 .ret)))
theorem i_slices_order2CmpFunc_api_Dot : Is Tryd.prog 96 32 [.t 10, .t 11] c_slices_order2CmpFunc_api_Dot := ⟨Tryd.f96, _, p_slices_order2CmpFunc_api_Dot, rfl, rfl, by kernel_rfl, by kernel_rfl, rfl⟩
def p_value_Set_Kind : List (Nat × Pl) := []
def c_value_Set_Kind : VCode :=
 (.seq (.reg [⟨(some 1), none, .box 47 (.t 0)⟩,
   ⟨(some 2), none, .mov (.c (.raw (.int .i64 0)))⟩])
 (.seq (.reg [⟨(some 2), none, .mov (.c (.raw (.int .i64 1)))⟩])
 .ret))
theorem i_value_Set_Kind : Is Tryd.prog 115 3 [.t 2] c_value_Set_Kind := ⟨Tryd.f115, _, p_value_Set_Kind, rfl, rfl, by kernel_rfl, by kernel_rfl, rfl⟩
def p_value_Text_Kind : List (Nat × Pl) := []
def c_value_Text_Kind : VCode :=
 (.seq (.reg [⟨(some 1), none, .box 51 (.t 0)⟩,
   ⟨(some 2), none, .mov (.c (.raw (.int .i64 0)))⟩])
 (.seq (.reg [⟨(some 2), none, .mov (.c (.raw (.int .i64 3)))⟩])
 .ret))
theorem i_value_Text_Kind : Is Tryd.prog 116 3 [.t 2] c_value_Text_Kind := ⟨Tryd.f116, _, p_value_Text_Kind, rfl, rfl, by kernel_rfl, by kernel_rfl, rfl⟩
def p_value_Number_Kind : List (Nat × Pl) := []
def c_value_Number_Kind : VCode :=
 (.seq (.reg [⟨(some 1), none, .box 56 (.t 0)⟩,
   ⟨(some 2), none, .mov (.c (.raw (.int .i64 0)))⟩])
 (.seq (.reg [⟨(some 2), none, .mov (.c (.raw (.int .i64 2)))⟩])
 .ret))
theorem i_value_Number_Kind : Is Tryd.prog 117 3 [.t 2] c_value_Number_Kind := ⟨Tryd.f117, _, p_value_Number_Kind, rfl, rfl, by kernel_rfl, by kernel_rfl, rfl⟩

theorem follows : Tryd.prog.follows .mixedOrders = true := by kernel_rfl
end Go.Proofs

