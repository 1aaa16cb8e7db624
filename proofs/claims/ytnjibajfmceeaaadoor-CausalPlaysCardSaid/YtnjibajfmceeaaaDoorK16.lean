/- The seat's functions and types by name, and its functions' code as the framework reads it: printed by a program of the prover's own. -/
import Derived.Test.YtnjibajfmceeaaaDoorVC
import Derived.Test.YtnjibajfmceeaaaDoorProg
namespace Go.Proofs
open Go Go.V
abbrev F_main_main : FuncId := 0
abbrev F_gosem_cut : FuncId := 1
abbrev F_gosem_cut_init : FuncId := 2
abbrev F_rostrumlaw16_CausalOnce : FuncId := 3
abbrev F_rostrumlaw16_CausalBehind : FuncId := 4
abbrev F_rostrumlaw16_CausalPlays : FuncId := 5
abbrev F_rostrumlaw16_awake : FuncId := 6
abbrev F_causal_New : FuncId := 7
abbrev F_rostrumlaw16_long : FuncId := 8
abbrev F_causal_Buffer_Take : FuncId := 9
abbrev F_vec_Has : FuncId := 10
abbrev F_vec_Le : FuncId := 11
abbrev F_shadow_Ready : FuncId := 12
abbrev F_shadow_Good : FuncId := 13
abbrev F_causal_Buffer_Have : FuncId := 14
abbrev F_causal_Buffer_Behind : FuncId := 15
abbrev F_rostrumref13_Buffer_Take : FuncId := 16
abbrev F_rostrumlaw16_sh : FuncId := 17
abbrev F_rostrumref13_Same : FuncId := 18
abbrev F_rostrumlaw16_shs : FuncId := 19
abbrev F_causal_Buffer_Held : FuncId := 20
abbrev F_causal_Buffer_Drop : FuncId := 21
abbrev F_rostrumref13_Buffer_Drop : FuncId := 22
abbrev F_rostrumref13_Buffer_Behind : FuncId := 23
abbrev F_causal_Buffer_next : FuncId := 24
abbrev F_vec_Rep : FuncId := 25
abbrev F_vec_Dot : FuncId := 26
abbrev F_vec_Good : FuncId := 27
abbrev F_name_Good : FuncId := 28
abbrev F_rostrumref13_Good : FuncId := 29
abbrev F_rostrumref7_Less : FuncId := 30
abbrev F_rostrumref7_Has : FuncId := 31
abbrev F_rostrumref13_Ready : FuncId := 32
abbrev F_slices_SortedFunc_shadow_Shadow : FuncId := 33
abbrev F_maps_Values_map_api_Dot_shadow_Shadow_api_Dot_shadow_Shadow : FuncId := 34
abbrev F_causal_Buffer_Held_1 : FuncId := 35
abbrev F_dots_Order : FuncId := 36
abbrev F_slices_DeleteFunc_sl_shadow_Shadow_shadow_Shadow : FuncId := 37
abbrev F_causal_Buffer_Drop_1 : FuncId := 38
abbrev F_name_other : FuncId := 39
abbrev F_rostrumref7_May : FuncId := 40
abbrev F_rostrumref7_Good : FuncId := 41
abbrev F_rostrumref1_GoodName : FuncId := 42
abbrev F_rostrumref7_Le : FuncId := 43
abbrev F_slices_Collect_shadow_Shadow : FuncId := 44
abbrev F_slices_SortFunc_sl_shadow_Shadow_shadow_Shadow : FuncId := 45
abbrev F_maps_Values_map_api_Dot_shadow_Shadow_api_Dot_shadow_Shadow_1 : FuncId := 46
abbrev F_cmp_Or_int : FuncId := 47
abbrev F_cmp_Compare_int : FuncId := 48
abbrev F_cmp_Compare_int64 : FuncId := 49
abbrev F_slices_IndexFunc_sl_shadow_Shadow_shadow_Shadow : FuncId := 50
abbrev F_unicode_IsLetter : FuncId := 51
abbrev F_unicode_IsDigit : FuncId := 52
abbrev F_rostrumref1_Runes : FuncId := 53
abbrev F_rostrumref1_bad : FuncId := 54
abbrev F_slices_AppendSeq_sl_shadow_Shadow_shadow_Shadow : FuncId := 55
abbrev F_slices_pdqsortCmpFunc_shadow_Shadow : FuncId := 56
abbrev F_math_bits_Len : FuncId := 57
abbrev F_cmp_isNaN_int : FuncId := 58
abbrev F_cmp_isNaN_int64 : FuncId := 59
abbrev F_unicode_isExcludingLatin : FuncId := 60
abbrev F_slices_insertionSortCmpFunc_shadow_Shadow : FuncId := 61
abbrev F_slices_heapSortCmpFunc_shadow_Shadow : FuncId := 62
abbrev F_slices_breakPatternsCmpFunc_shadow_Shadow : FuncId := 63
abbrev F_slices_choosePivotCmpFunc_shadow_Shadow : FuncId := 64
abbrev F_slices_reverseRangeCmpFunc_shadow_Shadow : FuncId := 65
abbrev F_slices_partialInsertionSortCmpFunc_shadow_Shadow : FuncId := 66
abbrev F_slices_partitionEqualCmpFunc_shadow_Shadow : FuncId := 67
abbrev F_slices_partitionCmpFunc_shadow_Shadow : FuncId := 68
abbrev F_math_bits_Len32 : FuncId := 69
abbrev F_math_bits_Len64 : FuncId := 70
abbrev F_unicode_is16 : FuncId := 71
abbrev F_unicode_is32 : FuncId := 72
abbrev F_slices_siftDownCmpFunc_shadow_Shadow : FuncId := 73
abbrev F_slices_nextPowerOfTwo : FuncId := 74
abbrev F_slices_xorshift_Next : FuncId := 75
abbrev F_slices_medianAdjacentCmpFunc_shadow_Shadow : FuncId := 76
abbrev F_slices_medianCmpFunc_shadow_Shadow : FuncId := 77
abbrev F_slices_order2CmpFunc_shadow_Shadow : FuncId := 78
abbrev F_runtime_boundsError_Error : FuncId := 79
abbrev F_runtime_boundsError_RuntimeError : FuncId := 80
abbrev F_runtime_errorString_Error : FuncId := 81
abbrev F_runtime_errorString_RuntimeError : FuncId := 82
abbrev F_runtime_plainError_Error : FuncId := 83
abbrev F_runtime_plainError_RuntimeError : FuncId := 84
abbrev F_runtime_errorAddressString_Error : FuncId := 85
abbrev F_runtime_errorAddressString_RuntimeError : FuncId := 86
abbrev F_runtime_TypeAssertionError_Error : FuncId := 87
abbrev F_runtime_TypeAssertionError_RuntimeError : FuncId := 88
abbrev F_runtime_PanicNilError_Error : FuncId := 89
abbrev F_runtime_PanicNilError_RuntimeError : FuncId := 90
abbrev F_internal_abi_Type_Align : FuncId := 91
abbrev F_internal_runtime_maps_unhashableTypeError_Error : FuncId := 92
abbrev F_internal_runtime_maps_unhashableTypeError_RuntimeError : FuncId := 93
abbrev F_api_Errno_Error : FuncId := 94
abbrev F_internal_abi_Kind_String : FuncId := 95
abbrev F_var_s_door_gosem_cut_vars_holds_initialisers_alone_see_the_manifest_s_row_cutvarsword_look_11_test_files_too : FuncId := 96
abbrev F_var_s_door_the_look_of_gosem_cut_vars_went_over_the_folder_that_the_caller_named_as_the_repository_s_root_look_11 : FuncId := 97
abbrev F_var_s_door_unicode_Digit_is_laid_by_its_text_alone_pinned_1 : FuncId := 98
abbrev F_var_s_door_unicode_Letter_is_laid_by_its_text_alone_pinned_1 : FuncId := 99
abbrev F_var_s_door_unicode_properties_is_laid_by_its_own_initialiser_plain_data_look_11 : FuncId := 100
abbrev F_gosem_cut_vars : FuncId := 101
abbrev T_func : TypeId := 1
abbrev T_int64 : TypeId := 2
abbrev T_int : TypeId := 3
abbrev T_bool : TypeId := 4
abbrev T_uint8 : TypeId := 5
abbrev T_internal_abi_BoundsErrorCode : TypeId := 6
abbrev T_struct_x_int64_y_int_signed_bool_code_abi_BoundsErrorCode : TypeId := 7
abbrev T_runtime_boundsError : TypeId := 8
abbrev T_string : TypeId := 9
abbrev T_runtime_errorString : TypeId := 10
abbrev T_runtime_plainError : TypeId := 11
abbrev T_uintptr : TypeId := 12
abbrev T_struct_msg_string_addr_uintptr : TypeId := 13
abbrev T_runtime_errorAddressString : TypeId := 14
abbrev T_p_runtime_TypeAssertionError : TypeId := 15
abbrev T_p_runtime_PanicNilError : TypeId := 16
abbrev T_p_abi_Type : TypeId := 17
abbrev T_struct_typ_p_abi_Type : TypeId := 18
abbrev T_internal_runtime_maps_unhashableTypeError : TypeId := 19
abbrev T_interface : TypeId := 20
abbrev T_int32 : TypeId := 21
abbrev T_sl_shadow_Shadow : TypeId := 22
abbrev T_sl_int : TypeId := 23
abbrev T_func_bool : TypeId := 24
abbrev T_struct_Rep_int_N_int64 : TypeId := 25
abbrev T_api_Dot : TypeId := 26
abbrev T_7_int64 : TypeId := 27
abbrev T_vec_Vec : TypeId := 28
abbrev T_struct_Dot_api_Dot_Seen_vec_Vec_Kind_int_Key_string_Text_string_By_int64_Time_int64 : TypeId := 29
abbrev T_shadow_Shadow : TypeId := 30
abbrev T_p_causal_Buffer : TypeId := 31
abbrev T_func_p_causal_Buffer : TypeId := 32
abbrev T_func_shadow_Shadow_bool : TypeId := 33
abbrev T_api_Errno : TypeId := 34
abbrev T_sl_shadow_Shadow_api_Errno : TypeId := 35
abbrev T_func_shadow_Shadow_sl_shadow_Shadow_api_Errno : TypeId := 36
abbrev T_func_vec_Vec_api_Dot_bool : TypeId := 37
abbrev T_func_vec_Vec_vec_Vec_bool : TypeId := 38
abbrev T_func_shadow_Shadow_vec_Vec_bool : TypeId := 39
abbrev T_func_vec_Vec : TypeId := 40
abbrev T_func_vec_Vec_sl_shadow_Shadow : TypeId := 41
abbrev T_func_sl_shadow_Shadow_sl_int_bool : TypeId := 42
abbrev T_sl_bool : TypeId := 43
abbrev T_func_sl_shadow_Shadow_sl_bool_bool : TypeId := 44
abbrev T_p_rostrumref13_Buffer : TypeId := 45
abbrev T_rostrumref7_Vec : TypeId := 46
abbrev T_sl_rostrumref13_Shadow : TypeId := 47
abbrev T_struct_Have_rostrumref7_Vec_Held_sl_rostrumref13_Shadow_Log_sl_rostrumref13_Shadow : TypeId := 48
abbrev T_rostrumref13_Buffer : TypeId := 49
abbrev T_sl_rostrumref13_Shadow_api_Errno : TypeId := 50
abbrev T_func_rostrumref13_Shadow_sl_rostrumref13_Shadow_api_Errno : TypeId := 51
abbrev T_struct_Dot_api_Dot_Seen_rostrumref7_Vec_Kind_int_Key_string_Text_string_By_int64_Time_int64 : TypeId := 52
abbrev T_rostrumref13_Shadow : TypeId := 53
abbrev T_func_shadow_Shadow_rostrumref13_Shadow : TypeId := 54
abbrev T_func_sl_rostrumref13_Shadow_sl_rostrumref13_Shadow_bool : TypeId := 55
abbrev T_func_sl_shadow_Shadow_sl_rostrumref13_Shadow : TypeId := 56
abbrev T_func_sl_shadow_Shadow : TypeId := 57
abbrev T_func_vec_Vec_n58 : TypeId := 58
abbrev T_func_rostrumref7_Vec : TypeId := 59
abbrev T_func_rostrumref7_Vec_sl_rostrumref13_Shadow : TypeId := 60
abbrev T_func_sl_shadow_Shadow_vec_Vec_int_vec_Vec_bool : TypeId := 61
abbrev T_map_api_Dot_shadow_Shadow : TypeId := 62
abbrev T_struct_have_vec_Vec_held_map_api_Dot_shadow_Shadow_out_sl_shadow_Shadow : TypeId := 63
abbrev T_causal_Buffer : TypeId := 64
abbrev T_shadow_Shadow_bool : TypeId := 65
abbrev T_func_shadow_Shadow_bool_n66 : TypeId := 66
abbrev T_func_int_bool : TypeId := 67
abbrev T_func_api_Dot_bool : TypeId := 68
abbrev T_func_vec_Vec_bool : TypeId := 69
abbrev T_func_string_bool : TypeId := 70
abbrev T_func_rostrumref13_Shadow_bool : TypeId := 71
abbrev T_func_api_Dot_api_Dot_bool : TypeId := 72
abbrev T_func_rostrumref7_Vec_api_Dot_bool : TypeId := 73
abbrev T_func_rostrumref13_Shadow_rostrumref7_Vec_bool : TypeId := 74
abbrev T_func_iter_Seq_shadow_Shadow_func_shadow_Shadow_shadow_Shadow_int_sl_shadow_Shadow : TypeId := 75
abbrev T_func_func_shadow_Shadow_bool : TypeId := 76
abbrev T_iter_Seq_shadow_Shadow : TypeId := 77
abbrev T_func_map_api_Dot_shadow_Shadow_iter_Seq_shadow_Shadow : TypeId := 78
abbrev T_func_api_Dot_api_Dot_int : TypeId := 79
abbrev T_func_shadow_Shadow_shadow_Shadow_int : TypeId := 80
abbrev T_func_sl_shadow_Shadow_func_shadow_Shadow_bool_sl_shadow_Shadow : TypeId := 81
abbrev T_func_int32_bool_bool : TypeId := 82
abbrev T_func_rostrumref7_Vec_bool : TypeId := 83
abbrev T_func_rostrumref7_Vec_rostrumref7_Vec_bool : TypeId := 84
abbrev T_func_iter_Seq_shadow_Shadow_sl_shadow_Shadow : TypeId := 85
abbrev T_func_sl_shadow_Shadow_func_shadow_Shadow_shadow_Shadow_int : TypeId := 86
abbrev T_func_int_int : TypeId := 87
abbrev T_func_int_int_int : TypeId := 88
abbrev T_func_int64_int64_int : TypeId := 89
abbrev T_func_sl_shadow_Shadow_func_shadow_Shadow_bool_int : TypeId := 90
abbrev T_func_int32_bool : TypeId := 91
abbrev T_sl_int32 : TypeId := 92
abbrev T_sl_int32_sl_int : TypeId := 93
abbrev T_func_string_sl_int32_sl_int : TypeId := 94
abbrev T_func_string_sl_int32_sl_int_int_bool : TypeId := 95
abbrev T_func_sl_shadow_Shadow_iter_Seq_shadow_Shadow_sl_shadow_Shadow : TypeId := 96
abbrev T_func_sl_shadow_Shadow_int_int_int_func_shadow_Shadow_shadow_Shadow_int : TypeId := 97
abbrev T_func_uint_int : TypeId := 98
abbrev T_uint : TypeId := 99
abbrev T_func_int64_bool : TypeId := 100
abbrev T_uint32 : TypeId := 101
abbrev T_256_uint8 : TypeId := 102
abbrev T_func_p_unicode_RangeTable_int32_bool : TypeId := 103
abbrev T_p_unicode_RangeTable : TypeId := 104
abbrev T_func_sl_shadow_Shadow_int_int_func_shadow_Shadow_shadow_Shadow_int : TypeId := 105
abbrev T_slices_sortedHint : TypeId := 106
abbrev T_int_slices_sortedHint : TypeId := 107
abbrev T_func_sl_shadow_Shadow_int_int_func_shadow_Shadow_shadow_Shadow_int_int_slices_sortedHint : TypeId := 108
abbrev T_func_sl_shadow_Shadow_int_int_func_shadow_Shadow_shadow_Shadow_int_bool : TypeId := 109
abbrev T_func_sl_shadow_Shadow_int_int_int_func_shadow_Shadow_shadow_Shadow_int_int : TypeId := 110
abbrev T_int_bool : TypeId := 111
abbrev T_func_sl_shadow_Shadow_int_int_int_func_shadow_Shadow_shadow_Shadow_int_int_bool : TypeId := 112
abbrev T_func_uint32_int : TypeId := 113
abbrev T_func_uint64_int : TypeId := 114
abbrev T_uint64 : TypeId := 115
abbrev T_sl_unicode_Range16 : TypeId := 116
abbrev T_sl_unicode_Range32 : TypeId := 117
abbrev T_struct_R16_sl_unicode_Range16_R32_sl_unicode_Range32_LatinOffset_int : TypeId := 118
abbrev T_unicode_RangeTable : TypeId := 119
abbrev T_uint16 : TypeId := 120
abbrev T_struct_Lo_uint16_Hi_uint16_Stride_uint16 : TypeId := 121
abbrev T_unicode_Range16 : TypeId := 122
abbrev T_func_sl_unicode_Range16_uint16_bool : TypeId := 123
abbrev T_struct_Lo_uint32_Hi_uint32_Stride_uint32 : TypeId := 124
abbrev T_unicode_Range32 : TypeId := 125
abbrev T_func_sl_unicode_Range32_uint32_bool : TypeId := 126
abbrev T_slices_xorshift : TypeId := 127
abbrev T_func_int_uint : TypeId := 128
abbrev T_func_uint64 : TypeId := 129
abbrev T_func_sl_shadow_Shadow_int_p_int_func_shadow_Shadow_shadow_Shadow_int_int : TypeId := 130
abbrev T_p_int : TypeId := 131
abbrev T_func_sl_shadow_Shadow_int_int_int_p_int_func_shadow_Shadow_shadow_Shadow_int_int : TypeId := 132
abbrev T_p_unicode_Range16 : TypeId := 133
abbrev T_p_unicode_Range32 : TypeId := 134
abbrev T_p_slices_xorshift : TypeId := 135
abbrev T_int_int : TypeId := 136
abbrev T_func_sl_shadow_Shadow_int_int_p_int_func_shadow_Shadow_shadow_Shadow_int_int_int : TypeId := 137
abbrev T_func_string : TypeId := 138
abbrev T_struct_interface_p_abi_Type_concrete_p_abi_Type_asserted_p_abi_Type_missingMethod_string : TypeId := 139
abbrev T_runtime_TypeAssertionError : TypeId := 140
abbrev T_0_p_runtime_PanicNilError : TypeId := 141
abbrev T_struct_0_p_runtime_PanicNilError : TypeId := 142
abbrev T_runtime_PanicNilError : TypeId := 143
abbrev T_func_int : TypeId := 144
abbrev T_internal_abi_TFlag : TypeId := 145
abbrev T_internal_abi_Kind : TypeId := 146
abbrev T_func_unsafe_Pointer_unsafe_Pointer_bool : TypeId := 147
abbrev T_p_uint8 : TypeId := 148
abbrev T_internal_abi_NameOff : TypeId := 149
abbrev T_internal_abi_TypeOff : TypeId := 150
abbrev T_struct_Size_uintptr_PtrBytes_uintptr_Hash_uint32_TFlag_abi_TFlag_Align_uint8_FieldAlign_uint8_Kind_abi_Kind_Equal_func_unsafe_Pointer_unsafe_Pointer_bool_GCData_p_uint8_Str_abi_NameOff_PtrToThis_abi_TypeOff : TypeId := 151
abbrev T_internal_abi_Type : TypeId := 152
abbrev T_unsafe_Pointer : TypeId := 153
def p_rostrumlaw16_CausalOnce : List (Nat × Pl) := [(11, (.fl 0 (.fl 1 (.fr 2 (.fl 3 (.fr 4 (.fl 5 (.fl 6 (.fr 7 (.fl 8 (.fr 9 (.fl 10 (.fl 11 (.fl 12 (.fl 13 (.fr 14 (.fr 15 (.fl 16 (.fl 17 (.fr 18 (.fr 19 (.fl 20 (.fl 21 .done))))))))))))))))))))))), (45, (.fl 0 (.fl 1 (.fr 2 (.fr 3 (.fr 4 (.st 5 [] (.fl 6 (.fl 7 (.fl 8 (.fr 9 (.fr 10 (.st 11 [] (.fl 12 .done)))))))))))))), (47, (.fr 0 (.fl 1 (.st 2 [0] (.fl 3 (.fl 4 (.fl 5 (.fl 6 (.fl 7 (.fl 8 (.fl 9 (.fl 10 (.fr 11 (.fl 14 (.st 12 [] (.fl 13 (.fl 15 (.fl 16 (.fl 17 .done)))))))))))))))))))]
def c_rostrumlaw16_CausalOnce : VCode :=
 (.seq (.reg [⟨(some 4), none, .mov (.c (.kb false))⟩])
 (.seq (.seq (.reg [⟨(some 20), none, .call 6 []⟩,
   ⟨(some 21), none, .un .not (.t 20)⟩])
 (.cond (.t 21)
  (.seq (.reg [⟨(some 4), none, .mov (.c (.kb false))⟩])
  .ret)
  .skip))
 (.seq (.seq (.reg [⟨(some 22), none, .mov (.t 0)⟩,
   ⟨(some 23), none, .len .sl (.t 22)⟩,
   ⟨(some 24), none, .bin .gtr .no (.t 23) (.c (.raw (.int .i64 40)))⟩,
   ⟨(some 25), none, .mov (.t 24)⟩,
   ⟨(some 26), (some (25, false)), .mov (.t 1)⟩,
   ⟨(some 27), (some (25, false)), .len .sl (.t 26)⟩,
   ⟨(some 28), (some (25, false)), .bin .gtr .no (.t 27) (.c (.raw (.int .i64 40)))⟩,
   ⟨(some 29), none, .pick (.t 25) (.c (.kb true)) (.t 28)⟩])
 (.cond (.t 29)
  (.seq (.reg [⟨(some 4), none, .mov (.c (.kb true))⟩])
  .ret)
  .skip))
 (.seq (.seq (.reg [⟨(some 5), none, .mov (.c (.raw (.int .i64 0)))⟩])
 (.block 0 (.loop (.seq (.seq (.reg [⟨(some 30), none, .mov (.t 5)⟩,
    ⟨(some 31), none, .mov (.t 0)⟩,
    ⟨(some 32), none, .len .sl (.t 31)⟩,
    ⟨(some 33), none, .bin .lss .no (.t 30) (.t 32)⟩])
  (.cond (.t 33)
   .skip
   (.exit 0)))
  (.seq (.block 1 (.seq (.reg [⟨(some 6), none, .mov (.c (.raw (.int .i64 0)))⟩])
  (.block 2 (.loop (.seq (.seq (.reg [⟨(some 36), none, .mov (.t 6)⟩,
     ⟨(some 37), none, .mov (.t 5)⟩,
     ⟨(some 38), none, .bin .lss .no (.t 36) (.t 37)⟩])
   (.cond (.t 38)
    .skip
    (.exit 2)))
   (.seq (.block 3 (.seq (.draw [⟨(some 41), none, .mov (.t 0)⟩,
     ⟨(some 42), none, .mov (.t 5)⟩,
     ⟨(some 43), none, .iaddr 14 none (.t 41) (.t 42)⟩,
     ⟨(some 44), none, .faddr 0 (.t 43)⟩,
     ⟨(some 45), none, .load (some 2) (.t 44)⟩,
     ⟨(some 46), none, .mov (.t 0)⟩,
     ⟨(some 47), none, .mov (.t 6)⟩,
     ⟨(some 48), none, .iaddr 14 none (.t 46) (.t 47)⟩,
     ⟨(some 49), none, .faddr 0 (.t 48)⟩,
     ⟨(some 50), none, .load (some 2) (.t 49)⟩,
     ⟨(some 51), none, .bin .eql (.agg [.i, .i]) (.t 45) (.t 50)⟩,
     ⟨(some 52), none, .mov (.t 51)⟩,
     ⟨(some 53), (some (52, true)), .mov (.t 0)⟩,
     ⟨(some 54), (some (52, true)), .mov (.t 5)⟩,
     ⟨(some 55), (some (52, true)), .iaddr 14 none (.t 53) (.t 54)⟩,
     ⟨(some 56), (some (52, true)), .load (some 14) (.t 55)⟩,
     ⟨(some 57), (some (52, true)), .mov (.t 0)⟩,
     ⟨(some 58), (some (52, true)), .mov (.t 6)⟩,
     ⟨(some 59), (some (52, true)), .iaddr 14 none (.t 57) (.t 58)⟩,
     ⟨(some 60), (some (52, true)), .load (some 14) (.t 59)⟩,
     ⟨(some 61), (some (52, true)), .bin .neq (.agg [.i, .i, .i, .i, .i, .i, .i, .i, .i, .i, .s, .s, .i, .i]) (.t 56) (.t 60)⟩,
     ⟨(some 62), none, .pick (.t 52) (.t 61) (.c (.kb false))⟩]
     (.fl 0 (.fl 1 (.fr 2 (.fl 3 (.fr 4 (.fl 5 (.fl 6 (.fr 7 (.fl 8 (.fr 9 (.fl 10 (.fl 11 (.fl 12 (.fl 13 (.fr 14 (.fr 15 (.fl 16 (.fl 17 (.fr 18 (.fr 19 (.fl 20 (.fl 21 .done)))))))))))))))))))))))
   (.cond (.t 62)
    (.seq (.reg [⟨(some 4), none, .mov (.c (.kb true))⟩])
    .ret)
    .skip)))
   (.reg [⟨(some 39), none, .mov (.t 6)⟩,
     ⟨(some 40), none, .bin .add .no (.t 39) (.c (.raw (.int .i64 1)))⟩,
     ⟨(some 6), none, .mov (.t 40)⟩])))))))
  (.reg [⟨(some 34), none, .mov (.t 5)⟩,
    ⟨(some 35), none, .bin .add .no (.t 34) (.c (.raw (.int .i64 1)))⟩,
    ⟨(some 5), none, .mov (.t 35)⟩]))))))
 (.seq (.reg [⟨(some 63), none, .call 7 []⟩,
   ⟨(some 7), none, .mov (.t 63)⟩])
 (.seq (.reg [⟨(some 64), none, .build [(.int .i64 0), (.int .i64 0), (.int .i64 0), (.int .i64 0), (.int .i64 0), (.int .i64 0), (.int .i64 0)] []⟩,
   ⟨(some 8), none, .new 28 [(.int .i64 0), (.int .i64 0), (.int .i64 0), (.int .i64 0), (.int .i64 0), (.int .i64 0), (.int .i64 0)]⟩,
   ⟨none, none, .store (some 7) (.t 8) (.t 64)⟩])
 (.seq (.reg [⟨(some 9), none, .mov (.c (.raw (.int .i64 0)))⟩])
 (.seq (.seq (.reg [⟨(some 10), none, .mov (.c (.raw (.int .i64 0)))⟩])
 (.block 4 (.loop (.seq (.seq (.reg [⟨(some 65), none, .mov (.t 10)⟩,
    ⟨(some 66), none, .bin .lss .no (.t 65) (.c (.raw (.int .i64 2)))⟩])
  (.cond (.t 66)
   .skip
   (.exit 4)))
  (.seq (.block 5 (.seq (.reg [⟨(some 11), none, .mov (.c (.raw (.int .i64 0)))⟩])
  (.block 6 (.loop (.seq (.seq (.reg [⟨(some 69), none, .mov (.t 11)⟩,
     ⟨(some 70), none, .mov (.t 0)⟩,
     ⟨(some 71), none, .len .sl (.t 70)⟩,
     ⟨(some 72), none, .mov (.t 1)⟩,
     ⟨(some 73), none, .len .sl (.t 72)⟩,
     ⟨(some 74), none, .bin .add .no (.t 71) (.t 73)⟩,
     ⟨(some 75), none, .bin .lss .no (.t 69) (.t 74)⟩])
   (.cond (.t 75)
    .skip
    (.exit 6)))
   (.seq (.block 7 (.seq (.reg [⟨(some 78), none, .mov (.t 11)⟩,
     ⟨(some 12), none, .mov (.t 78)⟩])
   (.seq (.seq (.reg [⟨(some 79), none, .mov (.t 11)⟩,
     ⟨(some 80), none, .mov (.t 0)⟩,
     ⟨(some 81), none, .len .sl (.t 80)⟩,
     ⟨(some 82), none, .bin .geq .no (.t 79) (.t 81)⟩])
   (.cond (.t 82)
    (.seq (.seq (.reg [⟨(some 83), none, .mov (.t 0)⟩,
      ⟨(some 84), none, .len .sl (.t 83)⟩,
      ⟨(some 85), none, .bin .eql .no (.t 84) (.c (.raw (.int .i64 0)))⟩,
      ⟨(some 86), none, .mov (.t 85)⟩,
      ⟨(some 87), (some (86, false)), .mov (.t 1)⟩,
      ⟨(some 88), (some (86, false)), .mov (.t 11)⟩,
      ⟨(some 89), (some (86, false)), .mov (.t 0)⟩,
      ⟨(some 90), (some (86, false)), .len .sl (.t 89)⟩,
      ⟨(some 91), (some (86, false)), .bin .sub .no (.t 88) (.t 90)⟩,
      ⟨(some 92), (some (86, false)), .iaddr 1 none (.t 87) (.t 91)⟩,
      ⟨(some 93), (some (86, false)), .load none (.t 92)⟩,
      ⟨(some 94), (some (86, false)), .bin .lss .no (.t 93) (.c (.raw (.int .i64 0)))⟩,
      ⟨(some 95), none, .pick (.t 86) (.c (.kb true)) (.t 94)⟩])
    (.cond (.t 95)
     (.exit 7)
     .skip))
    (.reg [⟨(some 96), none, .mov (.t 1)⟩,
      ⟨(some 97), none, .mov (.t 11)⟩,
      ⟨(some 98), none, .mov (.t 0)⟩,
      ⟨(some 99), none, .len .sl (.t 98)⟩,
      ⟨(some 100), none, .bin .sub .no (.t 97) (.t 99)⟩,
      ⟨(some 101), none, .iaddr 1 none (.t 96) (.t 100)⟩,
      ⟨(some 102), none, .load none (.t 101)⟩,
      ⟨(some 103), none, .mov (.t 0)⟩,
      ⟨(some 104), none, .len .sl (.t 103)⟩,
      ⟨(some 105), none, .bin .rem .no (.t 102) (.t 104)⟩,
      ⟨(some 12), none, .mov (.t 105)⟩]))
    .skip))
   (.seq (.seq (.reg [⟨(some 106), none, .mov (.t 0)⟩,
     ⟨(some 107), none, .mov (.t 12)⟩,
     ⟨(some 108), none, .iaddr 14 none (.t 106) (.t 107)⟩,
     ⟨(some 109), none, .load (some 14) (.t 108)⟩,
     ⟨(some 110), none, .call 8 [(.t 109)]⟩])
   (.cond (.t 110)
    (.seq (.reg [⟨(some 4), none, .mov (.c (.kb true))⟩])
    .ret)
    .skip))
   (.seq (.reg [⟨(some 112), none, .mov (.t 7)⟩,
     ⟨(some 113), none, .mov (.t 0)⟩,
     ⟨(some 114), none, .mov (.t 12)⟩,
     ⟨(some 115), none, .iaddr 14 none (.t 113) (.t 114)⟩,
     ⟨(some 116), none, .load (some 14) (.t 115)⟩,
     ⟨(some 117), none, .call 9 [(.t 112), (.t 116)]⟩,
     ⟨(some 111), none, .mov (.t 117)⟩,
     ⟨(some 118), none, .extr (.t 111) 0⟩,
     ⟨(some 119), none, .extr (.t 111) 1⟩,
     ⟨(some 13), none, .mov (.t 118)⟩,
     ⟨(some 14), none, .mov (.t 119)⟩])
   (.seq (.reg [⟨(some 15), none, .mov (.c (.raw (.int .i64 0)))⟩])
   (.block 8 (.loop (.seq (.seq (.reg [⟨(some 120), none, .mov (.t 15)⟩,
      ⟨(some 121), none, .mov (.t 13)⟩,
      ⟨(some 122), none, .len .sl (.t 121)⟩,
      ⟨(some 123), none, .bin .lss .no (.t 120) (.t 122)⟩])
    (.cond (.t 123)
     .skip
     (.exit 8)))
    (.seq (.block 9 (.seq (.reg [⟨(some 126), none, .mov (.t 13)⟩,
      ⟨(some 127), none, .mov (.t 15)⟩,
      ⟨(some 128), none, .iaddr 14 none (.t 126) (.t 127)⟩,
      ⟨(some 129), none, .load (some 14) (.t 128)⟩,
      ⟨(some 16), none, .new 30 [(.int .i64 0), (.int .i64 0), (.int .i64 0), (.int .i64 0), (.int .i64 0), (.int .i64 0), (.int .i64 0), (.int .i64 0), (.int .i64 0), (.int .i64 0), (.string (ByteArray.mk #[])), (.string (ByteArray.mk #[])), (.int .i64 0), (.int .i64 0)]⟩,
      ⟨none, none, .store (some 14) (.t 16) (.t 129)⟩])
    (.seq (.seq (.reg [⟨(some 130), none, .faddr 0 (.t 16)⟩,
      ⟨(some 131), none, .faddr 0 (.t 130)⟩,
      ⟨(some 132), none, .load none (.t 131)⟩,
      ⟨(some 133), none, .bin .lss .no (.t 132) (.c (.raw (.int .i64 0)))⟩,
      ⟨(some 134), none, .mov (.t 133)⟩,
      ⟨(some 135), (some (134, false)), .faddr 0 (.t 16)⟩,
      ⟨(some 136), (some (134, false)), .faddr 0 (.t 135)⟩,
      ⟨(some 137), (some (134, false)), .load none (.t 136)⟩,
      ⟨(some 138), (some (134, false)), .bin .gtr .no (.t 137) (.c (.raw (.int .i64 6)))⟩,
      ⟨(some 139), none, .pick (.t 134) (.c (.kb true)) (.t 138)⟩,
      ⟨(some 140), none, .mov (.t 139)⟩,
      ⟨(some 141), (some (140, false)), .load (some 7) (.t 8)⟩,
      ⟨(some 142), (some (140, false)), .faddr 0 (.t 16)⟩,
      ⟨(some 143), (some (140, false)), .load (some 2) (.t 142)⟩,
      ⟨(some 144), (some (140, false)), .call 10 [(.t 141), (.t 143)]⟩,
      ⟨(some 145), none, .pick (.t 140) (.c (.kb true)) (.t 144)⟩,
      ⟨(some 146), none, .mov (.t 145)⟩,
      ⟨(some 147), (some (146, false)), .faddr 2 (.t 16)⟩,
      ⟨(some 148), (some (146, false)), .load (some 7) (.t 147)⟩,
      ⟨(some 149), (some (146, false)), .load (some 7) (.t 8)⟩,
      ⟨(some 150), (some (146, false)), .call 11 [(.t 148), (.t 149)]⟩,
      ⟨(some 151), (some (146, false)), .un .not (.t 150)⟩,
      ⟨(some 152), none, .pick (.t 146) (.c (.kb true)) (.t 151)⟩])
    (.cond (.t 152)
     (.seq (.reg [⟨(some 4), none, .mov (.c (.kb false))⟩])
     .ret)
     .skip))
    (.seq (.reg [⟨(some 153), none, .faddr 0 (.t 16)⟩,
      ⟨(some 154), none, .faddr 0 (.t 153)⟩,
      ⟨(some 155), none, .load none (.t 154)⟩,
      ⟨(some 156), none, .faddr 0 (.t 16)⟩,
      ⟨(some 157), none, .faddr 1 (.t 156)⟩,
      ⟨(some 158), none, .load none (.t 157)⟩,
      ⟨(some 159), none, .iaddr 1 (some 7) (.t 8) (.t 155)⟩,
      ⟨none, none, .store none (.t 159) (.t 158)⟩])
    (.reg [⟨(some 160), none, .mov (.t 9)⟩,
      ⟨(some 161), none, .bin .add .no (.t 160) (.c (.raw (.int .i64 1)))⟩,
      ⟨(some 9), none, .mov (.t 161)⟩])))))
    (.reg [⟨(some 124), none, .mov (.t 15)⟩,
      ⟨(some 125), none, .bin .add .no (.t 124) (.c (.raw (.int .i64 1)))⟩,
      ⟨(some 15), none, .mov (.t 125)⟩])))))))))))
   (.reg [⟨(some 76), none, .mov (.t 11)⟩,
     ⟨(some 77), none, .bin .add .no (.t 76) (.c (.raw (.int .i64 1)))⟩,
     ⟨(some 11), none, .mov (.t 77)⟩])))))))
  (.reg [⟨(some 67), none, .mov (.t 10)⟩,
    ⟨(some 68), none, .bin .add .no (.t 67) (.c (.raw (.int .i64 1)))⟩,
    ⟨(some 10), none, .mov (.t 68)⟩]))))))
 (.seq (.reg [⟨(some 17), none, .mov (.c (.raw (.int .i64 0)))⟩])
 (.seq (.seq (.reg [⟨(some 18), none, .mov (.c (.raw (.int .i64 0)))⟩])
 (.block 10 (.loop (.seq (.seq (.reg [⟨(some 162), none, .mov (.t 18)⟩,
    ⟨(some 163), none, .bin .lss .no (.t 162) (.c (.raw (.int .i64 7)))⟩])
  (.cond (.t 163)
   .skip
   (.exit 10)))
  (.seq (.block 11 (.reg [⟨(some 166), none, .mov (.t 17)⟩,
    ⟨(some 167), none, .mov (.t 18)⟩,
    ⟨(some 168), none, .iaddr 1 (some 7) (.t 8) (.t 167)⟩,
    ⟨(some 169), none, .load none (.t 168)⟩,
    ⟨(some 170), none, .bin .add .no (.t 166) (.t 169)⟩,
    ⟨(some 17), none, .mov (.t 170)⟩]))
  (.reg [⟨(some 164), none, .mov (.t 18)⟩,
    ⟨(some 165), none, .bin .add .no (.t 164) (.c (.raw (.int .i64 1)))⟩,
    ⟨(some 18), none, .mov (.t 165)⟩]))))))
 (.seq (.seq (.reg [⟨(some 19), none, .mov (.c (.raw (.int .i64 0)))⟩])
 (.block 12 (.loop (.seq (.seq (.reg [⟨(some 171), none, .mov (.t 19)⟩,
    ⟨(some 172), none, .mov (.t 0)⟩,
    ⟨(some 173), none, .len .sl (.t 172)⟩,
    ⟨(some 174), none, .bin .lss .no (.t 171) (.t 173)⟩])
  (.cond (.t 174)
   .skip
   (.exit 12)))
  (.seq (.block 13 (.seq (.draw [⟨(some 177), none, .mov (.t 0)⟩,
    ⟨(some 178), none, .mov (.t 19)⟩,
    ⟨(some 179), none, .iaddr 14 none (.t 177) (.t 178)⟩,
    ⟨(some 180), none, .load (some 14) (.t 179)⟩,
    ⟨(some 181), none, .load (some 7) (.t 8)⟩,
    ⟨(some 182), none, .call 12 [(.t 180), (.t 181)]⟩,
    ⟨(some 183), none, .mov (.t 182)⟩,
    ⟨(some 184), (some (183, true)), .mov (.t 0)⟩,
    ⟨(some 185), (some (183, true)), .mov (.t 19)⟩,
    ⟨(some 186), (some (183, true)), .iaddr 14 none (.t 184) (.t 185)⟩,
    ⟨(some 187), (some (183, true)), .load (some 14) (.t 186)⟩,
    ⟨(some 188), (some (183, true)), .call 13 [(.t 187)]⟩,
    ⟨(some 189), none, .pick (.t 183) (.t 188) (.c (.kb false))⟩]
    (.fl 0 (.fl 1 (.fr 2 (.fr 3 (.fr 4 (.st 5 [] (.fl 6 (.fl 7 (.fl 8 (.fr 9 (.fr 10 (.st 11 [] (.fl 12 .done))))))))))))))
  (.cond (.t 189)
   (.seq (.reg [⟨(some 4), none, .mov (.c (.kb false))⟩])
   .ret)
   .skip)))
  (.reg [⟨(some 175), none, .mov (.t 19)⟩,
    ⟨(some 176), none, .bin .add .no (.t 175) (.c (.raw (.int .i64 1)))⟩,
    ⟨(some 19), none, .mov (.t 176)⟩]))))))
 (.seq (.draw [⟨(some 190), none, .load (some 7) (.t 8)⟩,
   ⟨(some 191), none, .mov (.t 7)⟩,
   ⟨(some 192), none, .call 14 [(.t 191)]⟩,
   ⟨(some 193), none, .bin .eql (.agg [.i, .i, .i, .i, .i, .i, .i]) (.t 190) (.t 192)⟩,
   ⟨(some 194), none, .mov (.t 193)⟩,
   ⟨(some 195), (some (194, true)), .mov (.t 9)⟩,
   ⟨(some 196), (some (194, true)), .mov (.t 17)⟩,
   ⟨(some 197), (some (194, true)), .bin .eql .no (.t 195) (.t 196)⟩,
   ⟨(some 198), none, .pick (.t 194) (.t 197) (.c (.kb false))⟩,
   ⟨(some 199), none, .mov (.t 198)⟩,
   ⟨(some 200), (some (199, true)), .mov (.t 7)⟩,
   ⟨(some 201), (some (199, true)), .build [(.int .i64 0), (.int .i64 0), (.int .i64 0), (.int .i64 0), (.int .i64 0), (.int .i64 0), (.int .i64 0)] []⟩,
   ⟨(some 202), (some (199, true)), .call 15 [(.t 200), (.t 201)]⟩,
   ⟨(some 203), (some (199, true)), .len .sl (.t 202)⟩,
   ⟨(some 204), (some (199, true)), .mov (.t 9)⟩,
   ⟨(some 205), (some (199, true)), .bin .eql .no (.t 203) (.t 204)⟩,
   ⟨(some 206), none, .pick (.t 199) (.t 205) (.c (.kb false))⟩,
   ⟨(some 4), none, .mov (.t 206)⟩]
   (.fr 0 (.fl 1 (.st 2 [0] (.fl 3 (.fl 4 (.fl 5 (.fl 6 (.fl 7 (.fl 8 (.fl 9 (.fl 10 (.fr 11 (.fl 14 (.st 12 [] (.fl 13 (.fl 15 (.fl 16 (.fl 17 .done)))))))))))))))))))
 .ret))))))))))))
theorem i_rostrumlaw16_CausalOnce : Is Tryd.prog 3 207 [.t 4] c_rostrumlaw16_CausalOnce := ⟨Tryd.f3, _, p_rostrumlaw16_CausalOnce, rfl, rfl, by kernel_rfl, by kernel_rfl, rfl⟩
def p_rostrumlaw16_CausalBehind : List (Nat × Pl) := [(11, (.fl 0 (.fl 1 (.fr 2 (.fl 3 (.fr 4 (.fl 5 (.fl 6 (.fr 7 (.fl 8 (.fr 9 (.fl 10 (.fl 11 (.fl 12 (.fl 13 (.fr 14 (.fr 15 (.fl 16 (.fl 17 (.fr 18 (.fr 19 (.fl 20 (.fl 21 .done)))))))))))))))))))))))]
def c_rostrumlaw16_CausalBehind : VCode :=
 (.seq (.reg [⟨(some 4), none, .mov (.c (.kb false))⟩])
 (.seq (.seq (.reg [⟨(some 12), none, .call 6 []⟩,
   ⟨(some 13), none, .un .not (.t 12)⟩])
 (.cond (.t 13)
  (.seq (.reg [⟨(some 4), none, .mov (.c (.kb false))⟩])
  .ret)
  .skip))
 (.seq (.seq (.reg [⟨(some 14), none, .mov (.t 0)⟩,
   ⟨(some 15), none, .len .sl (.t 14)⟩,
   ⟨(some 16), none, .bin .gtr .no (.t 15) (.c (.raw (.int .i64 30)))⟩,
   ⟨(some 17), none, .mov (.t 16)⟩,
   ⟨(some 18), (some (17, false)), .mov (.t 1)⟩,
   ⟨(some 19), (some (17, false)), .len .sl (.t 18)⟩,
   ⟨(some 20), (some (17, false)), .mov (.t 0)⟩,
   ⟨(some 21), (some (17, false)), .len .sl (.t 20)⟩,
   ⟨(some 22), (some (17, false)), .bin .lss .no (.t 19) (.t 21)⟩,
   ⟨(some 23), none, .pick (.t 17) (.c (.kb true)) (.t 22)⟩])
 (.cond (.t 23)
  (.seq (.reg [⟨(some 4), none, .mov (.c (.kb true))⟩])
  .ret)
  .skip))
 (.seq (.seq (.reg [⟨(some 5), none, .mov (.c (.raw (.int .i64 0)))⟩])
 (.block 0 (.loop (.seq (.seq (.reg [⟨(some 24), none, .mov (.t 5)⟩,
    ⟨(some 25), none, .mov (.t 0)⟩,
    ⟨(some 26), none, .len .sl (.t 25)⟩,
    ⟨(some 27), none, .bin .lss .no (.t 24) (.t 26)⟩])
  (.cond (.t 27)
   .skip
   (.exit 0)))
  (.seq (.block 1 (.seq (.seq (.reg [⟨(some 6), none, .mov (.c (.raw (.int .i64 0)))⟩])
  (.block 2 (.loop (.seq (.seq (.reg [⟨(some 30), none, .mov (.t 6)⟩,
     ⟨(some 31), none, .mov (.t 5)⟩,
     ⟨(some 32), none, .bin .lss .no (.t 30) (.t 31)⟩])
   (.cond (.t 32)
    .skip
    (.exit 2)))
   (.seq (.block 3 (.seq (.draw [⟨(some 35), none, .mov (.t 0)⟩,
     ⟨(some 36), none, .mov (.t 5)⟩,
     ⟨(some 37), none, .iaddr 14 none (.t 35) (.t 36)⟩,
     ⟨(some 38), none, .faddr 0 (.t 37)⟩,
     ⟨(some 39), none, .load (some 2) (.t 38)⟩,
     ⟨(some 40), none, .mov (.t 0)⟩,
     ⟨(some 41), none, .mov (.t 6)⟩,
     ⟨(some 42), none, .iaddr 14 none (.t 40) (.t 41)⟩,
     ⟨(some 43), none, .faddr 0 (.t 42)⟩,
     ⟨(some 44), none, .load (some 2) (.t 43)⟩,
     ⟨(some 45), none, .bin .eql (.agg [.i, .i]) (.t 39) (.t 44)⟩,
     ⟨(some 46), none, .mov (.t 45)⟩,
     ⟨(some 47), (some (46, true)), .mov (.t 0)⟩,
     ⟨(some 48), (some (46, true)), .mov (.t 5)⟩,
     ⟨(some 49), (some (46, true)), .iaddr 14 none (.t 47) (.t 48)⟩,
     ⟨(some 50), (some (46, true)), .load (some 14) (.t 49)⟩,
     ⟨(some 51), (some (46, true)), .mov (.t 0)⟩,
     ⟨(some 52), (some (46, true)), .mov (.t 6)⟩,
     ⟨(some 53), (some (46, true)), .iaddr 14 none (.t 51) (.t 52)⟩,
     ⟨(some 54), (some (46, true)), .load (some 14) (.t 53)⟩,
     ⟨(some 55), (some (46, true)), .bin .neq (.agg [.i, .i, .i, .i, .i, .i, .i, .i, .i, .i, .s, .s, .i, .i]) (.t 50) (.t 54)⟩,
     ⟨(some 56), none, .pick (.t 46) (.t 55) (.c (.kb false))⟩]
     (.fl 0 (.fl 1 (.fr 2 (.fl 3 (.fr 4 (.fl 5 (.fl 6 (.fr 7 (.fl 8 (.fr 9 (.fl 10 (.fl 11 (.fl 12 (.fl 13 (.fr 14 (.fr 15 (.fl 16 (.fl 17 (.fr 18 (.fr 19 (.fl 20 (.fl 21 .done)))))))))))))))))))))))
   (.cond (.t 56)
    (.seq (.reg [⟨(some 4), none, .mov (.c (.kb true))⟩])
    .ret)
    .skip)))
   (.reg [⟨(some 33), none, .mov (.t 6)⟩,
     ⟨(some 34), none, .bin .add .no (.t 33) (.c (.raw (.int .i64 1)))⟩,
     ⟨(some 6), none, .mov (.t 34)⟩]))))))
  (.seq (.reg [⟨(some 57), none, .mov (.t 0)⟩,
    ⟨(some 58), none, .mov (.t 5)⟩,
    ⟨(some 59), none, .iaddr 14 none (.t 57) (.t 58)⟩,
    ⟨(some 60), none, .load (some 14) (.t 59)⟩,
    ⟨(some 61), none, .call 8 [(.t 60)]⟩])
  (.cond (.t 61)
   (.seq (.reg [⟨(some 4), none, .mov (.c (.kb true))⟩])
   .ret)
   .skip))))
  (.reg [⟨(some 28), none, .mov (.t 5)⟩,
    ⟨(some 29), none, .bin .add .no (.t 28) (.c (.raw (.int .i64 1)))⟩,
    ⟨(some 5), none, .mov (.t 29)⟩]))))))
 (.seq (.reg [⟨(some 62), none, .call 7 []⟩,
   ⟨(some 63), none, .call 7 []⟩,
   ⟨(some 7), none, .mov (.t 62)⟩,
   ⟨(some 8), none, .mov (.t 63)⟩])
 (.seq (.seq (.reg [⟨(some 9), none, .mov (.c (.raw (.int .i64 0)))⟩])
 (.block 4 (.loop (.seq (.seq (.reg [⟨(some 64), none, .mov (.t 9)⟩,
    ⟨(some 65), none, .mov (.t 0)⟩,
    ⟨(some 66), none, .len .sl (.t 65)⟩,
    ⟨(some 67), none, .bin .lss .no (.t 64) (.t 66)⟩])
  (.cond (.t 67)
   .skip
   (.exit 4)))
  (.seq (.block 5 (.seq (.reg [⟨(some 70), none, .mov (.t 7)⟩,
    ⟨(some 71), none, .mov (.t 0)⟩,
    ⟨(some 72), none, .mov (.t 9)⟩,
    ⟨(some 73), none, .iaddr 14 none (.t 71) (.t 72)⟩,
    ⟨(some 74), none, .load (some 14) (.t 73)⟩,
    ⟨(some 75), none, .call 9 [(.t 70), (.t 74)]⟩])
  (.seq (.reg [⟨(some 76), none, .mov (.t 1)⟩,
    ⟨(some 77), none, .mov (.t 9)⟩,
    ⟨(some 78), none, .iaddr 1 none (.t 76) (.t 77)⟩,
    ⟨(some 79), none, .load none (.t 78)⟩])
  (.cond (.t 79)
   (.reg [⟨(some 80), none, .mov (.t 8)⟩,
     ⟨(some 81), none, .mov (.t 0)⟩,
     ⟨(some 82), none, .mov (.t 9)⟩,
     ⟨(some 83), none, .iaddr 14 none (.t 81) (.t 82)⟩,
     ⟨(some 84), none, .load (some 14) (.t 83)⟩,
     ⟨(some 85), none, .call 9 [(.t 80), (.t 84)]⟩])
   .skip))))
  (.reg [⟨(some 68), none, .mov (.t 9)⟩,
    ⟨(some 69), none, .bin .add .no (.t 68) (.c (.raw (.int .i64 1)))⟩,
    ⟨(some 9), none, .mov (.t 69)⟩]))))))
 (.seq (.reg [⟨(some 86), none, .mov (.t 7)⟩,
   ⟨(some 87), none, .mov (.t 8)⟩,
   ⟨(some 88), none, .call 14 [(.t 87)]⟩,
   ⟨(some 89), none, .call 15 [(.t 86), (.t 88)]⟩,
   ⟨(some 10), none, .mov (.t 89)⟩])
 (.seq (.seq (.reg [⟨(some 11), none, .mov (.c (.raw (.int .i64 0)))⟩])
 (.block 6 (.loop (.seq (.seq (.reg [⟨(some 90), none, .mov (.t 11)⟩,
    ⟨(some 91), none, .mov (.t 10)⟩,
    ⟨(some 92), none, .len .sl (.t 91)⟩,
    ⟨(some 93), none, .bin .lss .no (.t 90) (.t 92)⟩])
  (.cond (.t 93)
   .skip
   (.exit 6)))
  (.seq (.block 7 (.reg [⟨(some 96), none, .mov (.t 8)⟩,
    ⟨(some 97), none, .mov (.t 10)⟩,
    ⟨(some 98), none, .mov (.t 11)⟩,
    ⟨(some 99), none, .iaddr 14 none (.t 97) (.t 98)⟩,
    ⟨(some 100), none, .load (some 14) (.t 99)⟩,
    ⟨(some 101), none, .call 9 [(.t 96), (.t 100)]⟩]))
  (.reg [⟨(some 94), none, .mov (.t 11)⟩,
    ⟨(some 95), none, .bin .add .no (.t 94) (.c (.raw (.int .i64 1)))⟩,
    ⟨(some 11), none, .mov (.t 95)⟩]))))))
 (.seq (.reg [⟨(some 102), none, .mov (.t 7)⟩,
   ⟨(some 103), none, .call 14 [(.t 102)]⟩,
   ⟨(some 104), none, .mov (.t 8)⟩,
   ⟨(some 105), none, .call 14 [(.t 104)]⟩,
   ⟨(some 106), none, .call 11 [(.t 103), (.t 105)]⟩,
   ⟨(some 107), none, .mov (.t 106)⟩,
   ⟨(some 108), (some (107, true)), .mov (.t 7)⟩,
   ⟨(some 109), (some (107, true)), .mov (.t 8)⟩,
   ⟨(some 110), (some (107, true)), .call 14 [(.t 109)]⟩,
   ⟨(some 111), (some (107, true)), .call 15 [(.t 108), (.t 110)]⟩,
   ⟨(some 112), (some (107, true)), .len .sl (.t 111)⟩,
   ⟨(some 113), (some (107, true)), .bin .eql .no (.t 112) (.c (.raw (.int .i64 0)))⟩,
   ⟨(some 114), none, .pick (.t 107) (.t 113) (.c (.kb false))⟩,
   ⟨(some 4), none, .mov (.t 114)⟩])
 .ret)))))))))
theorem i_rostrumlaw16_CausalBehind : Is Tryd.prog 4 115 [.t 4] c_rostrumlaw16_CausalBehind := ⟨Tryd.f4, _, p_rostrumlaw16_CausalBehind, rfl, rfl, by kernel_rfl, by kernel_rfl, rfl⟩
def p_rostrumlaw16_CausalPlays : List (Nat × Pl) := [(13, (.fl 0 (.fl 1 (.fl 2 (.fl 3 (.fl 4 (.fl 6 (.st 5 [] (.st 7 [] (.fl 8 (.fl 9 (.fl 10 (.fl 11 (.fl 13 (.fr 14 (.fl 15 (.fr 16 (.st 12 [14, 16] (.fl 17 (.fl 18 (.fl 19 (.fl 20 (.fl 23 (.fr 24 (.fl 25 (.fr 26 (.st 21 [24, 26] (.st 22 [24, 26] (.st 27 [] (.fl 28 (.fl 29 .done))))))))))))))))))))))))))))))), (18, (.fl 0 (.fr 1 (.fl 4 (.fr 5 (.st 2 [5] (.st 3 [5] (.st 6 [] (.st 7 [] (.fl 8 .done))))))))))]
def c_rostrumlaw16_CausalPlays : VCode :=
 (.seq (.reg [⟨(some 5), none, .box 28 (.t 1)⟩,
   ⟨(some 7), none, .box 28 (.t 3)⟩,
   ⟨(some 8), none, .mov (.c (.kb false))⟩])
 (.seq (.seq (.reg [⟨(some 16), none, .call 6 []⟩,
   ⟨(some 17), none, .un .not (.t 16)⟩])
 (.cond (.t 17)
  (.seq (.reg [⟨(some 8), none, .mov (.c (.kb false))⟩])
  .ret)
  .skip))
 (.seq (.seq (.reg [⟨(some 18), none, .mov (.t 0)⟩,
   ⟨(some 19), none, .len .sl (.t 18)⟩,
   ⟨(some 20), none, .bin .gtr .no (.t 19) (.c (.raw (.int .i64 40)))⟩])
 (.cond (.t 20)
  (.seq (.reg [⟨(some 8), none, .mov (.c (.kb true))⟩])
  .ret)
  .skip))
 (.seq (.reg [⟨(some 21), none, .call 7 []⟩,
   ⟨(some 22), none, .build [(.int .i64 0), (.int .i64 0), (.int .i64 0), (.int .i64 0), (.int .i64 0), (.int .i64 0), (.int .i64 0), (.slice none 0 0), (.slice none 0 0)] []⟩,
   ⟨(some 23), none, .box 49 (.t 22)⟩,
   ⟨(some 9), none, .mov (.t 21)⟩,
   ⟨(some 10), none, .mov (.t 23)⟩])
 (.seq (.seq (.reg [⟨(some 11), none, .mov (.c (.raw (.int .i64 0)))⟩])
 (.block 0 (.loop (.seq (.seq (.reg [⟨(some 24), none, .mov (.t 11)⟩,
    ⟨(some 25), none, .mov (.t 0)⟩,
    ⟨(some 26), none, .len .sl (.t 25)⟩,
    ⟨(some 27), none, .bin .lss .no (.t 24) (.t 26)⟩])
  (.cond (.t 27)
   .skip
   (.exit 0)))
  (.seq (.block 1 (.seq (.seq (.reg [⟨(some 30), none, .mov (.t 0)⟩,
    ⟨(some 31), none, .mov (.t 11)⟩,
    ⟨(some 32), none, .iaddr 14 none (.t 30) (.t 31)⟩,
    ⟨(some 33), none, .load (some 14) (.t 32)⟩,
    ⟨(some 34), none, .call 8 [(.t 33)]⟩])
  (.cond (.t 34)
   (.seq (.reg [⟨(some 8), none, .mov (.c (.kb true))⟩])
   .ret)
   .skip))
  (.seq (.reg [⟨(some 36), none, .mov (.t 9)⟩,
    ⟨(some 37), none, .mov (.t 0)⟩,
    ⟨(some 38), none, .mov (.t 11)⟩,
    ⟨(some 39), none, .iaddr 14 none (.t 37) (.t 38)⟩,
    ⟨(some 40), none, .load (some 14) (.t 39)⟩,
    ⟨(some 41), none, .call 9 [(.t 36), (.t 40)]⟩,
    ⟨(some 35), none, .mov (.t 41)⟩,
    ⟨(some 42), none, .extr (.t 35) 0⟩,
    ⟨(some 43), none, .extr (.t 35) 1⟩,
    ⟨(some 12), none, .mov (.t 42)⟩,
    ⟨(some 13), none, .mov (.t 43)⟩])
  (.seq (.reg [⟨(some 45), none, .mov (.t 10)⟩,
    ⟨(some 46), none, .mov (.t 0)⟩,
    ⟨(some 47), none, .mov (.t 11)⟩,
    ⟨(some 48), none, .iaddr 14 none (.t 46) (.t 47)⟩,
    ⟨(some 49), none, .load (some 14) (.t 48)⟩,
    ⟨(some 50), none, .call 17 [(.t 49)]⟩,
    ⟨(some 51), none, .call 16 [(.t 45), (.t 50)]⟩,
    ⟨(some 44), none, .mov (.t 51)⟩,
    ⟨(some 52), none, .extr (.t 44) 0⟩,
    ⟨(some 53), none, .extr (.t 44) 1⟩,
    ⟨(some 14), none, .mov (.t 52)⟩,
    ⟨(some 15), none, .mov (.t 53)⟩])
  (.seq (.seq (.draw [⟨(some 54), none, .mov (.t 13)⟩,
    ⟨(some 55), none, .mov (.t 15)⟩,
    ⟨(some 56), none, .bin .neq .no (.t 54) (.t 55)⟩,
    ⟨(some 57), none, .mov (.t 56)⟩,
    ⟨(some 58), (some (57, false)), .mov (.t 12)⟩,
    ⟨(some 59), (some (57, false)), .call 19 [(.t 58)]⟩,
    ⟨(some 60), (some (57, false)), .mov (.t 14)⟩,
    ⟨(some 61), (some (57, false)), .call 18 [(.t 59), (.t 60)]⟩,
    ⟨(some 62), (some (57, false)), .un .not (.t 61)⟩,
    ⟨(some 63), none, .pick (.t 57) (.c (.kb true)) (.t 62)⟩,
    ⟨(some 64), none, .mov (.t 63)⟩,
    ⟨(some 65), (some (64, false)), .mov (.t 9)⟩,
    ⟨(some 66), (some (64, false)), .call 14 [(.t 65)]⟩,
    ⟨(some 67), (some (64, false)), .mov (.t 10)⟩,
    ⟨(some 68), (some (64, false)), .nilck (.t 67)⟩,
    ⟨(some 69), (some (64, false)), .faddr 0 (.t 68)⟩,
    ⟨(some 70), (some (64, false)), .load (some 7) (.t 69)⟩,
    ⟨(some 71), (some (64, false)), .bin .neq (.agg [.i, .i, .i, .i, .i, .i, .i]) (.t 66) (.t 70)⟩,
    ⟨(some 72), none, .pick (.t 64) (.c (.kb true)) (.t 71)⟩,
    ⟨(some 73), none, .mov (.t 72)⟩,
    ⟨(some 74), (some (73, false)), .mov (.t 9)⟩,
    ⟨(some 75), (some (73, false)), .call 20 [(.t 74)]⟩,
    ⟨(some 76), (some (73, false)), .call 19 [(.t 75)]⟩,
    ⟨(some 77), (some (73, false)), .mov (.t 10)⟩,
    ⟨(some 78), (some (73, false)), .nilck (.t 77)⟩,
    ⟨(some 79), (some (73, false)), .faddr 7 (.t 78)⟩,
    ⟨(some 80), (some (73, false)), .load none (.t 79)⟩,
    ⟨(some 81), (some (73, false)), .call 18 [(.t 76), (.t 80)]⟩,
    ⟨(some 82), (some (73, false)), .un .not (.t 81)⟩,
    ⟨(some 83), none, .pick (.t 73) (.c (.kb true)) (.t 82)⟩]
    (.fl 0 (.fl 1 (.fl 2 (.fl 3 (.fl 4 (.fl 6 (.st 5 [] (.st 7 [] (.fl 8 (.fl 9 (.fl 10 (.fl 11 (.fl 13 (.fr 14 (.fl 15 (.fr 16 (.st 12 [14, 16] (.fl 17 (.fl 18 (.fl 19 (.fl 20 (.fl 23 (.fr 24 (.fl 25 (.fr 26 (.st 21 [24, 26] (.st 22 [24, 26] (.st 27 [] (.fl 28 (.fl 29 .done)))))))))))))))))))))))))))))))
  (.cond (.t 83)
   (.seq (.reg [⟨(some 8), none, .mov (.c (.kb false))⟩])
   .ret)
   .skip))
  (.seq (.seq (.reg [⟨(some 84), none, .mov (.t 11)⟩,
    ⟨(some 85), none, .mov (.t 2)⟩,
    ⟨(some 86), none, .bin .eql .no (.t 84) (.t 85)⟩])
  (.cond (.t 86)
   (.seq (.reg [⟨(some 87), none, .mov (.t 9)⟩,
     ⟨(some 88), none, .load (some 7) (.t 7)⟩,
     ⟨(some 89), none, .call 21 [(.t 87), (.t 88)]⟩])
   (.reg [⟨(some 90), none, .mov (.t 10)⟩,
     ⟨(some 91), none, .load (some 7) (.t 7)⟩,
     ⟨(some 92), none, .call 22 [(.t 90), (.t 91)]⟩]))
   .skip))
  (.seq (.draw [⟨(some 93), none, .mov (.t 9)⟩,
    ⟨(some 94), none, .load (some 7) (.t 5)⟩,
    ⟨(some 95), none, .call 15 [(.t 93), (.t 94)]⟩,
    ⟨(some 96), none, .call 19 [(.t 95)]⟩,
    ⟨(some 97), none, .mov (.t 10)⟩,
    ⟨(some 98), none, .load (some 7) (.t 5)⟩,
    ⟨(some 99), none, .call 23 [(.t 97), (.t 98)]⟩,
    ⟨(some 100), none, .call 18 [(.t 96), (.t 99)]⟩,
    ⟨(some 101), none, .un .not (.t 100)⟩]
    (.fl 0 (.fr 1 (.fl 4 (.fr 5 (.st 2 [5] (.st 3 [5] (.st 6 [] (.st 7 [] (.fl 8 .done))))))))))
  (.cond (.t 101)
   (.seq (.reg [⟨(some 8), none, .mov (.c (.kb false))⟩])
   .ret)
   .skip))))))))
  (.reg [⟨(some 28), none, .mov (.t 11)⟩,
    ⟨(some 29), none, .bin .add .no (.t 28) (.c (.raw (.int .i64 1)))⟩,
    ⟨(some 11), none, .mov (.t 29)⟩]))))))
 (.seq (.reg [⟨(some 8), none, .mov (.c (.kb true))⟩])
 .ret))))))
theorem i_rostrumlaw16_CausalPlays : Is Tryd.prog 5 102 [.t 8] c_rostrumlaw16_CausalPlays := ⟨Tryd.f5, _, p_rostrumlaw16_CausalPlays, rfl, rfl, by kernel_rfl, by kernel_rfl, rfl⟩
def p_rostrumlaw16_awake : List (Nat × Pl) := []
def c_rostrumlaw16_awake : VCode :=
 (.seq (.reg [⟨(some 0), none, .mov (.c (.kb false))⟩])
 (.seq (.reg [⟨(some 7), none, .call 7 []⟩,
   ⟨(some 1), none, .mov (.t 7)⟩])
 (.seq (.seq (.reg [⟨(some 8), none, .mov (.t 1)⟩,
   ⟨(some 9), none, .bin .eql .p (.t 8) (.c (.raw (.pointer none)))⟩])
 (.cond (.t 9)
  (.seq (.reg [⟨(some 0), none, .mov (.c (.kb false))⟩])
  .ret)
  .skip))
 (.seq (.reg [⟨(some 11), none, .mov (.t 1)⟩,
   ⟨(some 12), none, .build [(.int .i64 0), (.int .i64 0)] [(0, 1, (.c (.raw (.int .i64 1)))), (1, 1, (.c (.raw (.int .i64 1))))]⟩,
   ⟨(some 13), none, .build [(.int .i64 0), (.int .i64 0), (.int .i64 0), (.int .i64 0), (.int .i64 0), (.int .i64 0), (.int .i64 0)] [(0, 1, (.c (.raw (.int .i64 1))))]⟩,
   ⟨(some 14), none, .build [(.int .i64 0), (.int .i64 0), (.int .i64 0), (.int .i64 0), (.int .i64 0), (.int .i64 0), (.int .i64 0), (.int .i64 0), (.int .i64 0), (.int .i64 0), (.string (ByteArray.mk #[])), (.string (ByteArray.mk #[])), (.int .i64 0), (.int .i64 0)] [(0, 2, (.t 12)), (2, 7, (.t 13)), (9, 1, (.c (.raw (.int .i64 3)))), (10, 1, (.c (.raw (.string (ByteArray.mk #[107]))))), (12, 1, (.c (.raw (.int .i64 1))))]⟩,
   ⟨(some 15), none, .call 9 [(.t 11), (.t 14)]⟩,
   ⟨(some 10), none, .mov (.t 15)⟩,
   ⟨(some 16), none, .extr (.t 10) 0⟩,
   ⟨(some 17), none, .extr (.t 10) 1⟩,
   ⟨(some 2), none, .mov (.t 16)⟩,
   ⟨(some 3), none, .mov (.t 17)⟩])
 (.seq (.reg [⟨(some 18), none, .mov (.t 1)⟩,
   ⟨(some 19), none, .call 20 [(.t 18)]⟩,
   ⟨(some 20), none, .len .sl (.t 19)⟩,
   ⟨(some 4), none, .mov (.t 20)⟩])
 (.seq (.reg [⟨(some 22), none, .mov (.t 1)⟩,
   ⟨(some 23), none, .build [(.int .i64 0), (.int .i64 0)] [(1, 1, (.c (.raw (.int .i64 1))))]⟩,
   ⟨(some 24), none, .build [(.int .i64 0), (.int .i64 0), (.int .i64 0), (.int .i64 0), (.int .i64 0), (.int .i64 0), (.int .i64 0), (.int .i64 0), (.int .i64 0), (.int .i64 0), (.string (ByteArray.mk #[])), (.string (ByteArray.mk #[])), (.int .i64 0), (.int .i64 0)] [(0, 2, (.t 23)), (9, 1, (.c (.raw (.int .i64 3)))), (10, 1, (.c (.raw (.string (ByteArray.mk #[107]))))), (12, 1, (.c (.raw (.int .i64 1))))]⟩,
   ⟨(some 25), none, .call 9 [(.t 22), (.t 24)]⟩,
   ⟨(some 21), none, .mov (.t 25)⟩,
   ⟨(some 26), none, .extr (.t 21) 0⟩,
   ⟨(some 27), none, .extr (.t 21) 1⟩,
   ⟨(some 5), none, .mov (.t 26)⟩,
   ⟨(some 6), none, .mov (.t 27)⟩])
 (.seq (.reg [⟨(some 28), none, .mov (.t 3)⟩,
   ⟨(some 29), none, .bin .eql .no (.t 28) (.c (.raw (.int .i64 0)))⟩,
   ⟨(some 30), none, .mov (.t 29)⟩,
   ⟨(some 31), (some (30, true)), .mov (.t 2)⟩,
   ⟨(some 32), (some (30, true)), .len .sl (.t 31)⟩,
   ⟨(some 33), (some (30, true)), .bin .eql .no (.t 32) (.c (.raw (.int .i64 0)))⟩,
   ⟨(some 34), none, .pick (.t 30) (.t 33) (.c (.kb false))⟩,
   ⟨(some 35), none, .mov (.t 34)⟩,
   ⟨(some 36), (some (35, true)), .mov (.t 4)⟩,
   ⟨(some 37), (some (35, true)), .bin .eql .no (.t 36) (.c (.raw (.int .i64 1)))⟩,
   ⟨(some 38), none, .pick (.t 35) (.t 37) (.c (.kb false))⟩,
   ⟨(some 39), none, .mov (.t 38)⟩,
   ⟨(some 40), (some (39, true)), .mov (.t 6)⟩,
   ⟨(some 41), (some (39, true)), .bin .eql .no (.t 40) (.c (.raw (.int .i64 0)))⟩,
   ⟨(some 42), none, .pick (.t 39) (.t 41) (.c (.kb false))⟩,
   ⟨(some 43), none, .mov (.t 42)⟩,
   ⟨(some 44), (some (43, true)), .mov (.t 5)⟩,
   ⟨(some 45), (some (43, true)), .len .sl (.t 44)⟩,
   ⟨(some 46), (some (43, true)), .bin .eql .no (.t 45) (.c (.raw (.int .i64 2)))⟩,
   ⟨(some 47), none, .pick (.t 43) (.t 46) (.c (.kb false))⟩,
   ⟨(some 48), none, .mov (.t 47)⟩,
   ⟨(some 49), (some (48, true)), .mov (.t 5)⟩,
   ⟨(some 50), (some (48, true)), .iaddr 14 none (.t 49) (.c (.raw (.int .i64 0)))⟩,
   ⟨(some 51), (some (48, true)), .faddr 0 (.t 50)⟩,
   ⟨(some 52), (some (48, true)), .load (some 2) (.t 51)⟩,
   ⟨(some 53), (some (48, true)), .build [(.int .i64 0), (.int .i64 0)] [(1, 1, (.c (.raw (.int .i64 1))))]⟩,
   ⟨(some 54), (some (48, true)), .bin .eql (.agg [.i, .i]) (.t 52) (.t 53)⟩,
   ⟨(some 55), none, .pick (.t 48) (.t 54) (.c (.kb false))⟩,
   ⟨(some 56), none, .mov (.t 55)⟩,
   ⟨(some 57), (some (56, true)), .mov (.t 5)⟩,
   ⟨(some 58), (some (56, true)), .iaddr 14 none (.t 57) (.c (.raw (.int .i64 1)))⟩,
   ⟨(some 59), (some (56, true)), .faddr 0 (.t 58)⟩,
   ⟨(some 60), (some (56, true)), .load (some 2) (.t 59)⟩,
   ⟨(some 61), (some (56, true)), .build [(.int .i64 0), (.int .i64 0)] [(0, 1, (.c (.raw (.int .i64 1)))), (1, 1, (.c (.raw (.int .i64 1))))]⟩,
   ⟨(some 62), (some (56, true)), .bin .eql (.agg [.i, .i]) (.t 60) (.t 61)⟩,
   ⟨(some 63), none, .pick (.t 56) (.t 62) (.c (.kb false))⟩,
   ⟨(some 64), none, .mov (.t 63)⟩,
   ⟨(some 65), (some (64, true)), .mov (.t 1)⟩,
   ⟨(some 66), (some (64, true)), .call 14 [(.t 65)]⟩,
   ⟨(some 67), (some (64, true)), .build [(.int .i64 0), (.int .i64 0), (.int .i64 0), (.int .i64 0), (.int .i64 0), (.int .i64 0), (.int .i64 0)] [(0, 1, (.c (.raw (.int .i64 1)))), (1, 1, (.c (.raw (.int .i64 1))))]⟩,
   ⟨(some 68), (some (64, true)), .bin .eql (.agg [.i, .i, .i, .i, .i, .i, .i]) (.t 66) (.t 67)⟩,
   ⟨(some 69), none, .pick (.t 64) (.t 68) (.c (.kb false))⟩,
   ⟨(some 70), none, .mov (.t 69)⟩,
   ⟨(some 71), (some (70, true)), .mov (.t 1)⟩,
   ⟨(some 72), (some (70, true)), .call 20 [(.t 71)]⟩,
   ⟨(some 73), (some (70, true)), .len .sl (.t 72)⟩,
   ⟨(some 74), (some (70, true)), .bin .eql .no (.t 73) (.c (.raw (.int .i64 0)))⟩,
   ⟨(some 75), none, .pick (.t 70) (.t 74) (.c (.kb false))⟩,
   ⟨(some 0), none, .mov (.t 75)⟩])
 .ret)))))))
theorem i_rostrumlaw16_awake : Is Tryd.prog 6 76 [.t 0] c_rostrumlaw16_awake := ⟨Tryd.f6, _, p_rostrumlaw16_awake, rfl, rfl, by kernel_rfl, by kernel_rfl, rfl⟩
def p_causal_New : List (Nat × Pl) := []
def c_causal_New : VCode :=
 (.seq (.reg [⟨(some 0), none, .mov (.c (.raw (.pointer none)))⟩])
 (.seq (.reg [⟨(some 1), none, .mkmap⟩,
   ⟨(some 2), none, .build [(.int .i64 0), (.int .i64 0), (.int .i64 0), (.int .i64 0), (.int .i64 0), (.int .i64 0), (.int .i64 0), (.map none), (.slice none 0 0)] [(7, 1, (.t 1))]⟩,
   ⟨(some 3), none, .box 64 (.t 2)⟩,
   ⟨(some 0), none, .mov (.t 3)⟩])
 .ret))
theorem i_causal_New : Is Tryd.prog 7 4 [.t 0] c_causal_New := ⟨Tryd.f7, _, p_causal_New, rfl, rfl, by kernel_rfl, by kernel_rfl, rfl⟩
def p_rostrumlaw16_long : List (Nat × Pl) := []
def c_rostrumlaw16_long : VCode :=
 (.seq (.reg [⟨(some 1), none, .box 30 (.t 0)⟩,
   ⟨(some 2), none, .mov (.c (.kb false))⟩])
 (.seq (.reg [⟨(some 3), none, .faddr 10 (.t 1)⟩,
   ⟨(some 4), none, .load none (.t 3)⟩,
   ⟨(some 5), none, .len .str (.t 4)⟩,
   ⟨(some 6), none, .bin .gtr .no (.t 5) (.c (.raw (.int .i64 100)))⟩,
   ⟨(some 7), none, .mov (.t 6)⟩,
   ⟨(some 8), (some (7, false)), .faddr 11 (.t 1)⟩,
   ⟨(some 9), (some (7, false)), .load none (.t 8)⟩,
   ⟨(some 10), (some (7, false)), .len .str (.t 9)⟩,
   ⟨(some 11), (some (7, false)), .bin .gtr .no (.t 10) (.c (.raw (.int .i64 150)))⟩,
   ⟨(some 12), none, .pick (.t 7) (.c (.kb true)) (.t 11)⟩,
   ⟨(some 2), none, .mov (.t 12)⟩])
 .ret))
theorem i_rostrumlaw16_long : Is Tryd.prog 8 13 [.t 2] c_rostrumlaw16_long := ⟨Tryd.f8, _, p_rostrumlaw16_long, rfl, rfl, by kernel_rfl, by kernel_rfl, rfl⟩
def p_causal_Buffer_Take : List (Nat × Pl) := [(3, (.fl 0 (.fr 1 (.fl 2 (.fr 3 (.fl 4 (.fr 5 (.fr 6 (.fl 7 (.fl 8 (.fl 9 (.st 10 [1, 3, 5, 6] (.st 11 [] (.fl 12 .done)))))))))))))), (4, (.fl 0 (.fl 1 (.fl 2 (.fr 3 (.fl 4 (.fr 5 (.fl 6 (.fr 7 (.st 8 [] (.fl 9 .done))))))))))), (6, (.fl 0 (.fr 1 (.fl 2 (.fr 3 (.fr 4 (.fl 5 (.fl 6 (.fr 7 (.fl 8 (.fr 9 (.fl 10 (.fr 11 (.st 12 [] (.fl 13 (.fl 14 .done)))))))))))))))), (8, (.fl 0 (.fr 1 (.fl 2 (.fr 3 (.fl 4 (.fr 5 (.fr 6 (.st 7 [] .done))))))))), (12, (.fl 0 (.fr 1 (.fl 2 (.fr 3 (.fl 4 (.fr 5 (.st 6 [] .done)))))))), (13, (.fl 0 (.fl 1 (.fl 2 (.fr 3 (.fl 4 (.fl 5 (.fr 6 (.fr 7 (.fl 8 (.fr 9 (.st 10 [] .done))))))))))))]
def c_causal_Buffer_Take : VCode :=
 (.seq (.reg [⟨(some 3), none, .box 30 (.t 1)⟩,
   ⟨(some 4), none, .mov (.c (.raw (.slice none 0 0)))⟩,
   ⟨(some 5), none, .mov (.c (.raw (.int .i64 0)))⟩])
 (.seq (.seq (.reg [⟨(some 11), none, .load (some 14) (.t 3)⟩,
   ⟨(some 12), none, .call 13 [(.t 11)]⟩,
   ⟨(some 13), none, .un .not (.t 12)⟩])
 (.cond (.t 13)
  (.seq (.reg [⟨(some 4), none, .mov (.c (.raw (.slice none 0 0)))⟩,
    ⟨(some 5), none, .mov (.c (.raw (.int .i64 1)))⟩])
  .ret)
  .skip))
 (.seq (.seq (.draw [⟨(some 15), none, .mov (.t 0)⟩,
   ⟨(some 16), none, .nilck (.t 15)⟩,
   ⟨(some 17), none, .faddr 7 (.t 16)⟩,
   ⟨(some 18), none, .load none (.t 17)⟩,
   ⟨(some 19), none, .faddr 0 (.t 3)⟩,
   ⟨(some 20), none, .load (some 2) (.t 19)⟩,
   ⟨(some 21), none, .lookup 62 true (.t 18) (.t 20)⟩,
   ⟨(some 14), none, .mov (.t 21)⟩,
   ⟨(some 22), none, .extr (.t 14) 0⟩,
   ⟨(some 23), none, .extr (.t 14) 1⟩,
   ⟨(some 6), none, .new 30 [(.int .i64 0), (.int .i64 0), (.int .i64 0), (.int .i64 0), (.int .i64 0), (.int .i64 0), (.int .i64 0), (.int .i64 0), (.int .i64 0), (.int .i64 0), (.string (ByteArray.mk #[])), (.string (ByteArray.mk #[])), (.int .i64 0), (.int .i64 0)]⟩,
   ⟨none, none, .store (some 14) (.t 6) (.t 22)⟩,
   ⟨(some 7), none, .mov (.t 23)⟩]
   (.fl 0 (.fr 1 (.fl 2 (.fr 3 (.fl 4 (.fr 5 (.fr 6 (.fl 7 (.fl 8 (.fl 9 (.st 10 [1, 3, 5, 6] (.st 11 [] (.fl 12 .done))))))))))))))
 (.seq (.draw [⟨(some 24), none, .mov (.t 7)⟩,
   ⟨(some 25), none, .mov (.t 24)⟩,
   ⟨(some 26), (some (25, false)), .mov (.t 0)⟩,
   ⟨(some 27), (some (25, false)), .nilck (.t 26)⟩,
   ⟨(some 28), (some (25, false)), .faddr 0 (.t 27)⟩,
   ⟨(some 29), (some (25, false)), .load (some 7) (.t 28)⟩,
   ⟨(some 30), (some (25, false)), .faddr 0 (.t 3)⟩,
   ⟨(some 31), (some (25, false)), .load (some 2) (.t 30)⟩,
   ⟨(some 32), (some (25, false)), .call 10 [(.t 29), (.t 31)]⟩,
   ⟨(some 33), none, .pick (.t 25) (.c (.kb true)) (.t 32)⟩]
   (.fl 0 (.fl 1 (.fl 2 (.fr 3 (.fl 4 (.fr 5 (.fl 6 (.fr 7 (.st 8 [] (.fl 9 .done)))))))))))
 (.cond (.t 33)
  (.seq (.reg [⟨(some 4), none, .mov (.c (.raw (.slice none 0 0)))⟩,
    ⟨(some 5), none, .mov (.c (.raw (.int .i64 5)))⟩])
  .ret)
  .skip)))
 (.seq (.seq (.draw [⟨(some 34), none, .mov (.t 0)⟩,
   ⟨(some 35), none, .nilck (.t 34)⟩,
   ⟨(some 36), none, .faddr 7 (.t 35)⟩,
   ⟨(some 37), none, .load none (.t 36)⟩,
   ⟨(some 38), none, .len .mp (.t 37)⟩,
   ⟨(some 39), none, .bin .geq .no (.t 38) (.c (.raw (.int .i64 1000)))⟩,
   ⟨(some 40), none, .mov (.t 39)⟩,
   ⟨(some 41), (some (40, true)), .load (some 14) (.t 3)⟩,
   ⟨(some 42), (some (40, true)), .mov (.t 0)⟩,
   ⟨(some 43), (some (40, true)), .nilck (.t 42)⟩,
   ⟨(some 44), (some (40, true)), .faddr 0 (.t 43)⟩,
   ⟨(some 45), (some (40, true)), .load (some 7) (.t 44)⟩,
   ⟨(some 46), (some (40, true)), .call 12 [(.t 41), (.t 45)]⟩,
   ⟨(some 47), (some (40, true)), .un .not (.t 46)⟩,
   ⟨(some 48), none, .pick (.t 40) (.t 47) (.c (.kb false))⟩]
   (.fl 0 (.fr 1 (.fl 2 (.fr 3 (.fr 4 (.fl 5 (.fl 6 (.fr 7 (.fl 8 (.fr 9 (.fl 10 (.fr 11 (.st 12 [] (.fl 13 (.fl 14 .done))))))))))))))))
 (.cond (.t 48)
  (.seq (.reg [⟨(some 4), none, .mov (.c (.raw (.slice none 0 0)))⟩,
    ⟨(some 5), none, .mov (.c (.raw (.int .i64 2)))⟩])
  .ret)
  .skip))
 (.seq (.draw [⟨(some 49), none, .mov (.t 0)⟩,
   ⟨(some 50), none, .nilck (.t 49)⟩,
   ⟨(some 51), none, .faddr 7 (.t 50)⟩,
   ⟨(some 52), none, .load none (.t 51)⟩,
   ⟨(some 53), none, .faddr 0 (.t 3)⟩,
   ⟨(some 54), none, .load (some 2) (.t 53)⟩,
   ⟨(some 55), none, .load (some 14) (.t 3)⟩,
   ⟨none, none, .mapup 62 (.t 52) (.t 54) (.t 55)⟩]
   (.fl 0 (.fr 1 (.fl 2 (.fr 3 (.fl 4 (.fr 5 (.fr 6 (.st 7 [] .done)))))))))
 (.seq (.reg [⟨(some 8), none, .mov (.c (.raw (.slice none 0 0)))⟩])
 (.seq (.block 0 (.loop (.block 1 (.seq (.reg [⟨(some 57), none, .mov (.t 0)⟩,
    ⟨(some 58), none, .call 24 [(.t 57)]⟩,
    ⟨(some 56), none, .mov (.t 58)⟩,
    ⟨(some 59), none, .extr (.t 56) 0⟩,
    ⟨(some 60), none, .extr (.t 56) 1⟩,
    ⟨(some 9), none, .new 30 [(.int .i64 0), (.int .i64 0), (.int .i64 0), (.int .i64 0), (.int .i64 0), (.int .i64 0), (.int .i64 0), (.int .i64 0), (.int .i64 0), (.int .i64 0), (.string (ByteArray.mk #[])), (.string (ByteArray.mk #[])), (.int .i64 0), (.int .i64 0)]⟩,
    ⟨none, none, .store (some 14) (.t 9) (.t 59)⟩,
    ⟨(some 10), none, .mov (.t 60)⟩])
  (.seq (.seq (.reg [⟨(some 61), none, .mov (.t 10)⟩,
    ⟨(some 62), none, .un .not (.t 61)⟩])
  (.cond (.t 62)
   (.exit 0)
   .skip))
  (.seq (.draw [⟨(some 63), none, .mov (.t 0)⟩,
    ⟨(some 64), none, .nilck (.t 63)⟩,
    ⟨(some 65), none, .faddr 7 (.t 64)⟩,
    ⟨(some 66), none, .load none (.t 65)⟩,
    ⟨(some 67), none, .faddr 0 (.t 9)⟩,
    ⟨(some 68), none, .load (some 2) (.t 67)⟩,
    ⟨none, none, .delete 62 (.t 66) (.t 68)⟩]
    (.fl 0 (.fr 1 (.fl 2 (.fr 3 (.fl 4 (.fr 5 (.st 6 [] .done))))))))
  (.seq (.draw [⟨(some 69), none, .mov (.t 0)⟩,
    ⟨(some 70), none, .faddr 0 (.t 9)⟩,
    ⟨(some 71), none, .faddr 0 (.t 70)⟩,
    ⟨(some 72), none, .load none (.t 71)⟩,
    ⟨(some 73), none, .faddr 0 (.t 9)⟩,
    ⟨(some 74), none, .faddr 1 (.t 73)⟩,
    ⟨(some 75), none, .load none (.t 74)⟩,
    ⟨(some 76), none, .nilck (.t 69)⟩,
    ⟨(some 77), none, .faddr 0 (.t 76)⟩,
    ⟨(some 78), none, .iaddr 1 (some 7) (.t 77) (.t 72)⟩,
    ⟨none, none, .store none (.t 78) (.t 75)⟩]
    (.fl 0 (.fl 1 (.fl 2 (.fr 3 (.fl 4 (.fl 5 (.fr 6 (.fr 7 (.fl 8 (.fr 9 (.st 10 [] .done))))))))))))
  (.reg [⟨(some 79), none, .mov (.t 8)⟩,
    ⟨(some 80), none, .load (some 14) (.t 9)⟩,
    ⟨(some 81), none, .bslice 30 1 [(.int .i64 0), (.int .i64 0), (.int .i64 0), (.int .i64 0), (.int .i64 0), (.int .i64 0), (.int .i64 0), (.int .i64 0), (.int .i64 0), (.int .i64 0), (.string (ByteArray.mk #[])), (.string (ByteArray.mk #[])), (.int .i64 0), (.int .i64 0)] [(0, 14, (.t 80))]⟩,
    ⟨(some 82), none, .append 30 14 128 [(.int .i64 0), (.int .i64 0), (.int .i64 0), (.int .i64 0), (.int .i64 0), (.int .i64 0), (.int .i64 0), (.int .i64 0), (.int .i64 0), (.int .i64 0), (.string (ByteArray.mk #[])), (.string (ByteArray.mk #[])), (.int .i64 0), (.int .i64 0)] (.t 79) (.t 81)⟩,
    ⟨(some 8), none, .mov (.t 82)⟩]))))))))
 (.seq (.reg [⟨(some 83), none, .mov (.t 0)⟩,
   ⟨(some 84), none, .mov (.t 0)⟩,
   ⟨(some 85), none, .nilck (.t 84)⟩,
   ⟨(some 86), none, .faddr 8 (.t 85)⟩,
   ⟨(some 87), none, .load none (.t 86)⟩,
   ⟨(some 88), none, .mov (.t 8)⟩,
   ⟨(some 89), none, .append 30 14 128 [(.int .i64 0), (.int .i64 0), (.int .i64 0), (.int .i64 0), (.int .i64 0), (.int .i64 0), (.int .i64 0), (.int .i64 0), (.int .i64 0), (.int .i64 0), (.string (ByteArray.mk #[])), (.string (ByteArray.mk #[])), (.int .i64 0), (.int .i64 0)] (.t 87) (.t 88)⟩,
   ⟨(some 90), none, .nilck (.t 83)⟩,
   ⟨(some 91), none, .faddr 8 (.t 90)⟩,
   ⟨none, none, .store none (.t 91) (.t 89)⟩])
 (.seq (.reg [⟨(some 92), none, .mov (.t 8)⟩,
   ⟨(some 4), none, .mov (.t 92)⟩,
   ⟨(some 5), none, .mov (.c (.raw (.int .i64 0)))⟩])
 .ret)))))))))
theorem i_causal_Buffer_Take : Is Tryd.prog 9 93 [.t 4, .t 5] c_causal_Buffer_Take := ⟨Tryd.f9, _, p_causal_Buffer_Take, rfl, rfl, by kernel_rfl, by kernel_rfl, rfl⟩
def p_vec_Has : List (Nat × Pl) := [(1, (.fl 0 (.fr 1 (.st 2 [] (.fl 3 (.fl 4 (.fr 5 (.fl 6 (.fl 7 (.fl 8 (.fl 9 (.fr 10 (.fl 11 (.fr 12 (.fr 13 (.fr 14 (.fl 15 (.fl 16 (.fl 17 .done)))))))))))))))))))]
def c_vec_Has : VCode :=
 (.seq (.reg [⟨(some 2), none, .box 28 (.t 0)⟩,
   ⟨(some 3), none, .box 26 (.t 1)⟩,
   ⟨(some 4), none, .mov (.c (.kb false))⟩])
 (.seq (.draw [⟨(some 5), none, .faddr 0 (.t 3)⟩,
   ⟨(some 6), none, .load none (.t 5)⟩,
   ⟨(some 7), none, .call 25 [(.t 6)]⟩,
   ⟨(some 8), none, .mov (.t 7)⟩,
   ⟨(some 9), (some (8, true)), .faddr 1 (.t 3)⟩,
   ⟨(some 10), (some (8, true)), .load none (.t 9)⟩,
   ⟨(some 11), (some (8, true)), .bin .geq .no (.t 10) (.c (.raw (.int .i64 1)))⟩,
   ⟨(some 12), none, .pick (.t 8) (.t 11) (.c (.kb false))⟩,
   ⟨(some 13), none, .mov (.t 12)⟩,
   ⟨(some 14), (some (13, true)), .faddr 1 (.t 3)⟩,
   ⟨(some 15), (some (13, true)), .load none (.t 14)⟩,
   ⟨(some 16), (some (13, true)), .faddr 0 (.t 3)⟩,
   ⟨(some 17), (some (13, true)), .load none (.t 16)⟩,
   ⟨(some 18), (some (13, true)), .iaddr 1 (some 7) (.t 2) (.t 17)⟩,
   ⟨(some 19), (some (13, true)), .load none (.t 18)⟩,
   ⟨(some 20), (some (13, true)), .bin .leq .no (.t 15) (.t 19)⟩,
   ⟨(some 21), none, .pick (.t 13) (.t 20) (.c (.kb false))⟩,
   ⟨(some 4), none, .mov (.t 21)⟩]
   (.fl 0 (.fr 1 (.st 2 [] (.fl 3 (.fl 4 (.fr 5 (.fl 6 (.fl 7 (.fl 8 (.fl 9 (.fr 10 (.fl 11 (.fr 12 (.fr 13 (.fr 14 (.fl 15 (.fl 16 (.fl 17 .done)))))))))))))))))))
 .ret))
theorem i_vec_Has : Is Tryd.prog 10 22 [.t 4] c_vec_Has := ⟨Tryd.f10, _, p_vec_Has, rfl, rfl, by kernel_rfl, by kernel_rfl, rfl⟩
def p_vec_Le : List (Nat × Pl) := [(4, (.fl 0 (.fr 1 (.fr 2 (.fl 3 (.fr 4 (.fr 5 (.fl 6 .done))))))))]
def c_vec_Le : VCode :=
 (.seq (.reg [⟨(some 2), none, .box 28 (.t 0)⟩,
   ⟨(some 3), none, .box 28 (.t 1)⟩,
   ⟨(some 4), none, .mov (.c (.kb false))⟩])
 (.seq (.seq (.reg [⟨(some 6), none, .mov (.c (.raw (.int .i64 0)))⟩])
 (.block 0 (.loop (.seq (.reg [⟨(some 7), none, .bin .lss .no (.t 6) (.c (.raw (.int .i64 7)))⟩])
  (.seq (.cond (.t 7)
   .skip
   (.exit 0))
  (.seq (.block 1 (.seq (.reg [⟨(some 8), none, .mov (.t 6)⟩,
    ⟨(some 5), none, .mov (.t 8)⟩])
  (.seq (.draw [⟨(some 9), none, .mov (.t 5)⟩,
    ⟨(some 10), none, .iaddr 1 (some 7) (.t 2) (.t 9)⟩,
    ⟨(some 11), none, .load none (.t 10)⟩,
    ⟨(some 12), none, .mov (.t 5)⟩,
    ⟨(some 13), none, .iaddr 1 (some 7) (.t 3) (.t 12)⟩,
    ⟨(some 14), none, .load none (.t 13)⟩,
    ⟨(some 15), none, .bin .gtr .no (.t 11) (.t 14)⟩]
    (.fl 0 (.fr 1 (.fr 2 (.fl 3 (.fr 4 (.fr 5 (.fl 6 .done))))))))
  (.cond (.t 15)
   (.seq (.reg [⟨(some 4), none, .mov (.c (.kb false))⟩])
   .ret)
   .skip))))
  (.reg [⟨(some 16), none, .bin .add .no (.t 6) (.c (.raw (.int .i64 1)))⟩,
    ⟨(some 6), none, .mov (.t 16)⟩])))))))
 (.seq (.reg [⟨(some 4), none, .mov (.c (.kb true))⟩])
 .ret)))
theorem i_vec_Le : Is Tryd.prog 11 17 [.t 4] c_vec_Le := ⟨Tryd.f11, _, p_vec_Le, rfl, rfl, by kernel_rfl, by kernel_rfl, rfl⟩
def p_shadow_Ready : List (Nat × Pl) := []
def c_shadow_Ready : VCode :=
 (.seq (.reg [⟨(some 2), none, .box 30 (.t 0)⟩,
   ⟨(some 3), none, .box 28 (.t 1)⟩,
   ⟨(some 4), none, .mov (.c (.kb false))⟩])
 (.seq (.reg [⟨(some 5), none, .load (some 7) (.t 3)⟩,
   ⟨(some 6), none, .faddr 0 (.t 2)⟩,
   ⟨(some 7), none, .load (some 2) (.t 6)⟩,
   ⟨(some 8), none, .call 10 [(.t 5), (.t 7)]⟩,
   ⟨(some 9), none, .un .not (.t 8)⟩,
   ⟨(some 10), none, .mov (.t 9)⟩,
   ⟨(some 11), (some (10, true)), .faddr 2 (.t 2)⟩,
   ⟨(some 12), (some (10, true)), .load (some 7) (.t 11)⟩,
   ⟨(some 13), (some (10, true)), .load (some 7) (.t 3)⟩,
   ⟨(some 14), (some (10, true)), .call 11 [(.t 12), (.t 13)]⟩,
   ⟨(some 15), none, .pick (.t 10) (.t 14) (.c (.kb false))⟩,
   ⟨(some 4), none, .mov (.t 15)⟩])
 .ret))
theorem i_shadow_Ready : Is Tryd.prog 12 16 [.t 4] c_shadow_Ready := ⟨Tryd.f12, _, p_shadow_Ready, rfl, rfl, by kernel_rfl, by kernel_rfl, rfl⟩
def p_shadow_Good : List (Nat × Pl) := [(1, (.fl 0 (.fr 1 (.st 2 [] (.fl 3 (.fl 4 (.fl 5 (.fr 6 (.st 7 [] (.fl 8 (.fl 9 (.fl 10 (.fl 11 (.fl 12 (.fr 13 (.fl 14 (.fr 15 (.fr 16 (.fl 17 (.fl 18 (.fr 19 (.fl 20 (.fl 21 (.fl 22 (.fl 23 (.fl 24 (.fr 25 (.st 26 [] (.fl 27 (.fl 28 (.fl 29 (.fl 30 (.fr 31 (.fl 32 (.fl 33 (.fl 34 .done))))))))))))))))))))))))))))))))))))]
def c_shadow_Good : VCode :=
 (.seq (.reg [⟨(some 1), none, .box 30 (.t 0)⟩,
   ⟨(some 2), none, .mov (.c (.kb false))⟩])
 (.seq (.seq (.draw [⟨(some 3), none, .faddr 0 (.t 1)⟩,
   ⟨(some 4), none, .load (some 2) (.t 3)⟩,
   ⟨(some 5), none, .call 26 [(.t 4)]⟩,
   ⟨(some 6), none, .un .not (.t 5)⟩,
   ⟨(some 7), none, .mov (.t 6)⟩,
   ⟨(some 8), (some (7, false)), .faddr 2 (.t 1)⟩,
   ⟨(some 9), (some (7, false)), .load (some 7) (.t 8)⟩,
   ⟨(some 10), (some (7, false)), .call 27 [(.t 9)]⟩,
   ⟨(some 11), (some (7, false)), .un .not (.t 10)⟩,
   ⟨(some 12), none, .pick (.t 7) (.c (.kb true)) (.t 11)⟩,
   ⟨(some 13), none, .mov (.t 12)⟩,
   ⟨(some 14), (some (13, false)), .faddr 0 (.t 1)⟩,
   ⟨(some 15), (some (13, false)), .faddr 0 (.t 14)⟩,
   ⟨(some 16), (some (13, false)), .load none (.t 15)⟩,
   ⟨(some 17), (some (13, false)), .faddr 2 (.t 1)⟩,
   ⟨(some 18), (some (13, false)), .iaddr 1 (some 7) (.t 17) (.t 16)⟩,
   ⟨(some 19), (some (13, false)), .load none (.t 18)⟩,
   ⟨(some 20), (some (13, false)), .faddr 0 (.t 1)⟩,
   ⟨(some 21), (some (13, false)), .faddr 1 (.t 20)⟩,
   ⟨(some 22), (some (13, false)), .load none (.t 21)⟩,
   ⟨(some 23), (some (13, false)), .bin .sub .no (.t 22) (.c (.raw (.int .i64 1)))⟩,
   ⟨(some 24), (some (13, false)), .bin .neq .no (.t 19) (.t 23)⟩,
   ⟨(some 25), none, .pick (.t 13) (.c (.kb true)) (.t 24)⟩,
   ⟨(some 26), none, .mov (.t 25)⟩,
   ⟨(some 27), (some (26, false)), .faddr 10 (.t 1)⟩,
   ⟨(some 28), (some (26, false)), .load none (.t 27)⟩,
   ⟨(some 29), (some (26, false)), .call 28 [(.t 28)]⟩,
   ⟨(some 30), (some (26, false)), .un .not (.t 29)⟩,
   ⟨(some 31), none, .pick (.t 26) (.c (.kb true)) (.t 30)⟩,
   ⟨(some 32), none, .mov (.t 31)⟩,
   ⟨(some 33), (some (32, false)), .faddr 11 (.t 1)⟩,
   ⟨(some 34), (some (32, false)), .load none (.t 33)⟩,
   ⟨(some 35), (some (32, false)), .len .str (.t 34)⟩,
   ⟨(some 36), (some (32, false)), .bin .gtr .no (.t 35) (.c (.raw (.int .i64 100)))⟩,
   ⟨(some 37), none, .pick (.t 32) (.c (.kb true)) (.t 36)⟩]
   (.fl 0 (.fr 1 (.st 2 [] (.fl 3 (.fl 4 (.fl 5 (.fr 6 (.st 7 [] (.fl 8 (.fl 9 (.fl 10 (.fl 11 (.fl 12 (.fr 13 (.fl 14 (.fr 15 (.fr 16 (.fl 17 (.fl 18 (.fr 19 (.fl 20 (.fl 21 (.fl 22 (.fl 23 (.fl 24 (.fr 25 (.st 26 [] (.fl 27 (.fl 28 (.fl 29 (.fl 30 (.fr 31 (.fl 32 (.fl 33 (.fl 34 .done))))))))))))))))))))))))))))))))))))
 (.cond (.t 37)
  (.seq (.reg [⟨(some 2), none, .mov (.c (.kb false))⟩])
  .ret)
  .skip))
 (.seq (.seq (.reg [⟨(some 38), none, .faddr 12 (.t 1)⟩,
   ⟨(some 39), none, .load none (.t 38)⟩,
   ⟨(some 40), none, .bin .lss .no (.t 39) (.c (.raw (.int .i64 (-1099511627776))))⟩,
   ⟨(some 41), none, .mov (.t 40)⟩,
   ⟨(some 42), (some (41, false)), .faddr 12 (.t 1)⟩,
   ⟨(some 43), (some (41, false)), .load none (.t 42)⟩,
   ⟨(some 44), (some (41, false)), .bin .gtr .no (.t 43) (.c (.raw (.int .i64 1099511627776)))⟩,
   ⟨(some 45), none, .pick (.t 41) (.c (.kb true)) (.t 44)⟩,
   ⟨(some 46), none, .mov (.t 45)⟩,
   ⟨(some 47), (some (46, false)), .faddr 13 (.t 1)⟩,
   ⟨(some 48), (some (46, false)), .load none (.t 47)⟩,
   ⟨(some 49), (some (46, false)), .bin .lss .no (.t 48) (.c (.raw (.int .i64 0)))⟩,
   ⟨(some 50), none, .pick (.t 46) (.c (.kb true)) (.t 49)⟩,
   ⟨(some 51), none, .mov (.t 50)⟩,
   ⟨(some 52), (some (51, false)), .faddr 13 (.t 1)⟩,
   ⟨(some 53), (some (51, false)), .load none (.t 52)⟩,
   ⟨(some 54), (some (51, false)), .bin .gtr .no (.t 53) (.c (.raw (.int .i64 1099511627776)))⟩,
   ⟨(some 55), none, .pick (.t 51) (.c (.kb true)) (.t 54)⟩])
 (.cond (.t 55)
  (.seq (.reg [⟨(some 2), none, .mov (.c (.kb false))⟩])
  .ret)
  .skip))
 (.seq (.seq (.reg [⟨(some 56), none, .faddr 9 (.t 1)⟩,
   ⟨(some 57), none, .load none (.t 56)⟩])
 (.block 0 (.seq (.seq (.reg [⟨(some 59), none, .bin .eql .no (.t 57) (.c (.raw (.int .i64 1)))⟩,
   ⟨(some 58), none, .mov (.t 59)⟩])
 (.cond (.t 58)
  .skip
  (.reg [⟨(some 60), none, .bin .eql .no (.t 57) (.c (.raw (.int .i64 2)))⟩,
    ⟨(some 58), none, .mov (.t 60)⟩])))
 (.cond (.t 58)
  (.seq (.reg [⟨(some 61), none, .faddr 12 (.t 1)⟩,
    ⟨(some 62), none, .load none (.t 61)⟩,
    ⟨(some 63), none, .bin .eql .no (.t 62) (.c (.raw (.int .i64 0)))⟩,
    ⟨(some 64), none, .mov (.t 63)⟩,
    ⟨(some 65), (some (64, true)), .faddr 13 (.t 1)⟩,
    ⟨(some 66), (some (64, true)), .load none (.t 65)⟩,
    ⟨(some 67), (some (64, true)), .bin .eql .no (.t 66) (.c (.raw (.int .i64 0)))⟩,
    ⟨(some 68), none, .pick (.t 64) (.t 67) (.c (.kb false))⟩,
    ⟨(some 2), none, .mov (.t 68)⟩])
  .ret)
  (.seq (.reg [⟨(some 70), none, .bin .eql .no (.t 57) (.c (.raw (.int .i64 3)))⟩,
    ⟨(some 69), none, .mov (.t 70)⟩])
  (.cond (.t 69)
   (.seq (.reg [⟨(some 71), none, .faddr 11 (.t 1)⟩,
     ⟨(some 72), none, .load none (.t 71)⟩,
     ⟨(some 73), none, .bin .eql .no (.t 72) (.c (.raw (.string (ByteArray.mk #[]))))⟩,
     ⟨(some 74), none, .mov (.t 73)⟩,
     ⟨(some 75), (some (74, true)), .faddr 13 (.t 1)⟩,
     ⟨(some 76), (some (74, true)), .load none (.t 75)⟩,
     ⟨(some 77), (some (74, true)), .bin .eql .no (.t 76) (.c (.raw (.int .i64 0)))⟩,
     ⟨(some 78), none, .pick (.t 74) (.t 77) (.c (.kb false))⟩,
     ⟨(some 2), none, .mov (.t 78)⟩])
   .ret)
   (.seq (.reg [⟨(some 80), none, .bin .eql .no (.t 57) (.c (.raw (.int .i64 4)))⟩,
     ⟨(some 79), none, .mov (.t 80)⟩])
   (.cond (.t 79)
    (.seq (.reg [⟨(some 81), none, .faddr 12 (.t 1)⟩,
      ⟨(some 82), none, .load none (.t 81)⟩,
      ⟨(some 83), none, .bin .eql .no (.t 82) (.c (.raw (.int .i64 0)))⟩,
      ⟨(some 2), none, .mov (.t 83)⟩])
    .ret)
    .skip))))))))
 (.seq (.reg [⟨(some 2), none, .mov (.c (.kb false))⟩])
 .ret)))))
theorem i_shadow_Good : Is Tryd.prog 13 84 [.t 2] c_shadow_Good := ⟨Tryd.f13, _, p_shadow_Good, rfl, rfl, by kernel_rfl, by kernel_rfl, rfl⟩
def p_causal_Buffer_Have : List (Nat × Pl) := []
def c_causal_Buffer_Have : VCode :=
 (.seq (.reg [⟨(some 2), none, .new 28 [(.int .i64 0), (.int .i64 0), (.int .i64 0), (.int .i64 0), (.int .i64 0), (.int .i64 0), (.int .i64 0)]⟩])
 (.seq (.reg [⟨(some 3), none, .mov (.t 0)⟩,
   ⟨(some 4), none, .nilck (.t 3)⟩,
   ⟨(some 5), none, .faddr 0 (.t 4)⟩,
   ⟨(some 6), none, .load (some 7) (.t 5)⟩,
   ⟨none, none, .store (some 7) (.t 2) (.t 6)⟩])
 .ret))
theorem i_causal_Buffer_Have : Is Tryd.prog 14 7 [.cell 2 (some 7)] c_causal_Buffer_Have := ⟨Tryd.f14, _, p_causal_Buffer_Have, rfl, rfl, by kernel_rfl, by kernel_rfl, rfl⟩
def p_causal_Buffer_Behind : List (Nat × Pl) := []
def c_causal_Buffer_Behind : VCode :=
 (.seq (.reg [⟨(some 3), none, .box 28 (.t 1)⟩,
   ⟨(some 4), none, .mov (.c (.raw (.slice none 0 0)))⟩])
 (.seq (.reg [⟨(some 5), none, .mov (.c (.raw (.slice none 0 0)))⟩])
 (.seq (.seq (.reg [⟨(some 8), none, .mov (.t 0)⟩,
   ⟨(some 9), none, .nilck (.t 8)⟩,
   ⟨(some 10), none, .faddr 8 (.t 9)⟩,
   ⟨(some 11), none, .load none (.t 10)⟩,
   ⟨(some 12), none, .len .sl (.t 11)⟩,
   ⟨(some 13), none, .mov (.c (.raw (.int .i64 0)))⟩])
 (.block 0 (.loop (.seq (.reg [⟨(some 14), none, .bin .lss .no (.t 13) (.t 12)⟩])
  (.seq (.cond (.t 14)
   .skip
   (.exit 0))
  (.seq (.block 1 (.seq (.reg [⟨(some 15), none, .iaddr 14 none (.t 11) (.t 13)⟩,
    ⟨(some 16), none, .load (some 14) (.t 15)⟩,
    ⟨(some 7), none, .new 30 [(.int .i64 0), (.int .i64 0), (.int .i64 0), (.int .i64 0), (.int .i64 0), (.int .i64 0), (.int .i64 0), (.int .i64 0), (.int .i64 0), (.int .i64 0), (.string (ByteArray.mk #[])), (.string (ByteArray.mk #[])), (.int .i64 0), (.int .i64 0)]⟩,
    ⟨none, none, .store (some 14) (.t 7) (.t 16)⟩])
  (.seq (.reg [⟨(some 17), none, .load (some 7) (.t 3)⟩,
    ⟨(some 18), none, .faddr 0 (.t 7)⟩,
    ⟨(some 19), none, .load (some 2) (.t 18)⟩,
    ⟨(some 20), none, .call 10 [(.t 17), (.t 19)]⟩,
    ⟨(some 21), none, .un .not (.t 20)⟩])
  (.cond (.t 21)
   (.reg [⟨(some 22), none, .mov (.t 5)⟩,
     ⟨(some 23), none, .load (some 14) (.t 7)⟩,
     ⟨(some 24), none, .bslice 30 1 [(.int .i64 0), (.int .i64 0), (.int .i64 0), (.int .i64 0), (.int .i64 0), (.int .i64 0), (.int .i64 0), (.int .i64 0), (.int .i64 0), (.int .i64 0), (.string (ByteArray.mk #[])), (.string (ByteArray.mk #[])), (.int .i64 0), (.int .i64 0)] [(0, 14, (.t 23))]⟩,
     ⟨(some 25), none, .append 30 14 128 [(.int .i64 0), (.int .i64 0), (.int .i64 0), (.int .i64 0), (.int .i64 0), (.int .i64 0), (.int .i64 0), (.int .i64 0), (.int .i64 0), (.int .i64 0), (.string (ByteArray.mk #[])), (.string (ByteArray.mk #[])), (.int .i64 0), (.int .i64 0)] (.t 22) (.t 24)⟩,
     ⟨(some 5), none, .mov (.t 25)⟩])
   .skip))))
  (.reg [⟨(some 26), none, .bin .add .no (.t 13) (.c (.raw (.int .i64 1)))⟩,
    ⟨(some 13), none, .mov (.t 26)⟩])))))))
 (.seq (.reg [⟨(some 27), none, .mov (.t 5)⟩,
   ⟨(some 4), none, .mov (.t 27)⟩])
 .ret))))
theorem i_causal_Buffer_Behind : Is Tryd.prog 15 28 [.t 4] c_causal_Buffer_Behind := ⟨Tryd.f15, _, p_causal_Buffer_Behind, rfl, rfl, by kernel_rfl, by kernel_rfl, rfl⟩
def p_rostrumref13_Buffer_Take : List (Nat × Pl) := [(4, (.fl 0 (.fl 1 (.fr 2 (.fl 3 (.fr 4 (.fl 5 (.fl 6 (.fl 7 (.fl 8 (.fr 9 (.fl 10 (.fr 11 (.fl 12 (.fr 13 (.fl 14 (.fr 15 (.fl 16 (.fr 17 (.st 18 [] (.fl 19 .done))))))))))))))))))))), (6, (.fl 0 (.fr 1 (.fl 2 (.fr 3 (.fl 4 (.fr 5 (.st 6 [] (.fl 7 (.fl 8 (.fl 9 (.fr 10 (.fl 11 (.fr 12 (.fl 13 (.fl 14 (.fl 15 (.fl 16 (.fr 17 (.fl 18 (.fr 19 (.fl 20 (.fr 21 (.fl 22 (.fr 23 (.fl 24 (.fr 25 (.fl 26 (.fl 27 (.fl 28 .done)))))))))))))))))))))))))))))), (8, (.fl 0 (.fr 1 (.fl 2 (.fr 3 (.fl 4 (.fl 5 (.fl 6 (.fr 7 (.fl 8 (.fr 9 (.fl 10 (.fr 11 (.st 12 [] (.fl 13 (.fl 14 .done)))))))))))))))), (10, (.fl 0 (.fl 2 (.fr 3 (.fl 4 (.fr 5 (.fl 6 (.fl 7 (.fr 9 (.fl 12 (.fr 13 (.fl 14 (.fr 15 (.fl 16 (.fl 17 (.br (.st 1 [3, 5, 9, 13, 15] (.br (.st 8 [9, 13, 15] (.st 10 [13, 15] (.st 11 [13, 15] (.st 18 [] (.fr 19 (.fl 20 (.st 21 [] .done))))))) (.st 10 [3, 5, 13, 15] (.st 8 [13, 15] (.st 11 [13, 15] (.st 18 [] (.fr 19 (.fl 20 (.st 21 [] .done))))))))) (.st 10 [3, 5, 13, 15] (.st 1 [3, 5, 13, 15] (.st 8 [13, 15] (.st 11 [13, 15] (.st 18 [] (.fr 19 (.fl 20 (.st 21 [] .done)))))))))))))))))))))))), (19, (.fr 0 (.fl 1 (.fr 2 (.fl 3 (.fr 4 (.st 5 [] .done))))))), (20, (.fl 0 (.fl 1 (.fl 2 (.fr 3 (.fl 4 (.fl 5 (.fr 6 (.fr 7 (.fl 8 (.fr 9 (.st 10 [] .done)))))))))))), (21, (.fl 0 (.fl 2 (.fr 3 (.fl 4 (.fr 5 (.fl 6 (.fl 7 (.fl 9 (.fr 10 (.fl 11 (.fr 12 (.fl 13 (.fl 14 (.fl 15 (.st 1 [3, 5, 10, 12] (.st 8 [10, 12] (.st 16 [] (.fr 17 (.fl 18 (.st 19 [] .done)))))))))))))))))))))]
def c_rostrumref13_Buffer_Take : VCode :=
 (.seq (.reg [⟨(some 3), none, .box 53 (.t 1)⟩,
   ⟨(some 4), none, .mov (.c (.raw (.slice none 0 0)))⟩,
   ⟨(some 5), none, .mov (.c (.raw (.int .i64 0)))⟩])
 (.seq (.seq (.reg [⟨(some 11), none, .load (some 14) (.t 3)⟩,
   ⟨(some 12), none, .call 29 [(.t 11)]⟩,
   ⟨(some 13), none, .un .not (.t 12)⟩])
 (.cond (.t 13)
  (.seq (.reg [⟨(some 4), none, .mov (.c (.raw (.slice none 0 0)))⟩,
    ⟨(some 5), none, .mov (.c (.raw (.int .i64 1)))⟩])
  .ret)
  .skip))
 (.seq (.reg [⟨(some 6), none, .mov (.c (.raw (.int .i64 0)))⟩])
 (.seq (.block 0 (.loop (.seq (.seq (.draw [⟨(some 14), none, .mov (.t 6)⟩,
    ⟨(some 15), none, .mov (.t 0)⟩,
    ⟨(some 16), none, .nilck (.t 15)⟩,
    ⟨(some 17), none, .faddr 7 (.t 16)⟩,
    ⟨(some 18), none, .load none (.t 17)⟩,
    ⟨(some 19), none, .len .sl (.t 18)⟩,
    ⟨(some 20), none, .bin .lss .no (.t 14) (.t 19)⟩,
    ⟨(some 21), none, .mov (.t 20)⟩,
    ⟨(some 22), (some (21, true)), .mov (.t 0)⟩,
    ⟨(some 23), (some (21, true)), .nilck (.t 22)⟩,
    ⟨(some 24), (some (21, true)), .faddr 7 (.t 23)⟩,
    ⟨(some 25), (some (21, true)), .load none (.t 24)⟩,
    ⟨(some 26), (some (21, true)), .mov (.t 6)⟩,
    ⟨(some 27), (some (21, true)), .iaddr 14 none (.t 25) (.t 26)⟩,
    ⟨(some 28), (some (21, true)), .faddr 0 (.t 27)⟩,
    ⟨(some 29), (some (21, true)), .load (some 2) (.t 28)⟩,
    ⟨(some 30), (some (21, true)), .faddr 0 (.t 3)⟩,
    ⟨(some 31), (some (21, true)), .load (some 2) (.t 30)⟩,
    ⟨(some 32), (some (21, true)), .call 30 [(.t 29), (.t 31)]⟩,
    ⟨(some 33), none, .pick (.t 21) (.t 32) (.c (.kb false))⟩]
    (.fl 0 (.fl 1 (.fr 2 (.fl 3 (.fr 4 (.fl 5 (.fl 6 (.fl 7 (.fl 8 (.fr 9 (.fl 10 (.fr 11 (.fl 12 (.fr 13 (.fl 14 (.fr 15 (.fl 16 (.fr 17 (.st 18 [] (.fl 19 .done)))))))))))))))))))))
  (.cond (.t 33)
   .skip
   (.exit 0)))
  (.block 1 (.reg [⟨(some 34), none, .mov (.t 6)⟩,
    ⟨(some 35), none, .bin .add .no (.t 34) (.c (.raw (.int .i64 1)))⟩,
    ⟨(some 6), none, .mov (.t 35)⟩])))))
 (.seq (.seq (.draw [⟨(some 36), none, .mov (.t 0)⟩,
   ⟨(some 37), none, .nilck (.t 36)⟩,
   ⟨(some 38), none, .faddr 0 (.t 37)⟩,
   ⟨(some 39), none, .load (some 7) (.t 38)⟩,
   ⟨(some 40), none, .faddr 0 (.t 3)⟩,
   ⟨(some 41), none, .load (some 2) (.t 40)⟩,
   ⟨(some 42), none, .call 31 [(.t 39), (.t 41)]⟩,
   ⟨(some 43), none, .mov (.t 42)⟩,
   ⟨(some 44), (some (43, false)), .mov (.t 6)⟩,
   ⟨(some 45), (some (43, false)), .mov (.t 0)⟩,
   ⟨(some 46), (some (43, false)), .nilck (.t 45)⟩,
   ⟨(some 47), (some (43, false)), .faddr 7 (.t 46)⟩,
   ⟨(some 48), (some (43, false)), .load none (.t 47)⟩,
   ⟨(some 49), (some (43, false)), .len .sl (.t 48)⟩,
   ⟨(some 50), (some (43, false)), .bin .lss .no (.t 44) (.t 49)⟩,
   ⟨(some 51), (some (43, false)), .mov (.t 50)⟩,
   ⟨(some 52), (some (51, true)), .mov (.t 0)⟩,
   ⟨(some 53), (some (51, true)), .nilck (.t 52)⟩,
   ⟨(some 54), (some (51, true)), .faddr 7 (.t 53)⟩,
   ⟨(some 55), (some (51, true)), .load none (.t 54)⟩,
   ⟨(some 56), (some (51, true)), .mov (.t 6)⟩,
   ⟨(some 57), (some (51, true)), .iaddr 14 none (.t 55) (.t 56)⟩,
   ⟨(some 58), (some (51, true)), .faddr 0 (.t 57)⟩,
   ⟨(some 59), (some (51, true)), .load (some 2) (.t 58)⟩,
   ⟨(some 60), (some (51, true)), .faddr 0 (.t 3)⟩,
   ⟨(some 61), (some (51, true)), .load (some 2) (.t 60)⟩,
   ⟨(some 62), (some (51, true)), .bin .eql (.agg [.i, .i]) (.t 59) (.t 61)⟩,
   ⟨(some 63), (some (43, false)), .pick (.t 51) (.t 62) (.c (.kb false))⟩,
   ⟨(some 64), none, .pick (.t 43) (.c (.kb true)) (.t 63)⟩]
   (.fl 0 (.fr 1 (.fl 2 (.fr 3 (.fl 4 (.fr 5 (.st 6 [] (.fl 7 (.fl 8 (.fl 9 (.fr 10 (.fl 11 (.fr 12 (.fl 13 (.fl 14 (.fl 15 (.fl 16 (.fr 17 (.fl 18 (.fr 19 (.fl 20 (.fr 21 (.fl 22 (.fr 23 (.fl 24 (.fr 25 (.fl 26 (.fl 27 (.fl 28 .done))))))))))))))))))))))))))))))
 (.cond (.t 64)
  (.seq (.reg [⟨(some 4), none, .mov (.c (.raw (.slice none 0 0)))⟩,
    ⟨(some 5), none, .mov (.c (.raw (.int .i64 5)))⟩])
  .ret)
  .skip))
 (.seq (.seq (.draw [⟨(some 65), none, .mov (.t 0)⟩,
   ⟨(some 66), none, .nilck (.t 65)⟩,
   ⟨(some 67), none, .faddr 7 (.t 66)⟩,
   ⟨(some 68), none, .load none (.t 67)⟩,
   ⟨(some 69), none, .len .sl (.t 68)⟩,
   ⟨(some 70), none, .bin .geq .no (.t 69) (.c (.raw (.int .i64 1000)))⟩,
   ⟨(some 71), none, .mov (.t 70)⟩,
   ⟨(some 72), (some (71, true)), .load (some 14) (.t 3)⟩,
   ⟨(some 73), (some (71, true)), .mov (.t 0)⟩,
   ⟨(some 74), (some (71, true)), .nilck (.t 73)⟩,
   ⟨(some 75), (some (71, true)), .faddr 0 (.t 74)⟩,
   ⟨(some 76), (some (71, true)), .load (some 7) (.t 75)⟩,
   ⟨(some 77), (some (71, true)), .call 32 [(.t 72), (.t 76)]⟩,
   ⟨(some 78), (some (71, true)), .un .not (.t 77)⟩,
   ⟨(some 79), none, .pick (.t 71) (.t 78) (.c (.kb false))⟩]
   (.fl 0 (.fr 1 (.fl 2 (.fr 3 (.fl 4 (.fl 5 (.fl 6 (.fr 7 (.fl 8 (.fr 9 (.fl 10 (.fr 11 (.st 12 [] (.fl 13 (.fl 14 .done))))))))))))))))
 (.cond (.t 79)
  (.seq (.reg [⟨(some 4), none, .mov (.c (.raw (.slice none 0 0)))⟩,
    ⟨(some 5), none, .mov (.c (.raw (.int .i64 2)))⟩])
  .ret)
  .skip))
 (.seq (.draw [⟨(some 80), none, .mov (.t 0)⟩,
   ⟨(some 81), none, .bslice 53 0 [] []⟩,
   ⟨(some 82), none, .mov (.t 0)⟩,
   ⟨(some 83), none, .nilck (.t 82)⟩,
   ⟨(some 84), none, .faddr 7 (.t 83)⟩,
   ⟨(some 85), none, .load none (.t 84)⟩,
   ⟨(some 86), none, .mov (.t 6)⟩,
   ⟨(some 87), none, .slice (some 14) (.t 85) none (some (.t 86))⟩,
   ⟨(some 88), none, .append 53 14 128 [(.int .i64 0), (.int .i64 0), (.int .i64 0), (.int .i64 0), (.int .i64 0), (.int .i64 0), (.int .i64 0), (.int .i64 0), (.int .i64 0), (.int .i64 0), (.string (ByteArray.mk #[])), (.string (ByteArray.mk #[])), (.int .i64 0), (.int .i64 0)] (.t 81) (.t 87)⟩,
   ⟨(some 89), none, .load (some 14) (.t 3)⟩,
   ⟨(some 90), none, .bslice 53 1 [(.int .i64 0), (.int .i64 0), (.int .i64 0), (.int .i64 0), (.int .i64 0), (.int .i64 0), (.int .i64 0), (.int .i64 0), (.int .i64 0), (.int .i64 0), (.string (ByteArray.mk #[])), (.string (ByteArray.mk #[])), (.int .i64 0), (.int .i64 0)] [(0, 14, (.t 89))]⟩,
   ⟨(some 91), none, .append 53 14 128 [(.int .i64 0), (.int .i64 0), (.int .i64 0), (.int .i64 0), (.int .i64 0), (.int .i64 0), (.int .i64 0), (.int .i64 0), (.int .i64 0), (.int .i64 0), (.string (ByteArray.mk #[])), (.string (ByteArray.mk #[])), (.int .i64 0), (.int .i64 0)] (.t 88) (.t 90)⟩,
   ⟨(some 92), none, .mov (.t 0)⟩,
   ⟨(some 93), none, .nilck (.t 92)⟩,
   ⟨(some 94), none, .faddr 7 (.t 93)⟩,
   ⟨(some 95), none, .load none (.t 94)⟩,
   ⟨(some 96), none, .mov (.t 6)⟩,
   ⟨(some 97), none, .slice (some 14) (.t 95) (some (.t 96)) none⟩,
   ⟨(some 98), none, .append 53 14 128 [(.int .i64 0), (.int .i64 0), (.int .i64 0), (.int .i64 0), (.int .i64 0), (.int .i64 0), (.int .i64 0), (.int .i64 0), (.int .i64 0), (.int .i64 0), (.string (ByteArray.mk #[])), (.string (ByteArray.mk #[])), (.int .i64 0), (.int .i64 0)] (.t 91) (.t 97)⟩,
   ⟨(some 99), none, .nilck (.t 80)⟩,
   ⟨(some 100), none, .faddr 7 (.t 99)⟩,
   ⟨none, none, .store none (.t 100) (.t 98)⟩]
   (.fl 0 (.fl 2 (.fr 3 (.fl 4 (.fr 5 (.fl 6 (.fl 7 (.fr 9 (.fl 12 (.fr 13 (.fl 14 (.fr 15 (.fl 16 (.fl 17 (.br (.st 1 [3, 5, 9, 13, 15] (.br (.st 8 [9, 13, 15] (.st 10 [13, 15] (.st 11 [13, 15] (.st 18 [] (.fr 19 (.fl 20 (.st 21 [] .done))))))) (.st 10 [3, 5, 13, 15] (.st 8 [13, 15] (.st 11 [13, 15] (.st 18 [] (.fr 19 (.fl 20 (.st 21 [] .done))))))))) (.st 10 [3, 5, 13, 15] (.st 1 [3, 5, 13, 15] (.st 8 [13, 15] (.st 11 [13, 15] (.st 18 [] (.fr 19 (.fl 20 (.st 21 [] .done))))))))))))))))))))))))
 (.seq (.reg [⟨(some 7), none, .mov (.c (.raw (.slice none 0 0)))⟩])
 (.seq (.seq (.reg [⟨(some 8), none, .mov (.c (.kb true))⟩])
 (.block 2 (.loop (.seq (.seq (.reg [⟨(some 101), none, .mov (.t 8)⟩])
  (.cond (.t 101)
   .skip
   (.exit 2)))
  (.block 3 (.seq (.reg [⟨(some 8), none, .mov (.c (.kb false))⟩])
  (.seq (.reg [⟨(some 9), none, .mov (.c (.raw (.int .i64 0)))⟩])
  (.block 4 (.loop (.seq (.seq (.reg [⟨(some 102), none, .mov (.t 9)⟩,
     ⟨(some 103), none, .mov (.t 0)⟩,
     ⟨(some 104), none, .nilck (.t 103)⟩,
     ⟨(some 105), none, .faddr 7 (.t 104)⟩,
     ⟨(some 106), none, .load none (.t 105)⟩,
     ⟨(some 107), none, .len .sl (.t 106)⟩,
     ⟨(some 108), none, .bin .lss .no (.t 102) (.t 107)⟩])
   (.cond (.t 108)
    .skip
    (.exit 4)))
   (.seq (.block 5 (.seq (.reg [⟨(some 111), none, .mov (.t 0)⟩,
     ⟨(some 112), none, .nilck (.t 111)⟩,
     ⟨(some 113), none, .faddr 7 (.t 112)⟩,
     ⟨(some 114), none, .load none (.t 113)⟩,
     ⟨(some 115), none, .mov (.t 9)⟩,
     ⟨(some 116), none, .iaddr 14 none (.t 114) (.t 115)⟩,
     ⟨(some 117), none, .load (some 14) (.t 116)⟩,
     ⟨(some 10), none, .new 53 [(.int .i64 0), (.int .i64 0), (.int .i64 0), (.int .i64 0), (.int .i64 0), (.int .i64 0), (.int .i64 0), (.int .i64 0), (.int .i64 0), (.int .i64 0), (.string (ByteArray.mk #[])), (.string (ByteArray.mk #[])), (.int .i64 0), (.int .i64 0)]⟩,
     ⟨none, none, .store (some 14) (.t 10) (.t 117)⟩])
   (.seq (.draw [⟨(some 118), none, .load (some 14) (.t 10)⟩,
     ⟨(some 119), none, .mov (.t 0)⟩,
     ⟨(some 120), none, .nilck (.t 119)⟩,
     ⟨(some 121), none, .faddr 0 (.t 120)⟩,
     ⟨(some 122), none, .load (some 7) (.t 121)⟩,
     ⟨(some 123), none, .call 32 [(.t 118), (.t 122)]⟩]
     (.fr 0 (.fl 1 (.fr 2 (.fl 3 (.fr 4 (.st 5 [] .done)))))))
   (.cond (.t 123)
    (.seq (.draw [⟨(some 124), none, .mov (.t 0)⟩,
      ⟨(some 125), none, .faddr 0 (.t 10)⟩,
      ⟨(some 126), none, .faddr 0 (.t 125)⟩,
      ⟨(some 127), none, .load none (.t 126)⟩,
      ⟨(some 128), none, .faddr 0 (.t 10)⟩,
      ⟨(some 129), none, .faddr 1 (.t 128)⟩,
      ⟨(some 130), none, .load none (.t 129)⟩,
      ⟨(some 131), none, .nilck (.t 124)⟩,
      ⟨(some 132), none, .faddr 0 (.t 131)⟩,
      ⟨(some 133), none, .iaddr 1 (some 7) (.t 132) (.t 127)⟩,
      ⟨none, none, .store none (.t 133) (.t 130)⟩]
      (.fl 0 (.fl 1 (.fl 2 (.fr 3 (.fl 4 (.fl 5 (.fr 6 (.fr 7 (.fl 8 (.fr 9 (.st 10 [] .done))))))))))))
    (.seq (.draw [⟨(some 134), none, .mov (.t 0)⟩,
      ⟨(some 135), none, .bslice 53 0 [] []⟩,
      ⟨(some 136), none, .mov (.t 0)⟩,
      ⟨(some 137), none, .nilck (.t 136)⟩,
      ⟨(some 138), none, .faddr 7 (.t 137)⟩,
      ⟨(some 139), none, .load none (.t 138)⟩,
      ⟨(some 140), none, .mov (.t 9)⟩,
      ⟨(some 141), none, .slice (some 14) (.t 139) none (some (.t 140))⟩,
      ⟨(some 142), none, .append 53 14 128 [(.int .i64 0), (.int .i64 0), (.int .i64 0), (.int .i64 0), (.int .i64 0), (.int .i64 0), (.int .i64 0), (.int .i64 0), (.int .i64 0), (.int .i64 0), (.string (ByteArray.mk #[])), (.string (ByteArray.mk #[])), (.int .i64 0), (.int .i64 0)] (.t 135) (.t 141)⟩,
      ⟨(some 143), none, .mov (.t 0)⟩,
      ⟨(some 144), none, .nilck (.t 143)⟩,
      ⟨(some 145), none, .faddr 7 (.t 144)⟩,
      ⟨(some 146), none, .load none (.t 145)⟩,
      ⟨(some 147), none, .mov (.t 9)⟩,
      ⟨(some 148), none, .bin .add .no (.t 147) (.c (.raw (.int .i64 1)))⟩,
      ⟨(some 149), none, .slice (some 14) (.t 146) (some (.t 148)) none⟩,
      ⟨(some 150), none, .append 53 14 128 [(.int .i64 0), (.int .i64 0), (.int .i64 0), (.int .i64 0), (.int .i64 0), (.int .i64 0), (.int .i64 0), (.int .i64 0), (.int .i64 0), (.int .i64 0), (.string (ByteArray.mk #[])), (.string (ByteArray.mk #[])), (.int .i64 0), (.int .i64 0)] (.t 142) (.t 149)⟩,
      ⟨(some 151), none, .nilck (.t 134)⟩,
      ⟨(some 152), none, .faddr 7 (.t 151)⟩,
      ⟨none, none, .store none (.t 152) (.t 150)⟩]
      (.fl 0 (.fl 2 (.fr 3 (.fl 4 (.fr 5 (.fl 6 (.fl 7 (.fl 9 (.fr 10 (.fl 11 (.fr 12 (.fl 13 (.fl 14 (.fl 15 (.st 1 [3, 5, 10, 12] (.st 8 [10, 12] (.st 16 [] (.fr 17 (.fl 18 (.st 19 [] .done)))))))))))))))))))))
    (.seq (.reg [⟨(some 153), none, .mov (.t 7)⟩,
      ⟨(some 154), none, .load (some 14) (.t 10)⟩,
      ⟨(some 155), none, .bslice 53 1 [(.int .i64 0), (.int .i64 0), (.int .i64 0), (.int .i64 0), (.int .i64 0), (.int .i64 0), (.int .i64 0), (.int .i64 0), (.int .i64 0), (.int .i64 0), (.string (ByteArray.mk #[])), (.string (ByteArray.mk #[])), (.int .i64 0), (.int .i64 0)] [(0, 14, (.t 154))]⟩,
      ⟨(some 156), none, .append 53 14 128 [(.int .i64 0), (.int .i64 0), (.int .i64 0), (.int .i64 0), (.int .i64 0), (.int .i64 0), (.int .i64 0), (.int .i64 0), (.int .i64 0), (.int .i64 0), (.string (ByteArray.mk #[])), (.string (ByteArray.mk #[])), (.int .i64 0), (.int .i64 0)] (.t 153) (.t 155)⟩,
      ⟨(some 7), none, .mov (.t 156)⟩])
    (.seq (.reg [⟨(some 8), none, .mov (.c (.kb true))⟩])
    (.exit 4)))))
    .skip))))
   (.reg [⟨(some 109), none, .mov (.t 9)⟩,
     ⟨(some 110), none, .bin .add .no (.t 109) (.c (.raw (.int .i64 1)))⟩,
     ⟨(some 9), none, .mov (.t 110)⟩]))))))))))))
 (.seq (.reg [⟨(some 157), none, .mov (.t 0)⟩,
   ⟨(some 158), none, .bslice 53 0 [] []⟩,
   ⟨(some 159), none, .mov (.t 0)⟩,
   ⟨(some 160), none, .nilck (.t 159)⟩,
   ⟨(some 161), none, .faddr 8 (.t 160)⟩,
   ⟨(some 162), none, .load none (.t 161)⟩,
   ⟨(some 163), none, .append 53 14 128 [(.int .i64 0), (.int .i64 0), (.int .i64 0), (.int .i64 0), (.int .i64 0), (.int .i64 0), (.int .i64 0), (.int .i64 0), (.int .i64 0), (.int .i64 0), (.string (ByteArray.mk #[])), (.string (ByteArray.mk #[])), (.int .i64 0), (.int .i64 0)] (.t 158) (.t 162)⟩,
   ⟨(some 164), none, .mov (.t 7)⟩,
   ⟨(some 165), none, .append 53 14 128 [(.int .i64 0), (.int .i64 0), (.int .i64 0), (.int .i64 0), (.int .i64 0), (.int .i64 0), (.int .i64 0), (.int .i64 0), (.int .i64 0), (.int .i64 0), (.string (ByteArray.mk #[])), (.string (ByteArray.mk #[])), (.int .i64 0), (.int .i64 0)] (.t 163) (.t 164)⟩,
   ⟨(some 166), none, .nilck (.t 157)⟩,
   ⟨(some 167), none, .faddr 8 (.t 166)⟩,
   ⟨none, none, .store none (.t 167) (.t 165)⟩])
 (.seq (.reg [⟨(some 168), none, .mov (.t 7)⟩,
   ⟨(some 4), none, .mov (.t 168)⟩,
   ⟨(some 5), none, .mov (.c (.raw (.int .i64 0)))⟩])
 .ret)))))))))))
theorem i_rostrumref13_Buffer_Take : Is Tryd.prog 16 169 [.t 4, .t 5] c_rostrumref13_Buffer_Take := ⟨Tryd.f16, _, p_rostrumref13_Buffer_Take, rfl, rfl, by kernel_rfl, by kernel_rfl, rfl⟩
def p_rostrumlaw16_sh : List (Nat × Pl) := []
def c_rostrumlaw16_sh : VCode :=
 (.seq (.reg [⟨(some 1), none, .box 30 (.t 0)⟩,
   ⟨(some 2), none, .new 53 [(.int .i64 0), (.int .i64 0), (.int .i64 0), (.int .i64 0), (.int .i64 0), (.int .i64 0), (.int .i64 0), (.int .i64 0), (.int .i64 0), (.int .i64 0), (.string (ByteArray.mk #[])), (.string (ByteArray.mk #[])), (.int .i64 0), (.int .i64 0)]⟩])
 (.seq (.reg [⟨(some 3), none, .faddr 0 (.t 1)⟩,
   ⟨(some 4), none, .load (some 2) (.t 3)⟩,
   ⟨(some 5), none, .faddr 2 (.t 1)⟩,
   ⟨(some 6), none, .load (some 7) (.t 5)⟩,
   ⟨(some 7), none, .faddr 9 (.t 1)⟩,
   ⟨(some 8), none, .load none (.t 7)⟩,
   ⟨(some 9), none, .faddr 10 (.t 1)⟩,
   ⟨(some 10), none, .load none (.t 9)⟩,
   ⟨(some 11), none, .faddr 11 (.t 1)⟩,
   ⟨(some 12), none, .load none (.t 11)⟩,
   ⟨(some 13), none, .faddr 12 (.t 1)⟩,
   ⟨(some 14), none, .load none (.t 13)⟩,
   ⟨(some 15), none, .faddr 13 (.t 1)⟩,
   ⟨(some 16), none, .load none (.t 15)⟩,
   ⟨(some 17), none, .build [(.int .i64 0), (.int .i64 0), (.int .i64 0), (.int .i64 0), (.int .i64 0), (.int .i64 0), (.int .i64 0), (.int .i64 0), (.int .i64 0), (.int .i64 0), (.string (ByteArray.mk #[])), (.string (ByteArray.mk #[])), (.int .i64 0), (.int .i64 0)] [(0, 2, (.t 4)), (2, 7, (.t 6)), (9, 1, (.t 8)), (10, 1, (.t 10)), (11, 1, (.t 12)), (12, 1, (.t 14)), (13, 1, (.t 16))]⟩,
   ⟨none, none, .store (some 14) (.t 2) (.t 17)⟩])
 .ret))
theorem i_rostrumlaw16_sh : Is Tryd.prog 17 18 [.cell 2 (some 14)] c_rostrumlaw16_sh := ⟨Tryd.f17, _, p_rostrumlaw16_sh, rfl, rfl, by kernel_rfl, by kernel_rfl, rfl⟩
def p_rostrumref13_Same : List (Nat × Pl) := [(6, (.fl 0 (.fl 1 (.fr 2 (.fr 3 (.fl 4 (.fl 5 (.fr 6 (.fr 7 (.fl 8 .done))))))))))]
def c_rostrumref13_Same : VCode :=
 (.seq (.reg [⟨(some 4), none, .mov (.c (.kb false))⟩])
 (.seq (.seq (.reg [⟨(some 6), none, .mov (.t 0)⟩,
   ⟨(some 7), none, .len .sl (.t 6)⟩,
   ⟨(some 8), none, .mov (.t 1)⟩,
   ⟨(some 9), none, .len .sl (.t 8)⟩,
   ⟨(some 10), none, .bin .neq .no (.t 7) (.t 9)⟩])
 (.cond (.t 10)
  (.seq (.reg [⟨(some 4), none, .mov (.c (.kb false))⟩])
  .ret)
  .skip))
 (.seq (.seq (.reg [⟨(some 5), none, .mov (.c (.raw (.int .i64 0)))⟩])
 (.block 0 (.loop (.seq (.seq (.reg [⟨(some 11), none, .mov (.t 5)⟩,
    ⟨(some 12), none, .mov (.t 0)⟩,
    ⟨(some 13), none, .len .sl (.t 12)⟩,
    ⟨(some 14), none, .bin .lss .no (.t 11) (.t 13)⟩])
  (.cond (.t 14)
   .skip
   (.exit 0)))
  (.seq (.block 1 (.seq (.draw [⟨(some 17), none, .mov (.t 0)⟩,
    ⟨(some 18), none, .mov (.t 5)⟩,
    ⟨(some 19), none, .iaddr 14 none (.t 17) (.t 18)⟩,
    ⟨(some 20), none, .load (some 14) (.t 19)⟩,
    ⟨(some 21), none, .mov (.t 1)⟩,
    ⟨(some 22), none, .mov (.t 5)⟩,
    ⟨(some 23), none, .iaddr 14 none (.t 21) (.t 22)⟩,
    ⟨(some 24), none, .load (some 14) (.t 23)⟩,
    ⟨(some 25), none, .bin .neq (.agg [.i, .i, .i, .i, .i, .i, .i, .i, .i, .i, .s, .s, .i, .i]) (.t 20) (.t 24)⟩]
    (.fl 0 (.fl 1 (.fr 2 (.fr 3 (.fl 4 (.fl 5 (.fr 6 (.fr 7 (.fl 8 .done))))))))))
  (.cond (.t 25)
   (.seq (.reg [⟨(some 4), none, .mov (.c (.kb false))⟩])
   .ret)
   .skip)))
  (.reg [⟨(some 15), none, .mov (.t 5)⟩,
    ⟨(some 16), none, .bin .add .no (.t 15) (.c (.raw (.int .i64 1)))⟩,
    ⟨(some 5), none, .mov (.t 16)⟩]))))))
 (.seq (.reg [⟨(some 4), none, .mov (.c (.kb true))⟩])
 .ret))))
theorem i_rostrumref13_Same : Is Tryd.prog 18 26 [.t 4] c_rostrumref13_Same := ⟨Tryd.f18, _, p_rostrumref13_Same, rfl, rfl, by kernel_rfl, by kernel_rfl, rfl⟩
def p_rostrumlaw16_shs : List (Nat × Pl) := []
def c_rostrumlaw16_shs : VCode :=
 (.seq (.reg [⟨(some 2), none, .mov (.c (.raw (.slice none 0 0)))⟩])
 (.seq (.reg [⟨(some 3), none, .mov (.c (.raw (.slice none 0 0)))⟩])
 (.seq (.seq (.reg [⟨(some 4), none, .mov (.c (.raw (.int .i64 0)))⟩])
 (.block 0 (.loop (.seq (.seq (.reg [⟨(some 5), none, .mov (.t 4)⟩,
    ⟨(some 6), none, .mov (.t 0)⟩,
    ⟨(some 7), none, .len .sl (.t 6)⟩,
    ⟨(some 8), none, .bin .lss .no (.t 5) (.t 7)⟩])
  (.cond (.t 8)
   .skip
   (.exit 0)))
  (.seq (.block 1 (.reg [⟨(some 11), none, .mov (.t 3)⟩,
    ⟨(some 12), none, .mov (.t 0)⟩,
    ⟨(some 13), none, .mov (.t 4)⟩,
    ⟨(some 14), none, .iaddr 14 none (.t 12) (.t 13)⟩,
    ⟨(some 15), none, .load (some 14) (.t 14)⟩,
    ⟨(some 16), none, .call 17 [(.t 15)]⟩,
    ⟨(some 17), none, .bslice 53 1 [(.int .i64 0), (.int .i64 0), (.int .i64 0), (.int .i64 0), (.int .i64 0), (.int .i64 0), (.int .i64 0), (.int .i64 0), (.int .i64 0), (.int .i64 0), (.string (ByteArray.mk #[])), (.string (ByteArray.mk #[])), (.int .i64 0), (.int .i64 0)] [(0, 14, (.t 16))]⟩,
    ⟨(some 18), none, .append 53 14 128 [(.int .i64 0), (.int .i64 0), (.int .i64 0), (.int .i64 0), (.int .i64 0), (.int .i64 0), (.int .i64 0), (.int .i64 0), (.int .i64 0), (.int .i64 0), (.string (ByteArray.mk #[])), (.string (ByteArray.mk #[])), (.int .i64 0), (.int .i64 0)] (.t 11) (.t 17)⟩,
    ⟨(some 3), none, .mov (.t 18)⟩]))
  (.reg [⟨(some 9), none, .mov (.t 4)⟩,
    ⟨(some 10), none, .bin .add .no (.t 9) (.c (.raw (.int .i64 1)))⟩,
    ⟨(some 4), none, .mov (.t 10)⟩]))))))
 (.seq (.reg [⟨(some 19), none, .mov (.t 3)⟩,
   ⟨(some 2), none, .mov (.t 19)⟩])
 .ret))))
theorem i_rostrumlaw16_shs : Is Tryd.prog 19 20 [.t 2] c_rostrumlaw16_shs := ⟨Tryd.f19, _, p_rostrumlaw16_shs, rfl, rfl, by kernel_rfl, by kernel_rfl, rfl⟩
def p_causal_Buffer_Held : List (Nat × Pl) := []
def c_causal_Buffer_Held : VCode :=
 (.seq (.reg [⟨(some 2), none, .mov (.c (.raw (.slice none 0 0)))⟩])
 (.seq (.reg [⟨(some 3), none, .mov (.t 0)⟩,
   ⟨(some 4), none, .nilck (.t 3)⟩,
   ⟨(some 5), none, .faddr 7 (.t 4)⟩,
   ⟨(some 6), none, .load none (.t 5)⟩,
   ⟨(some 7), none, .call 34 [(.t 6)]⟩,
   ⟨(some 8), none, .call 33 [(.t 7), (.c (.fn 35 []))]⟩,
   ⟨(some 2), none, .mov (.t 8)⟩])
 .ret))
theorem i_causal_Buffer_Held : Is Tryd.prog 20 9 [.t 2] c_causal_Buffer_Held := ⟨Tryd.f20, _, p_causal_Buffer_Held, rfl, rfl, by kernel_rfl, by kernel_rfl, rfl⟩
def p_causal_Buffer_Drop : List (Nat × Pl) := []
def c_causal_Buffer_Drop : VCode :=
 (.seq (.reg [⟨(some 3), none, .box 28 (.t 1)⟩])
 (.reg [⟨(some 4), none, .mov (.t 0)⟩,
   ⟨(some 5), none, .mov (.t 0)⟩,
   ⟨(some 6), none, .nilck (.t 5)⟩,
   ⟨(some 7), none, .faddr 8 (.t 6)⟩,
   ⟨(some 8), none, .load none (.t 7)⟩,
   ⟨(some 9), none, .mkfn 38 [(.t 3)]⟩,
   ⟨(some 10), none, .call 37 [(.t 8), (.t 9)]⟩,
   ⟨(some 11), none, .nilck (.t 4)⟩,
   ⟨(some 12), none, .faddr 8 (.t 11)⟩,
   ⟨none, none, .store none (.t 12) (.t 10)⟩]))
theorem i_causal_Buffer_Drop : Is Tryd.prog 21 13 [] c_causal_Buffer_Drop := ⟨Tryd.f21, _, p_causal_Buffer_Drop, rfl, rfl, by kernel_rfl, by kernel_rfl, rfl⟩
def p_rostrumref13_Buffer_Drop : List (Nat × Pl) := []
def c_rostrumref13_Buffer_Drop : VCode :=
 (.seq (.reg [⟨(some 3), none, .box 46 (.t 1)⟩])
 (.reg [⟨(some 4), none, .mov (.t 0)⟩,
   ⟨(some 5), none, .mov (.t 0)⟩,
   ⟨(some 6), none, .load (some 7) (.t 3)⟩,
   ⟨(some 7), none, .call 23 [(.t 5), (.t 6)]⟩,
   ⟨(some 8), none, .nilck (.t 4)⟩,
   ⟨(some 9), none, .faddr 8 (.t 8)⟩,
   ⟨none, none, .store none (.t 9) (.t 7)⟩]))
theorem i_rostrumref13_Buffer_Drop : Is Tryd.prog 22 10 [] c_rostrumref13_Buffer_Drop := ⟨Tryd.f22, _, p_rostrumref13_Buffer_Drop, rfl, rfl, by kernel_rfl, by kernel_rfl, rfl⟩
def p_rostrumref13_Buffer_Behind : List (Nat × Pl) := [(5, (.fr 0 (.fl 1 (.fr 2 (.fl 3 (.fr 4 (.fl 5 (.fr 6 (.fl 7 (.fr 8 (.st 9 [] (.fl 10 .done))))))))))))]
def c_rostrumref13_Buffer_Behind : VCode :=
 (.seq (.reg [⟨(some 3), none, .box 46 (.t 1)⟩,
   ⟨(some 4), none, .mov (.c (.raw (.slice none 0 0)))⟩])
 (.seq (.reg [⟨(some 5), none, .mov (.c (.raw (.slice none 0 0)))⟩])
 (.seq (.seq (.reg [⟨(some 6), none, .mov (.c (.raw (.int .i64 0)))⟩])
 (.block 0 (.loop (.seq (.seq (.reg [⟨(some 7), none, .mov (.t 6)⟩,
    ⟨(some 8), none, .mov (.t 0)⟩,
    ⟨(some 9), none, .nilck (.t 8)⟩,
    ⟨(some 10), none, .faddr 8 (.t 9)⟩,
    ⟨(some 11), none, .load none (.t 10)⟩,
    ⟨(some 12), none, .len .sl (.t 11)⟩,
    ⟨(some 13), none, .bin .lss .no (.t 7) (.t 12)⟩])
  (.cond (.t 13)
   .skip
   (.exit 0)))
  (.seq (.block 1 (.seq (.draw [⟨(some 16), none, .load (some 7) (.t 3)⟩,
    ⟨(some 17), none, .mov (.t 0)⟩,
    ⟨(some 18), none, .nilck (.t 17)⟩,
    ⟨(some 19), none, .faddr 8 (.t 18)⟩,
    ⟨(some 20), none, .load none (.t 19)⟩,
    ⟨(some 21), none, .mov (.t 6)⟩,
    ⟨(some 22), none, .iaddr 14 none (.t 20) (.t 21)⟩,
    ⟨(some 23), none, .faddr 0 (.t 22)⟩,
    ⟨(some 24), none, .load (some 2) (.t 23)⟩,
    ⟨(some 25), none, .call 31 [(.t 16), (.t 24)]⟩,
    ⟨(some 26), none, .un .not (.t 25)⟩]
    (.fr 0 (.fl 1 (.fr 2 (.fl 3 (.fr 4 (.fl 5 (.fr 6 (.fl 7 (.fr 8 (.st 9 [] (.fl 10 .done))))))))))))
  (.cond (.t 26)
   (.reg [⟨(some 27), none, .mov (.t 5)⟩,
     ⟨(some 28), none, .mov (.t 0)⟩,
     ⟨(some 29), none, .nilck (.t 28)⟩,
     ⟨(some 30), none, .faddr 8 (.t 29)⟩,
     ⟨(some 31), none, .load none (.t 30)⟩,
     ⟨(some 32), none, .mov (.t 6)⟩,
     ⟨(some 33), none, .iaddr 14 none (.t 31) (.t 32)⟩,
     ⟨(some 34), none, .load (some 14) (.t 33)⟩,
     ⟨(some 35), none, .bslice 53 1 [(.int .i64 0), (.int .i64 0), (.int .i64 0), (.int .i64 0), (.int .i64 0), (.int .i64 0), (.int .i64 0), (.int .i64 0), (.int .i64 0), (.int .i64 0), (.string (ByteArray.mk #[])), (.string (ByteArray.mk #[])), (.int .i64 0), (.int .i64 0)] [(0, 14, (.t 34))]⟩,
     ⟨(some 36), none, .append 53 14 128 [(.int .i64 0), (.int .i64 0), (.int .i64 0), (.int .i64 0), (.int .i64 0), (.int .i64 0), (.int .i64 0), (.int .i64 0), (.int .i64 0), (.int .i64 0), (.string (ByteArray.mk #[])), (.string (ByteArray.mk #[])), (.int .i64 0), (.int .i64 0)] (.t 27) (.t 35)⟩,
     ⟨(some 5), none, .mov (.t 36)⟩])
   .skip)))
  (.reg [⟨(some 14), none, .mov (.t 6)⟩,
    ⟨(some 15), none, .bin .add .no (.t 14) (.c (.raw (.int .i64 1)))⟩,
    ⟨(some 6), none, .mov (.t 15)⟩]))))))
 (.seq (.reg [⟨(some 37), none, .mov (.t 5)⟩,
   ⟨(some 4), none, .mov (.t 37)⟩])
 .ret))))
theorem i_rostrumref13_Buffer_Behind : Is Tryd.prog 23 38 [.t 4] c_rostrumref13_Buffer_Behind := ⟨Tryd.f23, _, p_rostrumref13_Buffer_Behind, rfl, rfl, by kernel_rfl, by kernel_rfl, rfl⟩
def p_causal_Buffer_next : List (Nat × Pl) := [(4, (.fl 0 (.fr 1 (.fl 2 (.fr 3 (.fl 4 (.fl 5 (.fl 6 (.fr 7 (.fl 8 (.fr 9 (.fr 10 (.fl 11 (.fr 12 (.fr 13 (.fl 14 (.fl 15 (.fl 16 (.st 17 [1, 3, 7, 9, 10, 12, 13] (.st 18 [] (.fl 19 .done))))))))))))))))))))), (5, (.fl 0 (.fl 1 (.fr 2 (.fl 3 (.fr 4 (.fl 5 (.fr 6 (.st 7 [] (.fl 8 .done))))))))))]
def c_causal_Buffer_next : VCode :=
 (.seq (.reg [⟨(some 2), none, .new 30 [(.int .i64 0), (.int .i64 0), (.int .i64 0), (.int .i64 0), (.int .i64 0), (.int .i64 0), (.int .i64 0), (.int .i64 0), (.int .i64 0), (.int .i64 0), (.string (ByteArray.mk #[])), (.string (ByteArray.mk #[])), (.int .i64 0), (.int .i64 0)]⟩,
   ⟨(some 3), none, .mov (.c (.kb false))⟩])
 (.seq (.seq (.reg [⟨(some 7), none, .mov (.c (.raw (.int .i64 0)))⟩])
 (.block 0 (.loop (.seq (.reg [⟨(some 8), none, .bin .lss .no (.t 7) (.c (.raw (.int .i64 7)))⟩])
  (.seq (.cond (.t 8)
   .skip
   (.exit 0))
  (.seq (.block 1 (.seq (.reg [⟨(some 9), none, .mov (.t 7)⟩,
    ⟨(some 4), none, .mov (.t 9)⟩])
  (.seq (.draw [⟨(some 11), none, .mov (.t 0)⟩,
    ⟨(some 12), none, .nilck (.t 11)⟩,
    ⟨(some 13), none, .faddr 7 (.t 12)⟩,
    ⟨(some 14), none, .load none (.t 13)⟩,
    ⟨(some 15), none, .mov (.t 4)⟩,
    ⟨(some 16), none, .mov (.t 0)⟩,
    ⟨(some 17), none, .mov (.t 4)⟩,
    ⟨(some 18), none, .nilck (.t 16)⟩,
    ⟨(some 19), none, .faddr 0 (.t 18)⟩,
    ⟨(some 20), none, .iaddr 1 (some 7) (.t 19) (.t 17)⟩,
    ⟨(some 21), none, .load none (.t 20)⟩,
    ⟨(some 22), none, .bin .add .no (.t 21) (.c (.raw (.int .i64 1)))⟩,
    ⟨(some 23), none, .build [(.int .i64 0), (.int .i64 0)] [(0, 1, (.t 15)), (1, 1, (.t 22))]⟩,
    ⟨(some 24), none, .lookup 62 true (.t 14) (.t 23)⟩,
    ⟨(some 10), none, .mov (.t 24)⟩,
    ⟨(some 25), none, .extr (.t 10) 0⟩,
    ⟨(some 26), none, .extr (.t 10) 1⟩,
    ⟨(some 5), none, .new 30 [(.int .i64 0), (.int .i64 0), (.int .i64 0), (.int .i64 0), (.int .i64 0), (.int .i64 0), (.int .i64 0), (.int .i64 0), (.int .i64 0), (.int .i64 0), (.string (ByteArray.mk #[])), (.string (ByteArray.mk #[])), (.int .i64 0), (.int .i64 0)]⟩,
    ⟨none, none, .store (some 14) (.t 5) (.t 25)⟩,
    ⟨(some 6), none, .mov (.t 26)⟩]
    (.fl 0 (.fr 1 (.fl 2 (.fr 3 (.fl 4 (.fl 5 (.fl 6 (.fr 7 (.fl 8 (.fr 9 (.fr 10 (.fl 11 (.fr 12 (.fr 13 (.fl 14 (.fl 15 (.fl 16 (.st 17 [1, 3, 7, 9, 10, 12, 13] (.st 18 [] (.fl 19 .done)))))))))))))))))))))
  (.seq (.draw [⟨(some 27), none, .mov (.t 6)⟩,
    ⟨(some 28), none, .mov (.t 27)⟩,
    ⟨(some 29), (some (28, true)), .load (some 14) (.t 5)⟩,
    ⟨(some 30), (some (28, true)), .mov (.t 0)⟩,
    ⟨(some 31), (some (28, true)), .nilck (.t 30)⟩,
    ⟨(some 32), (some (28, true)), .faddr 0 (.t 31)⟩,
    ⟨(some 33), (some (28, true)), .load (some 7) (.t 32)⟩,
    ⟨(some 34), (some (28, true)), .call 12 [(.t 29), (.t 33)]⟩,
    ⟨(some 35), none, .pick (.t 28) (.t 34) (.c (.kb false))⟩]
    (.fl 0 (.fl 1 (.fr 2 (.fl 3 (.fr 4 (.fl 5 (.fr 6 (.st 7 [] (.fl 8 .done))))))))))
  (.cond (.t 35)
   (.seq (.reg [⟨(some 36), none, .load (some 14) (.t 5)⟩,
     ⟨none, none, .store (some 14) (.t 2) (.t 36)⟩,
     ⟨(some 3), none, .mov (.c (.kb true))⟩])
   .ret)
   .skip)))))
  (.reg [⟨(some 37), none, .bin .add .no (.t 7) (.c (.raw (.int .i64 1)))⟩,
    ⟨(some 7), none, .mov (.t 37)⟩])))))))
 (.seq (.reg [⟨(some 38), none, .build [(.int .i64 0), (.int .i64 0), (.int .i64 0), (.int .i64 0), (.int .i64 0), (.int .i64 0), (.int .i64 0), (.int .i64 0), (.int .i64 0), (.int .i64 0), (.string (ByteArray.mk #[])), (.string (ByteArray.mk #[])), (.int .i64 0), (.int .i64 0)] []⟩,
   ⟨none, none, .store (some 14) (.t 2) (.t 38)⟩,
   ⟨(some 3), none, .mov (.c (.kb false))⟩])
 .ret)))
theorem i_causal_Buffer_next : Is Tryd.prog 24 39 [.cell 2 (some 14), .t 3] c_causal_Buffer_next := ⟨Tryd.f24, _, p_causal_Buffer_next, rfl, rfl, by kernel_rfl, by kernel_rfl, rfl⟩
def p_vec_Rep : List (Nat × Pl) := []
def c_vec_Rep : VCode :=
 (.seq (.reg [⟨(some 2), none, .mov (.c (.kb false))⟩])
 (.seq (.reg [⟨(some 3), none, .mov (.t 0)⟩,
   ⟨(some 4), none, .bin .geq .no (.t 3) (.c (.raw (.int .i64 0)))⟩,
   ⟨(some 5), none, .mov (.t 4)⟩,
   ⟨(some 6), (some (5, true)), .mov (.t 0)⟩,
   ⟨(some 7), (some (5, true)), .bin .lss .no (.t 6) (.c (.raw (.int .i64 7)))⟩,
   ⟨(some 8), none, .pick (.t 5) (.t 7) (.c (.kb false))⟩,
   ⟨(some 2), none, .mov (.t 8)⟩])
 .ret))
theorem i_vec_Rep : Is Tryd.prog 25 9 [.t 2] c_vec_Rep := ⟨Tryd.f25, _, p_vec_Rep, rfl, rfl, by kernel_rfl, by kernel_rfl, rfl⟩
def p_vec_Dot : List (Nat × Pl) := []
def c_vec_Dot : VCode :=
 (.seq (.reg [⟨(some 1), none, .box 26 (.t 0)⟩,
   ⟨(some 2), none, .mov (.c (.kb false))⟩])
 (.seq (.reg [⟨(some 3), none, .faddr 0 (.t 1)⟩,
   ⟨(some 4), none, .load none (.t 3)⟩,
   ⟨(some 5), none, .call 25 [(.t 4)]⟩,
   ⟨(some 6), none, .mov (.t 5)⟩,
   ⟨(some 7), (some (6, true)), .faddr 1 (.t 1)⟩,
   ⟨(some 8), (some (6, true)), .load none (.t 7)⟩,
   ⟨(some 9), (some (6, true)), .bin .geq .no (.t 8) (.c (.raw (.int .i64 1)))⟩,
   ⟨(some 10), none, .pick (.t 6) (.t 9) (.c (.kb false))⟩,
   ⟨(some 11), none, .mov (.t 10)⟩,
   ⟨(some 12), (some (11, true)), .faddr 1 (.t 1)⟩,
   ⟨(some 13), (some (11, true)), .load none (.t 12)⟩,
   ⟨(some 14), (some (11, true)), .bin .leq .no (.t 13) (.c (.raw (.int .i64 1099511627776)))⟩,
   ⟨(some 15), none, .pick (.t 11) (.t 14) (.c (.kb false))⟩,
   ⟨(some 2), none, .mov (.t 15)⟩])
 .ret))
theorem i_vec_Dot : Is Tryd.prog 26 16 [.t 2] c_vec_Dot := ⟨Tryd.f26, _, p_vec_Dot, rfl, rfl, by kernel_rfl, by kernel_rfl, rfl⟩
def p_vec_Good : List (Nat × Pl) := []
def c_vec_Good : VCode :=
 (.seq (.reg [⟨(some 1), none, .box 28 (.t 0)⟩,
   ⟨(some 2), none, .mov (.c (.kb false))⟩])
 (.seq (.seq (.reg [⟨(some 5), none, .load (some 7) (.t 1)⟩,
   ⟨(some 6), none, .mov (.c (.raw (.int .i64 0)))⟩])
 (.block 0 (.loop (.seq (.reg [⟨(some 7), none, .bin .lss .no (.t 6) (.c (.raw (.int .i64 7)))⟩])
  (.seq (.cond (.t 7)
   .skip
   (.exit 0))
  (.seq (.block 1 (.seq (.reg [⟨(some 8), none, .aindex 7 1 false (.t 5) (.t 6)⟩,
    ⟨(some 4), none, .mov (.t 8)⟩])
  (.seq (.reg [⟨(some 9), none, .mov (.t 4)⟩,
    ⟨(some 10), none, .bin .lss .no (.t 9) (.c (.raw (.int .i64 0)))⟩,
    ⟨(some 11), none, .mov (.t 10)⟩,
    ⟨(some 12), (some (11, false)), .mov (.t 4)⟩,
    ⟨(some 13), (some (11, false)), .bin .gtr .no (.t 12) (.c (.raw (.int .i64 1099511627776)))⟩,
    ⟨(some 14), none, .pick (.t 11) (.c (.kb true)) (.t 13)⟩])
  (.cond (.t 14)
   (.seq (.reg [⟨(some 2), none, .mov (.c (.kb false))⟩])
   .ret)
   .skip))))
  (.reg [⟨(some 15), none, .bin .add .no (.t 6) (.c (.raw (.int .i64 1)))⟩,
    ⟨(some 6), none, .mov (.t 15)⟩])))))))
 (.seq (.reg [⟨(some 2), none, .mov (.c (.kb true))⟩])
 .ret)))
theorem i_vec_Good : Is Tryd.prog 27 16 [.t 2] c_vec_Good := ⟨Tryd.f27, _, p_vec_Good, rfl, rfl, by kernel_rfl, by kernel_rfl, rfl⟩
def p_name_Good : List (Nat × Pl) := []
def c_name_Good : VCode :=
 (.seq (.reg [⟨(some 2), none, .mov (.c (.kb false))⟩])
 (.seq (.reg [⟨(some 3), none, .mov (.c (.raw (.int .i64 0)))⟩])
 (.seq (.seq (.reg [⟨(some 6), none, .mov (.t 0)⟩,
   ⟨(some 7), none, .range true (.t 6)⟩])
 (.block 0 (.loop (.seq (.reg [⟨(some 8), none, .next true (.t 7)⟩,
    ⟨(some 9), none, .extr (.t 8) 0⟩])
  (.seq (.cond (.t 9)
   .skip
   (.exit 0))
  (.block 1 (.seq (.reg [⟨(some 10), none, .extr (.t 8) 1⟩,
    ⟨(some 11), none, .extr (.t 8) 2⟩,
    ⟨(some 4), none, .mov (.t 10)⟩,
    ⟨(some 5), none, .mov (.t 11)⟩])
  (.seq (.seq (.reg [⟨(some 12), none, .mov (.t 5)⟩,
    ⟨(some 13), none, .mov (.t 4)⟩,
    ⟨(some 14), none, .bin .eql .no (.t 13) (.c (.raw (.int .i64 0)))⟩,
    ⟨(some 15), none, .call 39 [(.t 12), (.t 14)]⟩,
    ⟨(some 16), none, .un .not (.t 15)⟩])
  (.cond (.t 16)
   (.seq (.reg [⟨(some 2), none, .mov (.c (.kb false))⟩])
   .ret)
   .skip))
  (.reg [⟨(some 17), none, .mov (.t 3)⟩,
    ⟨(some 18), none, .bin .add .no (.t 17) (.c (.raw (.int .i64 1)))⟩,
    ⟨(some 3), none, .mov (.t 18)⟩])))))))))
 (.seq (.reg [⟨(some 19), none, .mov (.t 3)⟩,
   ⟨(some 20), none, .bin .geq .no (.t 19) (.c (.raw (.int .i64 1)))⟩,
   ⟨(some 21), none, .mov (.t 20)⟩,
   ⟨(some 22), (some (21, true)), .mov (.t 3)⟩,
   ⟨(some 23), (some (21, true)), .bin .leq .no (.t 22) (.c (.raw (.int .i64 20)))⟩,
   ⟨(some 24), none, .pick (.t 21) (.t 23) (.c (.kb false))⟩,
   ⟨(some 2), none, .mov (.t 24)⟩])
 .ret))))
theorem i_name_Good : Is Tryd.prog 28 25 [.t 2] c_name_Good := ⟨Tryd.f28, _, p_name_Good, rfl, rfl, by kernel_rfl, by kernel_rfl, rfl⟩
def p_rostrumref13_Good : List (Nat × Pl) := [(1, (.fl 0 (.fr 1 (.st 2 [] (.fl 3 (.fl 4 (.fl 5 (.fr 6 (.st 7 [] (.fl 8 (.fl 9 (.fl 10 (.fl 11 (.fl 12 (.fr 13 (.fl 14 (.fr 15 (.fr 16 (.fl 17 (.fl 18 (.fr 19 (.fl 20 (.fl 21 (.fl 22 (.fl 23 (.fl 24 (.fr 25 (.fl 26 (.fl 27 (.fl 28 (.fl 29 (.fr 30 (.fl 31 (.fl 32 (.fl 33 (.fl 34 (.fr 35 (.st 36 [] (.fl 37 (.fl 38 (.fl 39 (.fl 40 (.fr 41 (.fl 42 (.fl 43 (.fl 44 .done))))))))))))))))))))))))))))))))))))))))))))))]
def c_rostrumref13_Good : VCode :=
 (.seq (.reg [⟨(some 1), none, .box 53 (.t 0)⟩,
   ⟨(some 2), none, .mov (.c (.kb false))⟩])
 (.seq (.seq (.draw [⟨(some 3), none, .faddr 0 (.t 1)⟩,
   ⟨(some 4), none, .load (some 2) (.t 3)⟩,
   ⟨(some 5), none, .call 40 [(.t 4)]⟩,
   ⟨(some 6), none, .un .not (.t 5)⟩,
   ⟨(some 7), none, .mov (.t 6)⟩,
   ⟨(some 8), (some (7, false)), .faddr 2 (.t 1)⟩,
   ⟨(some 9), (some (7, false)), .load (some 7) (.t 8)⟩,
   ⟨(some 10), (some (7, false)), .call 41 [(.t 9)]⟩,
   ⟨(some 11), (some (7, false)), .un .not (.t 10)⟩,
   ⟨(some 12), none, .pick (.t 7) (.c (.kb true)) (.t 11)⟩,
   ⟨(some 13), none, .mov (.t 12)⟩,
   ⟨(some 14), (some (13, false)), .faddr 0 (.t 1)⟩,
   ⟨(some 15), (some (13, false)), .faddr 0 (.t 14)⟩,
   ⟨(some 16), (some (13, false)), .load none (.t 15)⟩,
   ⟨(some 17), (some (13, false)), .faddr 2 (.t 1)⟩,
   ⟨(some 18), (some (13, false)), .iaddr 1 (some 7) (.t 17) (.t 16)⟩,
   ⟨(some 19), (some (13, false)), .load none (.t 18)⟩,
   ⟨(some 20), (some (13, false)), .faddr 0 (.t 1)⟩,
   ⟨(some 21), (some (13, false)), .faddr 1 (.t 20)⟩,
   ⟨(some 22), (some (13, false)), .load none (.t 21)⟩,
   ⟨(some 23), (some (13, false)), .bin .sub .no (.t 22) (.c (.raw (.int .i64 1)))⟩,
   ⟨(some 24), (some (13, false)), .bin .neq .no (.t 19) (.t 23)⟩,
   ⟨(some 25), none, .pick (.t 13) (.c (.kb true)) (.t 24)⟩,
   ⟨(some 26), none, .mov (.t 25)⟩,
   ⟨(some 27), (some (26, false)), .faddr 9 (.t 1)⟩,
   ⟨(some 28), (some (26, false)), .load none (.t 27)⟩,
   ⟨(some 29), (some (26, false)), .bin .lss .no (.t 28) (.c (.raw (.int .i64 1)))⟩,
   ⟨(some 30), none, .pick (.t 26) (.c (.kb true)) (.t 29)⟩,
   ⟨(some 31), none, .mov (.t 30)⟩,
   ⟨(some 32), (some (31, false)), .faddr 9 (.t 1)⟩,
   ⟨(some 33), (some (31, false)), .load none (.t 32)⟩,
   ⟨(some 34), (some (31, false)), .bin .gtr .no (.t 33) (.c (.raw (.int .i64 4)))⟩,
   ⟨(some 35), none, .pick (.t 31) (.c (.kb true)) (.t 34)⟩,
   ⟨(some 36), none, .mov (.t 35)⟩,
   ⟨(some 37), (some (36, false)), .faddr 10 (.t 1)⟩,
   ⟨(some 38), (some (36, false)), .load none (.t 37)⟩,
   ⟨(some 39), (some (36, false)), .call 42 [(.t 38)]⟩,
   ⟨(some 40), (some (36, false)), .un .not (.t 39)⟩,
   ⟨(some 41), none, .pick (.t 36) (.c (.kb true)) (.t 40)⟩,
   ⟨(some 42), none, .mov (.t 41)⟩,
   ⟨(some 43), (some (42, false)), .faddr 11 (.t 1)⟩,
   ⟨(some 44), (some (42, false)), .load none (.t 43)⟩,
   ⟨(some 45), (some (42, false)), .len .str (.t 44)⟩,
   ⟨(some 46), (some (42, false)), .bin .gtr .no (.t 45) (.c (.raw (.int .i64 100)))⟩,
   ⟨(some 47), none, .pick (.t 42) (.c (.kb true)) (.t 46)⟩]
   (.fl 0 (.fr 1 (.st 2 [] (.fl 3 (.fl 4 (.fl 5 (.fr 6 (.st 7 [] (.fl 8 (.fl 9 (.fl 10 (.fl 11 (.fl 12 (.fr 13 (.fl 14 (.fr 15 (.fr 16 (.fl 17 (.fl 18 (.fr 19 (.fl 20 (.fl 21 (.fl 22 (.fl 23 (.fl 24 (.fr 25 (.fl 26 (.fl 27 (.fl 28 (.fl 29 (.fr 30 (.fl 31 (.fl 32 (.fl 33 (.fl 34 (.fr 35 (.st 36 [] (.fl 37 (.fl 38 (.fl 39 (.fl 40 (.fr 41 (.fl 42 (.fl 43 (.fl 44 .done))))))))))))))))))))))))))))))))))))))))))))))
 (.cond (.t 47)
  (.seq (.reg [⟨(some 2), none, .mov (.c (.kb false))⟩])
  .ret)
  .skip))
 (.seq (.seq (.reg [⟨(some 48), none, .faddr 9 (.t 1)⟩,
   ⟨(some 49), none, .load none (.t 48)⟩,
   ⟨(some 50), none, .bin .eql .no (.t 49) (.c (.raw (.int .i64 3)))⟩,
   ⟨(some 51), none, .mov (.t 50)⟩,
   ⟨(some 52), (some (51, true)), .faddr 11 (.t 1)⟩,
   ⟨(some 53), (some (51, true)), .load none (.t 52)⟩,
   ⟨(some 54), (some (51, true)), .bin .neq .no (.t 53) (.c (.raw (.string (ByteArray.mk #[]))))⟩,
   ⟨(some 55), (some (51, true)), .mov (.t 54)⟩,
   ⟨(some 56), (some (55, false)), .faddr 12 (.t 1)⟩,
   ⟨(some 57), (some (55, false)), .load none (.t 56)⟩,
   ⟨(some 58), (some (55, false)), .bin .lss .no (.t 57) (.c (.raw (.int .i64 (-1099511627776))))⟩,
   ⟨(some 59), (some (51, true)), .pick (.t 55) (.c (.kb true)) (.t 58)⟩,
   ⟨(some 60), (some (51, true)), .mov (.t 59)⟩,
   ⟨(some 61), (some (60, false)), .faddr 12 (.t 1)⟩,
   ⟨(some 62), (some (60, false)), .load none (.t 61)⟩,
   ⟨(some 63), (some (60, false)), .bin .gtr .no (.t 62) (.c (.raw (.int .i64 1099511627776)))⟩,
   ⟨(some 64), (some (51, true)), .pick (.t 60) (.c (.kb true)) (.t 63)⟩,
   ⟨(some 65), none, .pick (.t 51) (.t 64) (.c (.kb false))⟩,
   ⟨(some 66), none, .mov (.t 65)⟩,
   ⟨(some 67), (some (66, false)), .faddr 9 (.t 1)⟩,
   ⟨(some 68), (some (66, false)), .load none (.t 67)⟩,
   ⟨(some 69), (some (66, false)), .bin .neq .no (.t 68) (.c (.raw (.int .i64 3)))⟩,
   ⟨(some 70), (some (66, false)), .mov (.t 69)⟩,
   ⟨(some 71), (some (70, true)), .faddr 12 (.t 1)⟩,
   ⟨(some 72), (some (70, true)), .load none (.t 71)⟩,
   ⟨(some 73), (some (70, true)), .bin .neq .no (.t 72) (.c (.raw (.int .i64 0)))⟩,
   ⟨(some 74), (some (66, false)), .pick (.t 70) (.t 73) (.c (.kb false))⟩,
   ⟨(some 75), none, .pick (.t 66) (.c (.kb true)) (.t 74)⟩])
 (.cond (.t 75)
  (.seq (.reg [⟨(some 2), none, .mov (.c (.kb false))⟩])
  .ret)
  .skip))
 (.seq (.reg [⟨(some 76), none, .faddr 9 (.t 1)⟩,
   ⟨(some 77), none, .load none (.t 76)⟩,
   ⟨(some 78), none, .bin .eql .no (.t 77) (.c (.raw (.int .i64 4)))⟩,
   ⟨(some 79), none, .mov (.t 78)⟩,
   ⟨(some 80), (some (79, true)), .faddr 13 (.t 1)⟩,
   ⟨(some 81), (some (79, true)), .load none (.t 80)⟩,
   ⟨(some 82), (some (79, true)), .bin .geq .no (.t 81) (.c (.raw (.int .i64 0)))⟩,
   ⟨(some 83), none, .pick (.t 79) (.t 82) (.c (.kb false))⟩,
   ⟨(some 84), none, .mov (.t 83)⟩,
   ⟨(some 85), (some (84, true)), .faddr 13 (.t 1)⟩,
   ⟨(some 86), (some (84, true)), .load none (.t 85)⟩,
   ⟨(some 87), (some (84, true)), .bin .leq .no (.t 86) (.c (.raw (.int .i64 1099511627776)))⟩,
   ⟨(some 88), none, .pick (.t 84) (.t 87) (.c (.kb false))⟩,
   ⟨(some 89), none, .mov (.t 88)⟩,
   ⟨(some 90), (some (89, false)), .faddr 9 (.t 1)⟩,
   ⟨(some 91), (some (89, false)), .load none (.t 90)⟩,
   ⟨(some 92), (some (89, false)), .bin .neq .no (.t 91) (.c (.raw (.int .i64 4)))⟩,
   ⟨(some 93), (some (89, false)), .mov (.t 92)⟩,
   ⟨(some 94), (some (93, true)), .faddr 13 (.t 1)⟩,
   ⟨(some 95), (some (93, true)), .load none (.t 94)⟩,
   ⟨(some 96), (some (93, true)), .bin .eql .no (.t 95) (.c (.raw (.int .i64 0)))⟩,
   ⟨(some 97), (some (89, false)), .pick (.t 93) (.t 96) (.c (.kb false))⟩,
   ⟨(some 98), none, .pick (.t 89) (.c (.kb true)) (.t 97)⟩,
   ⟨(some 2), none, .mov (.t 98)⟩])
 .ret))))
theorem i_rostrumref13_Good : Is Tryd.prog 29 99 [.t 2] c_rostrumref13_Good := ⟨Tryd.f29, _, p_rostrumref13_Good, rfl, rfl, by kernel_rfl, by kernel_rfl, rfl⟩
def p_rostrumref7_Less : List (Nat × Pl) := []
def c_rostrumref7_Less : VCode :=
 (.seq (.reg [⟨(some 2), none, .box 26 (.t 0)⟩,
   ⟨(some 3), none, .box 26 (.t 1)⟩,
   ⟨(some 4), none, .mov (.c (.kb false))⟩])
 (.seq (.reg [⟨(some 5), none, .faddr 0 (.t 2)⟩,
   ⟨(some 6), none, .load none (.t 5)⟩,
   ⟨(some 7), none, .faddr 0 (.t 3)⟩,
   ⟨(some 8), none, .load none (.t 7)⟩,
   ⟨(some 9), none, .bin .lss .no (.t 6) (.t 8)⟩,
   ⟨(some 10), none, .mov (.t 9)⟩,
   ⟨(some 11), (some (10, false)), .faddr 0 (.t 2)⟩,
   ⟨(some 12), (some (10, false)), .load none (.t 11)⟩,
   ⟨(some 13), (some (10, false)), .faddr 0 (.t 3)⟩,
   ⟨(some 14), (some (10, false)), .load none (.t 13)⟩,
   ⟨(some 15), (some (10, false)), .bin .eql .no (.t 12) (.t 14)⟩,
   ⟨(some 16), (some (10, false)), .mov (.t 15)⟩,
   ⟨(some 17), (some (16, true)), .faddr 1 (.t 2)⟩,
   ⟨(some 18), (some (16, true)), .load none (.t 17)⟩,
   ⟨(some 19), (some (16, true)), .faddr 1 (.t 3)⟩,
   ⟨(some 20), (some (16, true)), .load none (.t 19)⟩,
   ⟨(some 21), (some (16, true)), .bin .lss .no (.t 18) (.t 20)⟩,
   ⟨(some 22), (some (10, false)), .pick (.t 16) (.t 21) (.c (.kb false))⟩,
   ⟨(some 23), none, .pick (.t 10) (.c (.kb true)) (.t 22)⟩,
   ⟨(some 4), none, .mov (.t 23)⟩])
 .ret))
theorem i_rostrumref7_Less : Is Tryd.prog 30 24 [.t 4] c_rostrumref7_Less := ⟨Tryd.f30, _, p_rostrumref7_Less, rfl, rfl, by kernel_rfl, by kernel_rfl, rfl⟩
def p_rostrumref7_Has : List (Nat × Pl) := [(1, (.fl 0 (.fr 1 (.fl 2 (.fl 3 (.fl 4 (.fr 5 (.fl 6 (.fl 7 (.fl 8 (.fl 9 (.fr 10 (.fl 11 (.fl 12 (.fl 13 (.fl 14 (.fr 15 (.fl 16 (.fr 17 (.fr 18 (.fr 19 (.fl 20 (.fl 21 (.fl 22 .done))))))))))))))))))))))))]
def c_rostrumref7_Has : VCode :=
 (.seq (.reg [⟨(some 2), none, .box 46 (.t 0)⟩,
   ⟨(some 3), none, .box 26 (.t 1)⟩,
   ⟨(some 4), none, .mov (.c (.kb false))⟩])
 (.seq (.draw [⟨(some 5), none, .faddr 0 (.t 3)⟩,
   ⟨(some 6), none, .load none (.t 5)⟩,
   ⟨(some 7), none, .bin .geq .no (.t 6) (.c (.raw (.int .i64 0)))⟩,
   ⟨(some 8), none, .mov (.t 7)⟩,
   ⟨(some 9), (some (8, true)), .faddr 0 (.t 3)⟩,
   ⟨(some 10), (some (8, true)), .load none (.t 9)⟩,
   ⟨(some 11), (some (8, true)), .bin .lss .no (.t 10) (.c (.raw (.int .i64 7)))⟩,
   ⟨(some 12), none, .pick (.t 8) (.t 11) (.c (.kb false))⟩,
   ⟨(some 13), none, .mov (.t 12)⟩,
   ⟨(some 14), (some (13, true)), .faddr 1 (.t 3)⟩,
   ⟨(some 15), (some (13, true)), .load none (.t 14)⟩,
   ⟨(some 16), (some (13, true)), .bin .geq .no (.t 15) (.c (.raw (.int .i64 1)))⟩,
   ⟨(some 17), none, .pick (.t 13) (.t 16) (.c (.kb false))⟩,
   ⟨(some 18), none, .mov (.t 17)⟩,
   ⟨(some 19), (some (18, true)), .faddr 1 (.t 3)⟩,
   ⟨(some 20), (some (18, true)), .load none (.t 19)⟩,
   ⟨(some 21), (some (18, true)), .faddr 0 (.t 3)⟩,
   ⟨(some 22), (some (18, true)), .load none (.t 21)⟩,
   ⟨(some 23), (some (18, true)), .iaddr 1 (some 7) (.t 2) (.t 22)⟩,
   ⟨(some 24), (some (18, true)), .load none (.t 23)⟩,
   ⟨(some 25), (some (18, true)), .bin .leq .no (.t 20) (.t 24)⟩,
   ⟨(some 26), none, .pick (.t 18) (.t 25) (.c (.kb false))⟩,
   ⟨(some 4), none, .mov (.t 26)⟩]
   (.fl 0 (.fr 1 (.fl 2 (.fl 3 (.fl 4 (.fr 5 (.fl 6 (.fl 7 (.fl 8 (.fl 9 (.fr 10 (.fl 11 (.fl 12 (.fl 13 (.fl 14 (.fr 15 (.fl 16 (.fr 17 (.fr 18 (.fr 19 (.fl 20 (.fl 21 (.fl 22 .done))))))))))))))))))))))))
 .ret))
theorem i_rostrumref7_Has : Is Tryd.prog 31 27 [.t 4] c_rostrumref7_Has := ⟨Tryd.f31, _, p_rostrumref7_Has, rfl, rfl, by kernel_rfl, by kernel_rfl, rfl⟩
def p_rostrumref13_Ready : List (Nat × Pl) := []
def c_rostrumref13_Ready : VCode :=
 (.seq (.reg [⟨(some 2), none, .box 53 (.t 0)⟩,
   ⟨(some 3), none, .box 46 (.t 1)⟩,
   ⟨(some 4), none, .mov (.c (.kb false))⟩])
 (.seq (.reg [⟨(some 5), none, .load (some 7) (.t 3)⟩,
   ⟨(some 6), none, .faddr 0 (.t 2)⟩,
   ⟨(some 7), none, .load (some 2) (.t 6)⟩,
   ⟨(some 8), none, .call 31 [(.t 5), (.t 7)]⟩,
   ⟨(some 9), none, .un .not (.t 8)⟩,
   ⟨(some 10), none, .mov (.t 9)⟩,
   ⟨(some 11), (some (10, true)), .faddr 2 (.t 2)⟩,
   ⟨(some 12), (some (10, true)), .load (some 7) (.t 11)⟩,
   ⟨(some 13), (some (10, true)), .load (some 7) (.t 3)⟩,
   ⟨(some 14), (some (10, true)), .call 43 [(.t 12), (.t 13)]⟩,
   ⟨(some 15), none, .pick (.t 10) (.t 14) (.c (.kb false))⟩,
   ⟨(some 4), none, .mov (.t 15)⟩])
 .ret))
theorem i_rostrumref13_Ready : Is Tryd.prog 32 16 [.t 4] c_rostrumref13_Ready := ⟨Tryd.f32, _, p_rostrumref13_Ready, rfl, rfl, by kernel_rfl, by kernel_rfl, rfl⟩
def p_slices_SortedFunc_shadow_Shadow : List (Nat × Pl) := []
def c_slices_SortedFunc_shadow_Shadow : VCode :=
 (.seq (.reg [⟨(some 4), none, .mov (.c (.raw (.slice none 0 0)))⟩])
 (.seq (.reg [⟨(some 6), none, .mov (.t 0)⟩,
   ⟨(some 7), none, .call 44 [(.t 6)]⟩,
   ⟨(some 5), none, .mov (.t 7)⟩])
 (.seq (.reg [⟨(some 8), none, .mov (.t 5)⟩,
   ⟨(some 9), none, .mov (.t 1)⟩,
   ⟨(some 10), none, .call 45 [(.t 8), (.t 9)]⟩])
 (.seq (.reg [⟨(some 11), none, .mov (.t 5)⟩,
   ⟨(some 4), none, .mov (.t 11)⟩])
 .ret))))
theorem i_slices_SortedFunc_shadow_Shadow : Is Tryd.prog 33 12 [.t 4] c_slices_SortedFunc_shadow_Shadow := ⟨Tryd.f33, _, p_slices_SortedFunc_shadow_Shadow, rfl, rfl, by kernel_rfl, by kernel_rfl, rfl⟩
def p_maps_Values_map_api_Dot_shadow_Shadow_api_Dot_shadow_Shadow : List (Nat × Pl) := []
def c_maps_Values_map_api_Dot_shadow_Shadow_api_Dot_shadow_Shadow : VCode :=
 (.seq (.reg [⟨(some 1), none, .box 62 (.t 0)⟩,
   ⟨(some 2), none, .mov (.c (.raw .nilFunc))⟩])
 (.seq (.reg [⟨(some 3), none, .mkfn 46 [(.t 1)]⟩,
   ⟨(some 2), none, .mov (.t 3)⟩])
 .ret))
theorem i_maps_Values_map_api_Dot_shadow_Shadow_api_Dot_shadow_Shadow : Is Tryd.prog 34 4 [.t 2] c_maps_Values_map_api_Dot_shadow_Shadow_api_Dot_shadow_Shadow := ⟨Tryd.f34, _, p_maps_Values_map_api_Dot_shadow_Shadow_api_Dot_shadow_Shadow, rfl, rfl, by kernel_rfl, by kernel_rfl, rfl⟩
def p_causal_Buffer_Held_1 : List (Nat × Pl) := []
def c_causal_Buffer_Held_1 : VCode :=
 (.seq (.reg [⟨(some 2), none, .box 30 (.t 0)⟩,
   ⟨(some 3), none, .box 30 (.t 1)⟩,
   ⟨(some 4), none, .mov (.c (.raw (.int .i64 0)))⟩])
 (.seq (.reg [⟨(some 5), none, .faddr 0 (.t 2)⟩,
   ⟨(some 6), none, .load (some 2) (.t 5)⟩,
   ⟨(some 7), none, .faddr 0 (.t 3)⟩,
   ⟨(some 8), none, .load (some 2) (.t 7)⟩,
   ⟨(some 9), none, .call 36 [(.t 6), (.t 8)]⟩,
   ⟨(some 4), none, .mov (.t 9)⟩])
 .ret))
theorem i_causal_Buffer_Held_1 : Is Tryd.prog 35 10 [.t 4] c_causal_Buffer_Held_1 := ⟨Tryd.f35, _, p_causal_Buffer_Held_1, rfl, rfl, by kernel_rfl, by kernel_rfl, rfl⟩
def p_dots_Order : List (Nat × Pl) := [(1, (.fl 0 (.fr 1 (.fl 2 (.fr 3 (.fl 5 (.fr 6 (.fl 7 (.fr 8 (.st 4 [6, 8] (.st 9 [] (.st 10 [] (.st 11 [] (.fl 12 .done))))))))))))))]
def c_dots_Order : VCode :=
 (.seq (.reg [⟨(some 2), none, .box 26 (.t 0)⟩,
   ⟨(some 3), none, .box 26 (.t 1)⟩,
   ⟨(some 4), none, .mov (.c (.raw (.int .i64 0)))⟩])
 (.seq (.draw [⟨(some 5), none, .faddr 0 (.t 2)⟩,
   ⟨(some 6), none, .load none (.t 5)⟩,
   ⟨(some 7), none, .faddr 0 (.t 3)⟩,
   ⟨(some 8), none, .load none (.t 7)⟩,
   ⟨(some 9), none, .call 48 [(.t 6), (.t 8)]⟩,
   ⟨(some 10), none, .faddr 1 (.t 2)⟩,
   ⟨(some 11), none, .load none (.t 10)⟩,
   ⟨(some 12), none, .faddr 1 (.t 3)⟩,
   ⟨(some 13), none, .load none (.t 12)⟩,
   ⟨(some 14), none, .call 49 [(.t 11), (.t 13)]⟩,
   ⟨(some 15), none, .bslice 3 2 [(.int .i64 0), (.int .i64 0)] [(0, 1, (.t 9)), (1, 1, (.t 14))]⟩,
   ⟨(some 16), none, .call 47 [(.t 15)]⟩,
   ⟨(some 4), none, .mov (.t 16)⟩]
   (.fl 0 (.fr 1 (.fl 2 (.fr 3 (.fl 5 (.fr 6 (.fl 7 (.fr 8 (.st 4 [6, 8] (.st 9 [] (.st 10 [] (.st 11 [] (.fl 12 .done))))))))))))))
 .ret))
theorem i_dots_Order : Is Tryd.prog 36 17 [.t 4] c_dots_Order := ⟨Tryd.f36, _, p_dots_Order, rfl, rfl, by kernel_rfl, by kernel_rfl, rfl⟩
def p_slices_DeleteFunc_sl_shadow_Shadow_shadow_Shadow : List (Nat × Pl) := []
def c_slices_DeleteFunc_sl_shadow_Shadow_shadow_Shadow : VCode :=
 (.seq (.reg [⟨(some 4), none, .mov (.c (.raw (.slice none 0 0)))⟩])
 (.seq (.reg [⟨(some 8), none, .mov (.t 0)⟩,
   ⟨(some 9), none, .mov (.t 1)⟩,
   ⟨(some 10), none, .call 50 [(.t 8), (.t 9)]⟩,
   ⟨(some 5), none, .mov (.t 10)⟩])
 (.seq (.seq (.reg [⟨(some 11), none, .mov (.t 5)⟩,
   ⟨(some 12), none, .bin .eql .no (.t 11) (.c (.raw (.int .i64 (-1))))⟩])
 (.cond (.t 12)
  (.seq (.reg [⟨(some 13), none, .mov (.t 0)⟩,
    ⟨(some 4), none, .mov (.t 13)⟩])
  .ret)
  .skip))
 (.seq (.seq (.reg [⟨(some 14), none, .mov (.t 5)⟩,
   ⟨(some 15), none, .bin .add .no (.t 14) (.c (.raw (.int .i64 1)))⟩,
   ⟨(some 6), none, .mov (.t 15)⟩])
 (.block 0 (.loop (.seq (.seq (.reg [⟨(some 16), none, .mov (.t 6)⟩,
    ⟨(some 17), none, .mov (.t 0)⟩,
    ⟨(some 18), none, .len .sl (.t 17)⟩,
    ⟨(some 19), none, .bin .lss .no (.t 16) (.t 18)⟩])
  (.cond (.t 19)
   .skip
   (.exit 0)))
  (.seq (.block 1 (.seq (.reg [⟨(some 22), none, .mov (.t 0)⟩,
    ⟨(some 23), none, .mov (.t 6)⟩,
    ⟨(some 24), none, .iaddr 14 none (.t 22) (.t 23)⟩,
    ⟨(some 25), none, .load (some 14) (.t 24)⟩,
    ⟨(some 7), none, .new 30 [(.int .i64 0), (.int .i64 0), (.int .i64 0), (.int .i64 0), (.int .i64 0), (.int .i64 0), (.int .i64 0), (.int .i64 0), (.int .i64 0), (.int .i64 0), (.string (ByteArray.mk #[])), (.string (ByteArray.mk #[])), (.int .i64 0), (.int .i64 0)]⟩,
    ⟨none, none, .store (some 14) (.t 7) (.t 25)⟩])
  (.seq (.reg [⟨(some 26), none, .mov (.t 1)⟩,
    ⟨(some 27), none, .load (some 14) (.t 7)⟩,
    ⟨(some 28), none, .callv (.t 26) [(.t 27)]⟩,
    ⟨(some 29), none, .un .not (.t 28)⟩])
  (.cond (.t 29)
   (.seq (.reg [⟨(some 30), none, .mov (.t 0)⟩,
     ⟨(some 31), none, .mov (.t 5)⟩,
     ⟨(some 32), none, .load (some 14) (.t 7)⟩,
     ⟨(some 33), none, .iaddr 14 none (.t 30) (.t 31)⟩,
     ⟨none, none, .store (some 14) (.t 33) (.t 32)⟩])
   (.reg [⟨(some 34), none, .mov (.t 5)⟩,
     ⟨(some 35), none, .bin .add .no (.t 34) (.c (.raw (.int .i64 1)))⟩,
     ⟨(some 5), none, .mov (.t 35)⟩]))
   .skip))))
  (.reg [⟨(some 20), none, .mov (.t 6)⟩,
    ⟨(some 21), none, .bin .add .no (.t 20) (.c (.raw (.int .i64 1)))⟩,
    ⟨(some 6), none, .mov (.t 21)⟩]))))))
 (.seq (.reg [⟨(some 36), none, .mov (.t 0)⟩,
   ⟨(some 37), none, .mov (.t 5)⟩,
   ⟨(some 38), none, .slice (some 14) (.t 36) (some (.t 37)) none⟩,
   ⟨none, none, .clear 14 [(.int .i64 0), (.int .i64 0), (.int .i64 0), (.int .i64 0), (.int .i64 0), (.int .i64 0), (.int .i64 0), (.int .i64 0), (.int .i64 0), (.int .i64 0), (.string (ByteArray.mk #[])), (.string (ByteArray.mk #[])), (.int .i64 0), (.int .i64 0)] (.t 38)⟩])
 (.seq (.reg [⟨(some 39), none, .mov (.t 0)⟩,
   ⟨(some 40), none, .mov (.t 5)⟩,
   ⟨(some 41), none, .slice (some 14) (.t 39) none (some (.t 40))⟩,
   ⟨(some 4), none, .mov (.t 41)⟩])
 .ret))))))
theorem i_slices_DeleteFunc_sl_shadow_Shadow_shadow_Shadow : Is Tryd.prog 37 42 [.t 4] c_slices_DeleteFunc_sl_shadow_Shadow_shadow_Shadow := ⟨Tryd.f37, _, p_slices_DeleteFunc_sl_shadow_Shadow_shadow_Shadow, rfl, rfl, by kernel_rfl, by kernel_rfl, rfl⟩
def p_causal_Buffer_Drop_1 : List (Nat × Pl) := []
def c_causal_Buffer_Drop_1 : VCode :=
 (.seq (.reg [⟨(some 2), none, .box 30 (.t 0)⟩,
   ⟨(some 3), none, .mov (.c (.kb false))⟩])
 (.seq (.reg [⟨(some 4), none, .load (some 7) (.t 1)⟩,
   ⟨(some 5), none, .faddr 0 (.t 2)⟩,
   ⟨(some 6), none, .load (some 2) (.t 5)⟩,
   ⟨(some 7), none, .call 10 [(.t 4), (.t 6)]⟩,
   ⟨(some 3), none, .mov (.t 7)⟩])
 .ret))
theorem i_causal_Buffer_Drop_1 : Is Tryd.prog 38 8 [.t 3] c_causal_Buffer_Drop_1 := ⟨Tryd.f38, _, p_causal_Buffer_Drop_1, rfl, rfl, by kernel_rfl, by kernel_rfl, rfl⟩
def p_name_other : List (Nat × Pl) := []
def c_name_other : VCode :=
 (.seq (.reg [⟨(some 4), none, .mov (.c (.kb false))⟩])
 (.seq (.reg [⟨(some 5), none, .mov (.t 0)⟩,
   ⟨(some 6), none, .call 51 [(.t 5)]⟩,
   ⟨(some 7), none, .mov (.t 6)⟩,
   ⟨(some 8), (some (7, false)), .mov (.t 1)⟩,
   ⟨(some 9), (some (7, false)), .un .not (.t 8)⟩,
   ⟨(some 10), (some (7, false)), .mov (.t 9)⟩,
   ⟨(some 11), (some (10, true)), .mov (.t 0)⟩,
   ⟨(some 12), (some (10, true)), .call 52 [(.t 11)]⟩,
   ⟨(some 13), (some (10, true)), .mov (.t 12)⟩,
   ⟨(some 14), (some (13, false)), .mov (.t 0)⟩,
   ⟨(some 15), (some (13, false)), .bin .eql .no (.t 14) (.c (.raw (.int .i32 45)))⟩,
   ⟨(some 16), (some (10, true)), .pick (.t 13) (.c (.kb true)) (.t 15)⟩,
   ⟨(some 17), (some (7, false)), .pick (.t 10) (.t 16) (.c (.kb false))⟩,
   ⟨(some 18), none, .pick (.t 7) (.c (.kb true)) (.t 17)⟩,
   ⟨(some 4), none, .mov (.t 18)⟩])
 .ret))
theorem i_name_other : Is Tryd.prog 39 19 [.t 4] c_name_other := ⟨Tryd.f39, _, p_name_other, rfl, rfl, by kernel_rfl, by kernel_rfl, rfl⟩
def p_rostrumref7_May : List (Nat × Pl) := []
def c_rostrumref7_May : VCode :=
 (.seq (.reg [⟨(some 1), none, .box 26 (.t 0)⟩,
   ⟨(some 2), none, .mov (.c (.kb false))⟩])
 (.seq (.reg [⟨(some 3), none, .faddr 0 (.t 1)⟩,
   ⟨(some 4), none, .load none (.t 3)⟩,
   ⟨(some 5), none, .bin .geq .no (.t 4) (.c (.raw (.int .i64 0)))⟩,
   ⟨(some 6), none, .mov (.t 5)⟩,
   ⟨(some 7), (some (6, true)), .faddr 0 (.t 1)⟩,
   ⟨(some 8), (some (6, true)), .load none (.t 7)⟩,
   ⟨(some 9), (some (6, true)), .bin .lss .no (.t 8) (.c (.raw (.int .i64 7)))⟩,
   ⟨(some 10), none, .pick (.t 6) (.t 9) (.c (.kb false))⟩,
   ⟨(some 11), none, .mov (.t 10)⟩,
   ⟨(some 12), (some (11, true)), .faddr 1 (.t 1)⟩,
   ⟨(some 13), (some (11, true)), .load none (.t 12)⟩,
   ⟨(some 14), (some (11, true)), .bin .geq .no (.t 13) (.c (.raw (.int .i64 1)))⟩,
   ⟨(some 15), none, .pick (.t 11) (.t 14) (.c (.kb false))⟩,
   ⟨(some 16), none, .mov (.t 15)⟩,
   ⟨(some 17), (some (16, true)), .faddr 1 (.t 1)⟩,
   ⟨(some 18), (some (16, true)), .load none (.t 17)⟩,
   ⟨(some 19), (some (16, true)), .bin .leq .no (.t 18) (.c (.raw (.int .i64 1099511627776)))⟩,
   ⟨(some 20), none, .pick (.t 16) (.t 19) (.c (.kb false))⟩,
   ⟨(some 2), none, .mov (.t 20)⟩])
 .ret))
theorem i_rostrumref7_May : Is Tryd.prog 40 21 [.t 2] c_rostrumref7_May := ⟨Tryd.f40, _, p_rostrumref7_May, rfl, rfl, by kernel_rfl, by kernel_rfl, rfl⟩
def p_rostrumref7_Good : List (Nat × Pl) := []
def c_rostrumref7_Good : VCode :=
 (.seq (.reg [⟨(some 1), none, .box 46 (.t 0)⟩,
   ⟨(some 2), none, .mov (.c (.kb false))⟩])
 (.seq (.seq (.reg [⟨(some 3), none, .mov (.c (.raw (.int .i64 0)))⟩])
 (.block 0 (.loop (.seq (.seq (.reg [⟨(some 4), none, .mov (.t 3)⟩,
    ⟨(some 5), none, .bin .lss .no (.t 4) (.c (.raw (.int .i64 7)))⟩])
  (.cond (.t 5)
   .skip
   (.exit 0)))
  (.seq (.block 1 (.seq (.reg [⟨(some 8), none, .mov (.t 3)⟩,
    ⟨(some 9), none, .iaddr 1 (some 7) (.t 1) (.t 8)⟩,
    ⟨(some 10), none, .load none (.t 9)⟩,
    ⟨(some 11), none, .bin .lss .no (.t 10) (.c (.raw (.int .i64 0)))⟩,
    ⟨(some 12), none, .mov (.t 11)⟩,
    ⟨(some 13), (some (12, false)), .mov (.t 3)⟩,
    ⟨(some 14), (some (12, false)), .iaddr 1 (some 7) (.t 1) (.t 13)⟩,
    ⟨(some 15), (some (12, false)), .load none (.t 14)⟩,
    ⟨(some 16), (some (12, false)), .bin .gtr .no (.t 15) (.c (.raw (.int .i64 1099511627776)))⟩,
    ⟨(some 17), none, .pick (.t 12) (.c (.kb true)) (.t 16)⟩])
  (.cond (.t 17)
   (.seq (.reg [⟨(some 2), none, .mov (.c (.kb false))⟩])
   .ret)
   .skip)))
  (.reg [⟨(some 6), none, .mov (.t 3)⟩,
    ⟨(some 7), none, .bin .add .no (.t 6) (.c (.raw (.int .i64 1)))⟩,
    ⟨(some 3), none, .mov (.t 7)⟩]))))))
 (.seq (.reg [⟨(some 2), none, .mov (.c (.kb true))⟩])
 .ret)))
theorem i_rostrumref7_Good : Is Tryd.prog 41 18 [.t 2] c_rostrumref7_Good := ⟨Tryd.f41, _, p_rostrumref7_Good, rfl, rfl, by kernel_rfl, by kernel_rfl, rfl⟩
def p_rostrumref1_GoodName : List (Nat × Pl) := []
def c_rostrumref1_GoodName : VCode :=
 (.seq (.reg [⟨(some 2), none, .mov (.c (.kb false))⟩])
 (.seq (.reg [⟨(some 7), none, .mov (.t 0)⟩,
   ⟨(some 8), none, .call 53 [(.t 7)]⟩,
   ⟨(some 6), none, .mov (.t 8)⟩,
   ⟨(some 9), none, .extr (.t 6) 0⟩,
   ⟨(some 10), none, .extr (.t 6) 1⟩,
   ⟨(some 3), none, .mov (.t 9)⟩,
   ⟨(some 4), none, .mov (.t 10)⟩])
 (.seq (.seq (.reg [⟨(some 11), none, .mov (.t 3)⟩,
   ⟨(some 12), none, .len .sl (.t 11)⟩,
   ⟨(some 13), none, .bin .lss .no (.t 12) (.c (.raw (.int .i64 1)))⟩,
   ⟨(some 14), none, .mov (.t 13)⟩,
   ⟨(some 15), (some (14, false)), .mov (.t 3)⟩,
   ⟨(some 16), (some (14, false)), .len .sl (.t 15)⟩,
   ⟨(some 17), (some (14, false)), .bin .gtr .no (.t 16) (.c (.raw (.int .i64 20)))⟩,
   ⟨(some 18), none, .pick (.t 14) (.c (.kb true)) (.t 17)⟩,
   ⟨(some 19), none, .mov (.t 18)⟩,
   ⟨(some 20), (some (19, false)), .mov (.t 3)⟩,
   ⟨(some 21), (some (19, false)), .iaddr 1 none (.t 20) (.c (.raw (.int .i64 0)))⟩,
   ⟨(some 22), (some (19, false)), .load none (.t 21)⟩,
   ⟨(some 23), (some (19, false)), .call 51 [(.t 22)]⟩,
   ⟨(some 24), (some (19, false)), .un .not (.t 23)⟩,
   ⟨(some 25), none, .pick (.t 19) (.c (.kb true)) (.t 24)⟩])
 (.cond (.t 25)
  (.seq (.reg [⟨(some 2), none, .mov (.c (.kb false))⟩])
  .ret)
  .skip))
 (.seq (.seq (.reg [⟨(some 5), none, .mov (.c (.raw (.int .i64 0)))⟩])
 (.block 0 (.loop (.seq (.seq (.reg [⟨(some 26), none, .mov (.t 5)⟩,
    ⟨(some 27), none, .mov (.t 3)⟩,
    ⟨(some 28), none, .len .sl (.t 27)⟩,
    ⟨(some 29), none, .bin .lss .no (.t 26) (.t 28)⟩])
  (.cond (.t 29)
   .skip
   (.exit 0)))
  (.seq (.block 1 (.seq (.reg [⟨(some 32), none, .mov (.t 0)⟩,
    ⟨(some 33), none, .mov (.t 3)⟩,
    ⟨(some 34), none, .mov (.t 4)⟩,
    ⟨(some 35), none, .mov (.t 5)⟩,
    ⟨(some 36), none, .call 54 [(.t 32), (.t 33), (.t 34), (.t 35)]⟩,
    ⟨(some 37), none, .mov (.t 36)⟩,
    ⟨(some 38), (some (37, false)), .mov (.t 3)⟩,
    ⟨(some 39), (some (37, false)), .mov (.t 5)⟩,
    ⟨(some 40), (some (37, false)), .iaddr 1 none (.t 38) (.t 39)⟩,
    ⟨(some 41), (some (37, false)), .load none (.t 40)⟩,
    ⟨(some 42), (some (37, false)), .call 51 [(.t 41)]⟩,
    ⟨(some 43), (some (37, false)), .un .not (.t 42)⟩,
    ⟨(some 44), (some (37, false)), .mov (.t 43)⟩,
    ⟨(some 45), (some (44, true)), .mov (.t 3)⟩,
    ⟨(some 46), (some (44, true)), .mov (.t 5)⟩,
    ⟨(some 47), (some (44, true)), .iaddr 1 none (.t 45) (.t 46)⟩,
    ⟨(some 48), (some (44, true)), .load none (.t 47)⟩,
    ⟨(some 49), (some (44, true)), .call 52 [(.t 48)]⟩,
    ⟨(some 50), (some (44, true)), .un .not (.t 49)⟩,
    ⟨(some 51), (some (37, false)), .pick (.t 44) (.t 50) (.c (.kb false))⟩,
    ⟨(some 52), (some (37, false)), .mov (.t 51)⟩,
    ⟨(some 53), (some (52, true)), .mov (.t 3)⟩,
    ⟨(some 54), (some (52, true)), .mov (.t 5)⟩,
    ⟨(some 55), (some (52, true)), .iaddr 1 none (.t 53) (.t 54)⟩,
    ⟨(some 56), (some (52, true)), .load none (.t 55)⟩,
    ⟨(some 57), (some (52, true)), .bin .neq .no (.t 56) (.c (.raw (.int .i32 45)))⟩,
    ⟨(some 58), (some (37, false)), .pick (.t 52) (.t 57) (.c (.kb false))⟩,
    ⟨(some 59), none, .pick (.t 37) (.c (.kb true)) (.t 58)⟩])
  (.cond (.t 59)
   (.seq (.reg [⟨(some 2), none, .mov (.c (.kb false))⟩])
   .ret)
   .skip)))
  (.reg [⟨(some 30), none, .mov (.t 5)⟩,
    ⟨(some 31), none, .bin .add .no (.t 30) (.c (.raw (.int .i64 1)))⟩,
    ⟨(some 5), none, .mov (.t 31)⟩]))))))
 (.seq (.reg [⟨(some 2), none, .mov (.c (.kb true))⟩])
 .ret)))))
theorem i_rostrumref1_GoodName : Is Tryd.prog 42 60 [.t 2] c_rostrumref1_GoodName := ⟨Tryd.f42, _, p_rostrumref1_GoodName, rfl, rfl, by kernel_rfl, by kernel_rfl, rfl⟩
def p_rostrumref7_Le : List (Nat × Pl) := [(4, (.fl 0 (.fr 1 (.fr 2 (.fl 3 (.fr 4 (.fr 5 (.fl 6 .done))))))))]
def c_rostrumref7_Le : VCode :=
 (.seq (.reg [⟨(some 2), none, .box 46 (.t 0)⟩,
   ⟨(some 3), none, .box 46 (.t 1)⟩,
   ⟨(some 4), none, .mov (.c (.kb false))⟩])
 (.seq (.seq (.reg [⟨(some 5), none, .mov (.c (.raw (.int .i64 0)))⟩])
 (.block 0 (.loop (.seq (.seq (.reg [⟨(some 6), none, .mov (.t 5)⟩,
    ⟨(some 7), none, .bin .lss .no (.t 6) (.c (.raw (.int .i64 7)))⟩])
  (.cond (.t 7)
   .skip
   (.exit 0)))
  (.seq (.block 1 (.seq (.draw [⟨(some 10), none, .mov (.t 5)⟩,
    ⟨(some 11), none, .iaddr 1 (some 7) (.t 2) (.t 10)⟩,
    ⟨(some 12), none, .load none (.t 11)⟩,
    ⟨(some 13), none, .mov (.t 5)⟩,
    ⟨(some 14), none, .iaddr 1 (some 7) (.t 3) (.t 13)⟩,
    ⟨(some 15), none, .load none (.t 14)⟩,
    ⟨(some 16), none, .bin .gtr .no (.t 12) (.t 15)⟩]
    (.fl 0 (.fr 1 (.fr 2 (.fl 3 (.fr 4 (.fr 5 (.fl 6 .done))))))))
  (.cond (.t 16)
   (.seq (.reg [⟨(some 4), none, .mov (.c (.kb false))⟩])
   .ret)
   .skip)))
  (.reg [⟨(some 8), none, .mov (.t 5)⟩,
    ⟨(some 9), none, .bin .add .no (.t 8) (.c (.raw (.int .i64 1)))⟩,
    ⟨(some 5), none, .mov (.t 9)⟩]))))))
 (.seq (.reg [⟨(some 4), none, .mov (.c (.kb true))⟩])
 .ret)))
theorem i_rostrumref7_Le : Is Tryd.prog 43 17 [.t 4] c_rostrumref7_Le := ⟨Tryd.f43, _, p_rostrumref7_Le, rfl, rfl, by kernel_rfl, by kernel_rfl, rfl⟩
def p_slices_Collect_shadow_Shadow : List (Nat × Pl) := []
def c_slices_Collect_shadow_Shadow : VCode :=
 (.seq (.reg [⟨(some 2), none, .mov (.c (.raw (.slice none 0 0)))⟩])
 (.seq (.reg [⟨(some 3), none, .mov (.t 0)⟩,
   ⟨(some 4), none, .call 55 [(.c (.raw (.slice none 0 0))), (.t 3)]⟩,
   ⟨(some 2), none, .mov (.t 4)⟩])
 .ret))
theorem i_slices_Collect_shadow_Shadow : Is Tryd.prog 44 5 [.t 2] c_slices_Collect_shadow_Shadow := ⟨Tryd.f44, _, p_slices_Collect_shadow_Shadow, rfl, rfl, by kernel_rfl, by kernel_rfl, rfl⟩
def p_slices_SortFunc_sl_shadow_Shadow_shadow_Shadow : List (Nat × Pl) := []
def c_slices_SortFunc_sl_shadow_Shadow_shadow_Shadow : VCode :=
 (.seq (.reg [⟨(some 5), none, .mov (.t 0)⟩,
   ⟨(some 6), none, .len .sl (.t 5)⟩,
   ⟨(some 4), none, .mov (.t 6)⟩])
 (.reg [⟨(some 7), none, .mov (.t 0)⟩,
   ⟨(some 8), none, .mov (.t 4)⟩,
   ⟨(some 9), none, .mov (.t 4)⟩,
   ⟨(some 10), none, .conv (.int .u64) (.t 9)⟩,
   ⟨(some 11), none, .call 57 [(.t 10)]⟩,
   ⟨(some 12), none, .mov (.t 1)⟩,
   ⟨(some 13), none, .call 56 [(.t 7), (.c (.raw (.int .i64 0))), (.t 8), (.t 11), (.t 12)]⟩]))
theorem i_slices_SortFunc_sl_shadow_Shadow_shadow_Shadow : Is Tryd.prog 45 14 [] c_slices_SortFunc_sl_shadow_Shadow_shadow_Shadow := ⟨Tryd.f45, _, p_slices_SortFunc_sl_shadow_Shadow_shadow_Shadow, rfl, rfl, by kernel_rfl, by kernel_rfl, rfl⟩
def p_maps_Values_map_api_Dot_shadow_Shadow_api_Dot_shadow_Shadow_1 : List (Nat × Pl) := []
def c_maps_Values_map_api_Dot_shadow_Shadow_api_Dot_shadow_Shadow_1 : VCode :=
 (.seq (.reg [⟨(some 5), none, .load none (.t 1)⟩,
   ⟨(some 6), none, .range false (.t 5)⟩])
 (.block 0 (.loop (.seq (.reg [⟨(some 7), none, .next false (.t 6)⟩,
    ⟨(some 8), none, .extr (.t 7) 0⟩])
  (.seq (.cond (.t 8)
   .skip
   (.exit 0))
  (.block 1 (.seq (.reg [⟨(some 9), none, .entry (.t 6)⟩,
    ⟨(some 10), none, .extr (.t 9) 1⟩,
    ⟨(some 4), none, .new 30 [(.int .i64 0), (.int .i64 0), (.int .i64 0), (.int .i64 0), (.int .i64 0), (.int .i64 0), (.int .i64 0), (.int .i64 0), (.int .i64 0), (.int .i64 0), (.string (ByteArray.mk #[])), (.string (ByteArray.mk #[])), (.int .i64 0), (.int .i64 0)]⟩,
    ⟨none, none, .store (some 14) (.t 4) (.t 10)⟩])
  (.seq (.reg [⟨(some 11), none, .mov (.t 0)⟩,
    ⟨(some 12), none, .load (some 14) (.t 4)⟩,
    ⟨(some 13), none, .callv (.t 11) [(.t 12)]⟩,
    ⟨(some 14), none, .un .not (.t 13)⟩])
  (.cond (.t 14)
   .ret
   .skip)))))))))
theorem i_maps_Values_map_api_Dot_shadow_Shadow_api_Dot_shadow_Shadow_1 : Is Tryd.prog 46 15 [] c_maps_Values_map_api_Dot_shadow_Shadow_api_Dot_shadow_Shadow_1 := ⟨Tryd.f46, _, p_maps_Values_map_api_Dot_shadow_Shadow_api_Dot_shadow_Shadow_1, rfl, rfl, by kernel_rfl, by kernel_rfl, rfl⟩
def p_cmp_Or_int : List (Nat × Pl) := []
def c_cmp_Or_int : VCode :=
 (.seq (.reg [⟨(some 2), none, .mov (.c (.raw (.int .i64 0)))⟩])
 (.seq (.reg [⟨(some 3), none, .mov (.c (.raw (.int .i64 0)))⟩])
 (.seq (.seq (.reg [⟨(some 6), none, .mov (.t 0)⟩,
   ⟨(some 7), none, .len .sl (.t 6)⟩,
   ⟨(some 8), none, .mov (.c (.raw (.int .i64 0)))⟩])
 (.block 0 (.loop (.seq (.reg [⟨(some 9), none, .bin .lss .no (.t 8) (.t 7)⟩])
  (.seq (.cond (.t 9)
   .skip
   (.exit 0))
  (.seq (.block 1 (.seq (.reg [⟨(some 10), none, .iaddr 1 none (.t 6) (.t 8)⟩,
    ⟨(some 11), none, .load none (.t 10)⟩,
    ⟨(some 5), none, .mov (.t 11)⟩])
  (.seq (.reg [⟨(some 12), none, .mov (.t 5)⟩,
    ⟨(some 13), none, .mov (.t 3)⟩,
    ⟨(some 14), none, .bin .neq .no (.t 12) (.t 13)⟩])
  (.cond (.t 14)
   (.seq (.reg [⟨(some 15), none, .mov (.t 5)⟩,
     ⟨(some 2), none, .mov (.t 15)⟩])
   .ret)
   .skip))))
  (.reg [⟨(some 16), none, .bin .add .no (.t 8) (.c (.raw (.int .i64 1)))⟩,
    ⟨(some 8), none, .mov (.t 16)⟩])))))))
 (.seq (.reg [⟨(some 17), none, .mov (.t 3)⟩,
   ⟨(some 2), none, .mov (.t 17)⟩])
 .ret))))
theorem i_cmp_Or_int : Is Tryd.prog 47 18 [.t 2] c_cmp_Or_int := ⟨Tryd.f47, _, p_cmp_Or_int, rfl, rfl, by kernel_rfl, by kernel_rfl, rfl⟩
def p_cmp_Compare_int : List (Nat × Pl) := []
def c_cmp_Compare_int : VCode :=
 (.seq (.reg [⟨(some 4), none, .mov (.c (.raw (.int .i64 0)))⟩])
 (.seq (.reg [⟨(some 7), none, .mov (.t 0)⟩,
   ⟨(some 8), none, .call 58 [(.t 7)]⟩,
   ⟨(some 5), none, .mov (.t 8)⟩])
 (.seq (.reg [⟨(some 9), none, .mov (.t 1)⟩,
   ⟨(some 10), none, .call 58 [(.t 9)]⟩,
   ⟨(some 6), none, .mov (.t 10)⟩])
 (.seq (.seq (.reg [⟨(some 11), none, .mov (.t 5)⟩])
 (.cond (.t 11)
  (.seq (.seq (.reg [⟨(some 12), none, .mov (.t 6)⟩])
  (.cond (.t 12)
   (.seq (.reg [⟨(some 4), none, .mov (.c (.raw (.int .i64 0)))⟩])
   .ret)
   .skip))
  (.seq (.reg [⟨(some 4), none, .mov (.c (.raw (.int .i64 (-1))))⟩])
  .ret))
  .skip))
 (.seq (.seq (.reg [⟨(some 13), none, .mov (.t 6)⟩])
 (.cond (.t 13)
  (.seq (.reg [⟨(some 4), none, .mov (.c (.raw (.int .i64 1)))⟩])
  .ret)
  .skip))
 (.seq (.seq (.reg [⟨(some 14), none, .mov (.t 0)⟩,
   ⟨(some 15), none, .mov (.t 1)⟩,
   ⟨(some 16), none, .bin .lss .no (.t 14) (.t 15)⟩])
 (.cond (.t 16)
  (.seq (.reg [⟨(some 4), none, .mov (.c (.raw (.int .i64 (-1))))⟩])
  .ret)
  .skip))
 (.seq (.seq (.reg [⟨(some 17), none, .mov (.t 0)⟩,
   ⟨(some 18), none, .mov (.t 1)⟩,
   ⟨(some 19), none, .bin .gtr .no (.t 17) (.t 18)⟩])
 (.cond (.t 19)
  (.seq (.reg [⟨(some 4), none, .mov (.c (.raw (.int .i64 1)))⟩])
  .ret)
  .skip))
 (.seq (.reg [⟨(some 4), none, .mov (.c (.raw (.int .i64 0)))⟩])
 .ret))))))))
theorem i_cmp_Compare_int : Is Tryd.prog 48 20 [.t 4] c_cmp_Compare_int := ⟨Tryd.f48, _, p_cmp_Compare_int, rfl, rfl, by kernel_rfl, by kernel_rfl, rfl⟩
def p_cmp_Compare_int64 : List (Nat × Pl) := []
def c_cmp_Compare_int64 : VCode :=
 (.seq (.reg [⟨(some 4), none, .mov (.c (.raw (.int .i64 0)))⟩])
 (.seq (.reg [⟨(some 7), none, .mov (.t 0)⟩,
   ⟨(some 8), none, .call 59 [(.t 7)]⟩,
   ⟨(some 5), none, .mov (.t 8)⟩])
 (.seq (.reg [⟨(some 9), none, .mov (.t 1)⟩,
   ⟨(some 10), none, .call 59 [(.t 9)]⟩,
   ⟨(some 6), none, .mov (.t 10)⟩])
 (.seq (.seq (.reg [⟨(some 11), none, .mov (.t 5)⟩])
 (.cond (.t 11)
  (.seq (.seq (.reg [⟨(some 12), none, .mov (.t 6)⟩])
  (.cond (.t 12)
   (.seq (.reg [⟨(some 4), none, .mov (.c (.raw (.int .i64 0)))⟩])
   .ret)
   .skip))
  (.seq (.reg [⟨(some 4), none, .mov (.c (.raw (.int .i64 (-1))))⟩])
  .ret))
  .skip))
 (.seq (.seq (.reg [⟨(some 13), none, .mov (.t 6)⟩])
 (.cond (.t 13)
  (.seq (.reg [⟨(some 4), none, .mov (.c (.raw (.int .i64 1)))⟩])
  .ret)
  .skip))
 (.seq (.seq (.reg [⟨(some 14), none, .mov (.t 0)⟩,
   ⟨(some 15), none, .mov (.t 1)⟩,
   ⟨(some 16), none, .bin .lss .no (.t 14) (.t 15)⟩])
 (.cond (.t 16)
  (.seq (.reg [⟨(some 4), none, .mov (.c (.raw (.int .i64 (-1))))⟩])
  .ret)
  .skip))
 (.seq (.seq (.reg [⟨(some 17), none, .mov (.t 0)⟩,
   ⟨(some 18), none, .mov (.t 1)⟩,
   ⟨(some 19), none, .bin .gtr .no (.t 17) (.t 18)⟩])
 (.cond (.t 19)
  (.seq (.reg [⟨(some 4), none, .mov (.c (.raw (.int .i64 1)))⟩])
  .ret)
  .skip))
 (.seq (.reg [⟨(some 4), none, .mov (.c (.raw (.int .i64 0)))⟩])
 .ret))))))))
theorem i_cmp_Compare_int64 : Is Tryd.prog 49 20 [.t 4] c_cmp_Compare_int64 := ⟨Tryd.f49, _, p_cmp_Compare_int64, rfl, rfl, by kernel_rfl, by kernel_rfl, rfl⟩
def p_slices_IndexFunc_sl_shadow_Shadow_shadow_Shadow : List (Nat × Pl) := []
def c_slices_IndexFunc_sl_shadow_Shadow_shadow_Shadow : VCode :=
 (.seq (.reg [⟨(some 4), none, .mov (.c (.raw (.int .i64 0)))⟩])
 (.seq (.seq (.reg [⟨(some 6), none, .mov (.t 0)⟩,
   ⟨(some 7), none, .len .sl (.t 6)⟩,
   ⟨(some 8), none, .mov (.c (.raw (.int .i64 0)))⟩])
 (.block 0 (.loop (.seq (.reg [⟨(some 9), none, .bin .lss .no (.t 8) (.t 7)⟩])
  (.seq (.cond (.t 9)
   .skip
   (.exit 0))
  (.seq (.block 1 (.seq (.reg [⟨(some 10), none, .mov (.t 8)⟩,
    ⟨(some 5), none, .mov (.t 10)⟩])
  (.seq (.reg [⟨(some 11), none, .mov (.t 1)⟩,
    ⟨(some 12), none, .mov (.t 0)⟩,
    ⟨(some 13), none, .mov (.t 5)⟩,
    ⟨(some 14), none, .iaddr 14 none (.t 12) (.t 13)⟩,
    ⟨(some 15), none, .load (some 14) (.t 14)⟩,
    ⟨(some 16), none, .callv (.t 11) [(.t 15)]⟩])
  (.cond (.t 16)
   (.seq (.reg [⟨(some 17), none, .mov (.t 5)⟩,
     ⟨(some 4), none, .mov (.t 17)⟩])
   .ret)
   .skip))))
  (.reg [⟨(some 18), none, .bin .add .no (.t 8) (.c (.raw (.int .i64 1)))⟩,
    ⟨(some 8), none, .mov (.t 18)⟩])))))))
 (.seq (.reg [⟨(some 4), none, .mov (.c (.raw (.int .i64 (-1))))⟩])
 .ret)))
theorem i_slices_IndexFunc_sl_shadow_Shadow_shadow_Shadow : Is Tryd.prog 50 19 [.t 4] c_slices_IndexFunc_sl_shadow_Shadow_shadow_Shadow := ⟨Tryd.f50, _, p_slices_IndexFunc_sl_shadow_Shadow_shadow_Shadow, rfl, rfl, by kernel_rfl, by kernel_rfl, rfl⟩
def p_rostrumref1_Runes : List (Nat × Pl) := []
def c_rostrumref1_Runes : VCode :=
 (.seq (.reg [⟨(some 2), none, .mov (.c (.raw (.slice none 0 0)))⟩,
   ⟨(some 3), none, .mov (.c (.raw (.slice none 0 0)))⟩])
 (.seq (.reg [⟨(some 4), none, .mov (.c (.raw (.slice none 0 0)))⟩])
 (.seq (.reg [⟨(some 5), none, .mov (.c (.raw (.slice none 0 0)))⟩])
 (.seq (.seq (.reg [⟨(some 8), none, .mov (.t 0)⟩,
   ⟨(some 9), none, .range true (.t 8)⟩])
 (.block 0 (.loop (.seq (.reg [⟨(some 10), none, .next true (.t 9)⟩,
    ⟨(some 11), none, .extr (.t 10) 0⟩])
  (.seq (.cond (.t 11)
   .skip
   (.exit 0))
  (.block 1 (.seq (.reg [⟨(some 12), none, .extr (.t 10) 1⟩,
    ⟨(some 13), none, .extr (.t 10) 2⟩,
    ⟨(some 6), none, .mov (.t 12)⟩,
    ⟨(some 7), none, .mov (.t 13)⟩])
  (.seq (.reg [⟨(some 14), none, .mov (.t 4)⟩,
    ⟨(some 15), none, .mov (.t 7)⟩,
    ⟨(some 16), none, .bslice 21 1 [(.int .i32 0)] [(0, 1, (.t 15))]⟩,
    ⟨(some 17), none, .append 21 1 4 [(.int .i32 0)] (.t 14) (.t 16)⟩,
    ⟨(some 4), none, .mov (.t 17)⟩])
  (.reg [⟨(some 18), none, .mov (.t 5)⟩,
    ⟨(some 19), none, .mov (.t 6)⟩,
    ⟨(some 20), none, .bslice 3 1 [(.int .i64 0)] [(0, 1, (.t 19))]⟩,
    ⟨(some 21), none, .append 3 1 8 [(.int .i64 0)] (.t 18) (.t 20)⟩,
    ⟨(some 5), none, .mov (.t 21)⟩])))))))))
 (.seq (.reg [⟨(some 22), none, .mov (.t 4)⟩,
   ⟨(some 23), none, .mov (.t 5)⟩,
   ⟨(some 24), none, .mov (.t 0)⟩,
   ⟨(some 25), none, .len .str (.t 24)⟩,
   ⟨(some 26), none, .bslice 3 1 [(.int .i64 0)] [(0, 1, (.t 25))]⟩,
   ⟨(some 27), none, .append 3 1 8 [(.int .i64 0)] (.t 23) (.t 26)⟩,
   ⟨(some 2), none, .mov (.t 22)⟩,
   ⟨(some 3), none, .mov (.t 27)⟩])
 .ret)))))
theorem i_rostrumref1_Runes : Is Tryd.prog 53 28 [.t 2, .t 3] c_rostrumref1_Runes := ⟨Tryd.f53, _, p_rostrumref1_Runes, rfl, rfl, by kernel_rfl, by kernel_rfl, rfl⟩
def p_rostrumref1_bad : List (Nat × Pl) := [(1, (.fl 0 (.fl 1 (.fr 2 (.fr 3 (.fl 4 (.fl 5 (.fl 6 (.fl 7 (.fl 8 (.fr 9 (.fr 10 (.fl 11 (.fl 12 (.fr 13 (.fr 14 (.fl 15 (.fl 16 (.fl 17 (.fl 18 .done))))))))))))))))))))]
def c_rostrumref1_bad : VCode :=
 (.seq (.reg [⟨(some 8), none, .mov (.c (.kb false))⟩])
 (.seq (.draw [⟨(some 9), none, .mov (.t 1)⟩,
   ⟨(some 10), none, .mov (.t 3)⟩,
   ⟨(some 11), none, .iaddr 1 none (.t 9) (.t 10)⟩,
   ⟨(some 12), none, .load none (.t 11)⟩,
   ⟨(some 13), none, .bin .eql .no (.t 12) (.c (.raw (.int .i32 65533)))⟩,
   ⟨(some 14), none, .mov (.t 13)⟩,
   ⟨(some 15), (some (14, true)), .mov (.t 2)⟩,
   ⟨(some 16), (some (14, true)), .mov (.t 3)⟩,
   ⟨(some 17), (some (14, true)), .bin .add .no (.t 16) (.c (.raw (.int .i64 1)))⟩,
   ⟨(some 18), (some (14, true)), .iaddr 1 none (.t 15) (.t 17)⟩,
   ⟨(some 19), (some (14, true)), .load none (.t 18)⟩,
   ⟨(some 20), (some (14, true)), .mov (.t 2)⟩,
   ⟨(some 21), (some (14, true)), .mov (.t 3)⟩,
   ⟨(some 22), (some (14, true)), .iaddr 1 none (.t 20) (.t 21)⟩,
   ⟨(some 23), (some (14, true)), .load none (.t 22)⟩,
   ⟨(some 24), (some (14, true)), .bin .sub .no (.t 19) (.t 23)⟩,
   ⟨(some 25), (some (14, true)), .bin .eql .no (.t 24) (.c (.raw (.int .i64 1)))⟩,
   ⟨(some 26), none, .pick (.t 14) (.t 25) (.c (.kb false))⟩,
   ⟨(some 8), none, .mov (.t 26)⟩]
   (.fl 0 (.fl 1 (.fr 2 (.fr 3 (.fl 4 (.fl 5 (.fl 6 (.fl 7 (.fl 8 (.fr 9 (.fr 10 (.fl 11 (.fl 12 (.fr 13 (.fr 14 (.fl 15 (.fl 16 (.fl 17 (.fl 18 .done))))))))))))))))))))
 .ret))
theorem i_rostrumref1_bad : Is Tryd.prog 54 27 [.t 8] c_rostrumref1_bad := ⟨Tryd.f54, _, p_rostrumref1_bad, rfl, rfl, by kernel_rfl, by kernel_rfl, rfl⟩
def p_slices_pdqsortCmpFunc_shadow_Shadow : List (Nat × Pl) := [(17, (.fl 0 (.fl 1 (.fl 2 (.fl 3 (.fl 4 (.fl 5 (.fl 6 (.fr 7 (.fr 8 (.fl 9 (.fl 10 (.fr 11 (.fr 12 (.st 13 [] (.fl 14 (.fl 15 (.fl 16 .done))))))))))))))))))]
def c_slices_pdqsortCmpFunc_shadow_Shadow : VCode :=
 (.seq (.reg [⟨(some 10), none, .mov (.c (.kb true))⟩])
 (.seq (.reg [⟨(some 11), none, .mov (.c (.kb true))⟩])
 (.block 0 (.loop (.block 1 (.seq (.reg [⟨(some 21), none, .mov (.t 2)⟩,
    ⟨(some 22), none, .mov (.t 1)⟩,
    ⟨(some 23), none, .bin .sub .no (.t 21) (.t 22)⟩,
    ⟨(some 12), none, .mov (.t 23)⟩])
  (.seq (.seq (.reg [⟨(some 24), none, .mov (.t 12)⟩,
    ⟨(some 25), none, .bin .leq .no (.t 24) (.c (.raw (.int .i64 12)))⟩])
  (.cond (.t 25)
   (.seq (.reg [⟨(some 26), none, .mov (.t 0)⟩,
     ⟨(some 27), none, .mov (.t 1)⟩,
     ⟨(some 28), none, .mov (.t 2)⟩,
     ⟨(some 29), none, .mov (.t 4)⟩,
     ⟨(some 30), none, .call 61 [(.t 26), (.t 27), (.t 28), (.t 29)]⟩])
   .ret)
   .skip))
  (.seq (.seq (.reg [⟨(some 31), none, .mov (.t 3)⟩,
    ⟨(some 32), none, .bin .eql .no (.t 31) (.c (.raw (.int .i64 0)))⟩])
  (.cond (.t 32)
   (.seq (.reg [⟨(some 33), none, .mov (.t 0)⟩,
     ⟨(some 34), none, .mov (.t 1)⟩,
     ⟨(some 35), none, .mov (.t 2)⟩,
     ⟨(some 36), none, .mov (.t 4)⟩,
     ⟨(some 37), none, .call 62 [(.t 33), (.t 34), (.t 35), (.t 36)]⟩])
   .ret)
   .skip))
  (.seq (.seq (.reg [⟨(some 38), none, .mov (.t 10)⟩,
    ⟨(some 39), none, .un .not (.t 38)⟩])
  (.cond (.t 39)
   (.seq (.reg [⟨(some 40), none, .mov (.t 0)⟩,
     ⟨(some 41), none, .mov (.t 1)⟩,
     ⟨(some 42), none, .mov (.t 2)⟩,
     ⟨(some 43), none, .mov (.t 4)⟩,
     ⟨(some 44), none, .call 63 [(.t 40), (.t 41), (.t 42), (.t 43)]⟩])
   (.reg [⟨(some 45), none, .mov (.t 3)⟩,
     ⟨(some 46), none, .bin .sub .no (.t 45) (.c (.raw (.int .i64 1)))⟩,
     ⟨(some 3), none, .mov (.t 46)⟩]))
   .skip))
  (.seq (.reg [⟨(some 48), none, .mov (.t 0)⟩,
    ⟨(some 49), none, .mov (.t 1)⟩,
    ⟨(some 50), none, .mov (.t 2)⟩,
    ⟨(some 51), none, .mov (.t 4)⟩,
    ⟨(some 52), none, .call 64 [(.t 48), (.t 49), (.t 50), (.t 51)]⟩,
    ⟨(some 47), none, .mov (.t 52)⟩,
    ⟨(some 53), none, .extr (.t 47) 0⟩,
    ⟨(some 54), none, .extr (.t 47) 1⟩,
    ⟨(some 13), none, .mov (.t 53)⟩,
    ⟨(some 14), none, .mov (.t 54)⟩])
  (.seq (.seq (.reg [⟨(some 55), none, .mov (.t 14)⟩,
    ⟨(some 56), none, .bin .eql .no (.t 55) (.c (.raw (.int .i64 2)))⟩])
  (.cond (.t 56)
   (.seq (.reg [⟨(some 57), none, .mov (.t 0)⟩,
     ⟨(some 58), none, .mov (.t 1)⟩,
     ⟨(some 59), none, .mov (.t 2)⟩,
     ⟨(some 60), none, .mov (.t 4)⟩,
     ⟨(some 61), none, .call 65 [(.t 57), (.t 58), (.t 59), (.t 60)]⟩])
   (.seq (.reg [⟨(some 62), none, .mov (.t 2)⟩,
     ⟨(some 63), none, .bin .sub .no (.t 62) (.c (.raw (.int .i64 1)))⟩,
     ⟨(some 64), none, .mov (.t 13)⟩,
     ⟨(some 65), none, .mov (.t 1)⟩,
     ⟨(some 66), none, .bin .sub .no (.t 64) (.t 65)⟩,
     ⟨(some 67), none, .bin .sub .no (.t 63) (.t 66)⟩,
     ⟨(some 13), none, .mov (.t 67)⟩])
   (.reg [⟨(some 14), none, .mov (.c (.raw (.int .i64 1)))⟩])))
   .skip))
  (.seq (.seq (.reg [⟨(some 68), none, .mov (.t 10)⟩,
    ⟨(some 69), none, .mov (.t 68)⟩,
    ⟨(some 70), (some (69, true)), .mov (.t 11)⟩,
    ⟨(some 71), none, .pick (.t 69) (.t 70) (.c (.kb false))⟩,
    ⟨(some 72), none, .mov (.t 71)⟩,
    ⟨(some 73), (some (72, true)), .mov (.t 14)⟩,
    ⟨(some 74), (some (72, true)), .bin .eql .no (.t 73) (.c (.raw (.int .i64 1)))⟩,
    ⟨(some 75), none, .pick (.t 72) (.t 74) (.c (.kb false))⟩])
  (.cond (.t 75)
   (.seq (.reg [⟨(some 76), none, .mov (.t 0)⟩,
     ⟨(some 77), none, .mov (.t 1)⟩,
     ⟨(some 78), none, .mov (.t 2)⟩,
     ⟨(some 79), none, .mov (.t 4)⟩,
     ⟨(some 80), none, .call 66 [(.t 76), (.t 77), (.t 78), (.t 79)]⟩])
   (.cond (.t 80)
    .ret
    .skip))
   .skip))
  (.seq (.seq (.draw [⟨(some 81), none, .mov (.t 1)⟩,
    ⟨(some 82), none, .bin .gtr .no (.t 81) (.c (.raw (.int .i64 0)))⟩,
    ⟨(some 83), none, .mov (.t 82)⟩,
    ⟨(some 84), (some (83, true)), .mov (.t 4)⟩,
    ⟨(some 85), (some (83, true)), .mov (.t 0)⟩,
    ⟨(some 86), (some (83, true)), .mov (.t 1)⟩,
    ⟨(some 87), (some (83, true)), .bin .sub .no (.t 86) (.c (.raw (.int .i64 1)))⟩,
    ⟨(some 88), (some (83, true)), .iaddr 14 none (.t 85) (.t 87)⟩,
    ⟨(some 89), (some (83, true)), .load (some 14) (.t 88)⟩,
    ⟨(some 90), (some (83, true)), .mov (.t 0)⟩,
    ⟨(some 91), (some (83, true)), .mov (.t 13)⟩,
    ⟨(some 92), (some (83, true)), .iaddr 14 none (.t 90) (.t 91)⟩,
    ⟨(some 93), (some (83, true)), .load (some 14) (.t 92)⟩,
    ⟨(some 94), (some (83, true)), .callv (.t 84) [(.t 89), (.t 93)]⟩,
    ⟨(some 95), (some (83, true)), .bin .lss .no (.t 94) (.c (.raw (.int .i64 0)))⟩,
    ⟨(some 96), (some (83, true)), .un .not (.t 95)⟩,
    ⟨(some 97), none, .pick (.t 83) (.t 96) (.c (.kb false))⟩]
    (.fl 0 (.fl 1 (.fl 2 (.fl 3 (.fl 4 (.fl 5 (.fl 6 (.fr 7 (.fr 8 (.fl 9 (.fl 10 (.fr 11 (.fr 12 (.st 13 [] (.fl 14 (.fl 15 (.fl 16 .done))))))))))))))))))
  (.cond (.t 97)
   (.seq (.reg [⟨(some 98), none, .mov (.t 0)⟩,
     ⟨(some 99), none, .mov (.t 1)⟩,
     ⟨(some 100), none, .mov (.t 2)⟩,
     ⟨(some 101), none, .mov (.t 13)⟩,
     ⟨(some 102), none, .mov (.t 4)⟩,
     ⟨(some 103), none, .call 67 [(.t 98), (.t 99), (.t 100), (.t 101), (.t 102)]⟩,
     ⟨(some 15), none, .mov (.t 103)⟩])
   (.seq (.reg [⟨(some 104), none, .mov (.t 15)⟩,
     ⟨(some 1), none, .mov (.t 104)⟩])
   (.exit 1)))
   .skip))
  (.seq (.reg [⟨(some 106), none, .mov (.t 0)⟩,
    ⟨(some 107), none, .mov (.t 1)⟩,
    ⟨(some 108), none, .mov (.t 2)⟩,
    ⟨(some 109), none, .mov (.t 13)⟩,
    ⟨(some 110), none, .mov (.t 4)⟩,
    ⟨(some 111), none, .call 68 [(.t 106), (.t 107), (.t 108), (.t 109), (.t 110)]⟩,
    ⟨(some 105), none, .mov (.t 111)⟩,
    ⟨(some 112), none, .extr (.t 105) 0⟩,
    ⟨(some 113), none, .extr (.t 105) 1⟩,
    ⟨(some 16), none, .mov (.t 112)⟩,
    ⟨(some 17), none, .mov (.t 113)⟩])
  (.seq (.reg [⟨(some 114), none, .mov (.t 17)⟩,
    ⟨(some 11), none, .mov (.t 114)⟩])
  (.seq (.reg [⟨(some 115), none, .mov (.t 16)⟩,
    ⟨(some 116), none, .mov (.t 1)⟩,
    ⟨(some 117), none, .bin .sub .no (.t 115) (.t 116)⟩,
    ⟨(some 118), none, .mov (.t 2)⟩,
    ⟨(some 119), none, .mov (.t 16)⟩,
    ⟨(some 120), none, .bin .sub .no (.t 118) (.t 119)⟩,
    ⟨(some 18), none, .mov (.t 117)⟩,
    ⟨(some 19), none, .mov (.t 120)⟩])
  (.seq (.reg [⟨(some 121), none, .mov (.t 12)⟩,
    ⟨(some 122), none, .bin .quo .no (.t 121) (.c (.raw (.int .i64 8)))⟩,
    ⟨(some 20), none, .mov (.t 122)⟩])
  (.seq (.reg [⟨(some 123), none, .mov (.t 18)⟩,
    ⟨(some 124), none, .mov (.t 19)⟩,
    ⟨(some 125), none, .bin .lss .no (.t 123) (.t 124)⟩])
  (.cond (.t 125)
   (.seq (.reg [⟨(some 126), none, .mov (.t 18)⟩,
     ⟨(some 127), none, .mov (.t 20)⟩,
     ⟨(some 128), none, .bin .geq .no (.t 126) (.t 127)⟩,
     ⟨(some 10), none, .mov (.t 128)⟩])
   (.seq (.reg [⟨(some 129), none, .mov (.t 0)⟩,
     ⟨(some 130), none, .mov (.t 1)⟩,
     ⟨(some 131), none, .mov (.t 16)⟩,
     ⟨(some 132), none, .mov (.t 3)⟩,
     ⟨(some 133), none, .mov (.t 4)⟩,
     ⟨(some 134), none, .call 56 [(.t 129), (.t 130), (.t 131), (.t 132), (.t 133)]⟩])
   (.reg [⟨(some 135), none, .mov (.t 16)⟩,
     ⟨(some 136), none, .bin .add .no (.t 135) (.c (.raw (.int .i64 1)))⟩,
     ⟨(some 1), none, .mov (.t 136)⟩])))
   (.seq (.reg [⟨(some 137), none, .mov (.t 19)⟩,
     ⟨(some 138), none, .mov (.t 20)⟩,
     ⟨(some 139), none, .bin .geq .no (.t 137) (.t 138)⟩,
     ⟨(some 10), none, .mov (.t 139)⟩])
   (.seq (.reg [⟨(some 140), none, .mov (.t 0)⟩,
     ⟨(some 141), none, .mov (.t 16)⟩,
     ⟨(some 142), none, .bin .add .no (.t 141) (.c (.raw (.int .i64 1)))⟩,
     ⟨(some 143), none, .mov (.t 2)⟩,
     ⟨(some 144), none, .mov (.t 3)⟩,
     ⟨(some 145), none, .mov (.t 4)⟩,
     ⟨(some 146), none, .call 56 [(.t 140), (.t 142), (.t 143), (.t 144), (.t 145)]⟩])
   (.reg [⟨(some 147), none, .mov (.t 16)⟩,
     ⟨(some 2), none, .mov (.t 147)⟩]))))))))))))))))))))))
theorem i_slices_pdqsortCmpFunc_shadow_Shadow : Is Tryd.prog 56 148 [] c_slices_pdqsortCmpFunc_shadow_Shadow := ⟨Tryd.f56, _, p_slices_pdqsortCmpFunc_shadow_Shadow, rfl, rfl, by kernel_rfl, by kernel_rfl, rfl⟩
def p_math_bits_Len : List (Nat × Pl) := []
def c_math_bits_Len : VCode :=
 (.seq (.reg [⟨(some 2), none, .mov (.c (.raw (.int .i64 0)))⟩])
 (.seq (.cond (.c (.kb false))
  (.seq (.reg [⟨(some 3), none, .mov (.t 0)⟩,
    ⟨(some 4), none, .conv (.int .u32) (.t 3)⟩,
    ⟨(some 5), none, .call 69 [(.t 4)]⟩,
    ⟨(some 2), none, .mov (.t 5)⟩])
  .ret)
  .skip)
 (.seq (.reg [⟨(some 6), none, .mov (.t 0)⟩,
   ⟨(some 7), none, .call 70 [(.t 6)]⟩,
   ⟨(some 2), none, .mov (.t 7)⟩])
 .ret)))
theorem i_math_bits_Len : Is Tryd.prog 57 8 [.t 2] c_math_bits_Len := ⟨Tryd.f57, _, p_math_bits_Len, rfl, rfl, by kernel_rfl, by kernel_rfl, rfl⟩
def p_cmp_isNaN_int : List (Nat × Pl) := []
def c_cmp_isNaN_int : VCode :=
 (.seq (.reg [⟨(some 2), none, .mov (.c (.kb false))⟩])
 (.seq (.reg [⟨(some 3), none, .mov (.t 0)⟩,
   ⟨(some 4), none, .mov (.t 0)⟩,
   ⟨(some 5), none, .bin .neq .no (.t 3) (.t 4)⟩,
   ⟨(some 2), none, .mov (.t 5)⟩])
 .ret))
theorem i_cmp_isNaN_int : Is Tryd.prog 58 6 [.t 2] c_cmp_isNaN_int := ⟨Tryd.f58, _, p_cmp_isNaN_int, rfl, rfl, by kernel_rfl, by kernel_rfl, rfl⟩
def p_cmp_isNaN_int64 : List (Nat × Pl) := []
def c_cmp_isNaN_int64 : VCode :=
 (.seq (.reg [⟨(some 2), none, .mov (.c (.kb false))⟩])
 (.seq (.reg [⟨(some 3), none, .mov (.t 0)⟩,
   ⟨(some 4), none, .mov (.t 0)⟩,
   ⟨(some 5), none, .bin .neq .no (.t 3) (.t 4)⟩,
   ⟨(some 2), none, .mov (.t 5)⟩])
 .ret))
theorem i_cmp_isNaN_int64 : Is Tryd.prog 59 6 [.t 2] c_cmp_isNaN_int64 := ⟨Tryd.f59, _, p_cmp_isNaN_int64, rfl, rfl, by kernel_rfl, by kernel_rfl, rfl⟩
def p_unicode_isExcludingLatin : List (Nat × Pl) := []
def c_unicode_isExcludingLatin : VCode :=
 (.seq (.reg [⟨(some 4), none, .mov (.c (.kb false))⟩])
 (.seq (.reg [⟨(some 8), none, .mov (.t 0)⟩,
   ⟨(some 9), none, .nilck (.t 8)⟩,
   ⟨(some 10), none, .faddr 0 (.t 9)⟩,
   ⟨(some 11), none, .load none (.t 10)⟩,
   ⟨(some 5), none, .mov (.t 11)⟩])
 (.seq (.seq (.reg [⟨(some 12), none, .mov (.t 0)⟩,
   ⟨(some 13), none, .nilck (.t 12)⟩,
   ⟨(some 14), none, .faddr 2 (.t 13)⟩,
   ⟨(some 15), none, .load none (.t 14)⟩,
   ⟨(some 6), none, .mov (.t 15)⟩])
 (.seq (.reg [⟨(some 16), none, .mov (.t 5)⟩,
   ⟨(some 17), none, .len .sl (.t 16)⟩,
   ⟨(some 18), none, .mov (.t 6)⟩,
   ⟨(some 19), none, .bin .gtr .no (.t 17) (.t 18)⟩,
   ⟨(some 20), none, .mov (.t 19)⟩,
   ⟨(some 21), (some (20, true)), .mov (.t 1)⟩,
   ⟨(some 22), (some (20, true)), .conv (.int .u32) (.t 21)⟩,
   ⟨(some 23), (some (20, true)), .mov (.t 5)⟩,
   ⟨(some 24), (some (20, true)), .mov (.t 5)⟩,
   ⟨(some 25), (some (20, true)), .len .sl (.t 24)⟩,
   ⟨(some 26), (some (20, true)), .bin .sub .no (.t 25) (.c (.raw (.int .i64 1)))⟩,
   ⟨(some 27), (some (20, true)), .iaddr 3 none (.t 23) (.t 26)⟩,
   ⟨(some 28), (some (20, true)), .faddr 1 (.t 27)⟩,
   ⟨(some 29), (some (20, true)), .load none (.t 28)⟩,
   ⟨(some 30), (some (20, true)), .conv (.int .u32) (.t 29)⟩,
   ⟨(some 31), (some (20, true)), .bin .leq .no (.t 22) (.t 30)⟩,
   ⟨(some 32), none, .pick (.t 20) (.t 31) (.c (.kb false))⟩])
 (.cond (.t 32)
  (.seq (.reg [⟨(some 33), none, .mov (.t 5)⟩,
    ⟨(some 34), none, .mov (.t 6)⟩,
    ⟨(some 35), none, .slice (some 3) (.t 33) (some (.t 34)) none⟩,
    ⟨(some 36), none, .mov (.t 1)⟩,
    ⟨(some 37), none, .conv (.int .u16) (.t 36)⟩,
    ⟨(some 38), none, .call 71 [(.t 35), (.t 37)]⟩,
    ⟨(some 4), none, .mov (.t 38)⟩])
  .ret)
  .skip)))
 (.seq (.reg [⟨(some 39), none, .mov (.t 0)⟩,
   ⟨(some 40), none, .nilck (.t 39)⟩,
   ⟨(some 41), none, .faddr 1 (.t 40)⟩,
   ⟨(some 42), none, .load none (.t 41)⟩,
   ⟨(some 7), none, .mov (.t 42)⟩])
 (.seq (.seq (.reg [⟨(some 43), none, .mov (.t 7)⟩,
   ⟨(some 44), none, .len .sl (.t 43)⟩,
   ⟨(some 45), none, .bin .gtr .no (.t 44) (.c (.raw (.int .i64 0)))⟩,
   ⟨(some 46), none, .mov (.t 45)⟩,
   ⟨(some 47), (some (46, true)), .mov (.t 1)⟩,
   ⟨(some 48), (some (46, true)), .mov (.t 7)⟩,
   ⟨(some 49), (some (46, true)), .iaddr 3 none (.t 48) (.c (.raw (.int .i64 0)))⟩,
   ⟨(some 50), (some (46, true)), .faddr 0 (.t 49)⟩,
   ⟨(some 51), (some (46, true)), .load none (.t 50)⟩,
   ⟨(some 52), (some (46, true)), .conv (.int .i32) (.t 51)⟩,
   ⟨(some 53), (some (46, true)), .bin .geq .no (.t 47) (.t 52)⟩,
   ⟨(some 54), none, .pick (.t 46) (.t 53) (.c (.kb false))⟩])
 (.cond (.t 54)
  (.seq (.reg [⟨(some 55), none, .mov (.t 7)⟩,
    ⟨(some 56), none, .mov (.t 1)⟩,
    ⟨(some 57), none, .conv (.int .u32) (.t 56)⟩,
    ⟨(some 58), none, .call 72 [(.t 55), (.t 57)]⟩,
    ⟨(some 4), none, .mov (.t 58)⟩])
  .ret)
  .skip))
 (.seq (.reg [⟨(some 4), none, .mov (.c (.kb false))⟩])
 .ret))))))
theorem i_unicode_isExcludingLatin : Is Tryd.prog 60 59 [.t 4] c_unicode_isExcludingLatin := ⟨Tryd.f60, _, p_unicode_isExcludingLatin, rfl, rfl, by kernel_rfl, by kernel_rfl, rfl⟩
def p_slices_insertionSortCmpFunc_shadow_Shadow : List (Nat × Pl) := [(4, (.fl 0 (.fl 1 (.fl 2 (.fl 3 (.fl 4 (.fl 5 (.fl 6 (.fr 7 (.fr 8 (.fl 9 (.fl 10 (.fl 11 (.fr 12 (.fr 13 (.st 14 [] (.fl 15 (.fl 16 .done)))))))))))))))))), (6, (.fl 0 (.fl 1 (.fl 2 (.fl 3 (.fl 4 (.fl 5 (.fl 6 (.fl 7 (.fr 8 (.fr 9 (.fl 10 (.fl 11 (.fr 12 (.fr 13 (.fr 14 (.st 15 [] (.fr 16 (.st 17 [] .done)))))))))))))))))))]
def c_slices_insertionSortCmpFunc_shadow_Shadow : VCode :=
 (.seq (.reg [⟨(some 10), none, .mov (.t 1)⟩,
   ⟨(some 11), none, .bin .add .no (.t 10) (.c (.raw (.int .i64 1)))⟩,
   ⟨(some 8), none, .mov (.t 11)⟩])
 (.block 0 (.loop (.seq (.seq (.reg [⟨(some 12), none, .mov (.t 8)⟩,
    ⟨(some 13), none, .mov (.t 2)⟩,
    ⟨(some 14), none, .bin .lss .no (.t 12) (.t 13)⟩])
  (.cond (.t 14)
   .skip
   (.exit 0)))
  (.seq (.block 1 (.seq (.reg [⟨(some 17), none, .mov (.t 8)⟩,
    ⟨(some 9), none, .mov (.t 17)⟩])
  (.block 2 (.loop (.seq (.seq (.draw [⟨(some 18), none, .mov (.t 9)⟩,
     ⟨(some 19), none, .mov (.t 1)⟩,
     ⟨(some 20), none, .bin .gtr .no (.t 18) (.t 19)⟩,
     ⟨(some 21), none, .mov (.t 20)⟩,
     ⟨(some 22), (some (21, true)), .mov (.t 3)⟩,
     ⟨(some 23), (some (21, true)), .mov (.t 0)⟩,
     ⟨(some 24), (some (21, true)), .mov (.t 9)⟩,
     ⟨(some 25), (some (21, true)), .iaddr 14 none (.t 23) (.t 24)⟩,
     ⟨(some 26), (some (21, true)), .load (some 14) (.t 25)⟩,
     ⟨(some 27), (some (21, true)), .mov (.t 0)⟩,
     ⟨(some 28), (some (21, true)), .mov (.t 9)⟩,
     ⟨(some 29), (some (21, true)), .bin .sub .no (.t 28) (.c (.raw (.int .i64 1)))⟩,
     ⟨(some 30), (some (21, true)), .iaddr 14 none (.t 27) (.t 29)⟩,
     ⟨(some 31), (some (21, true)), .load (some 14) (.t 30)⟩,
     ⟨(some 32), (some (21, true)), .callv (.t 22) [(.t 26), (.t 31)]⟩,
     ⟨(some 33), (some (21, true)), .bin .lss .no (.t 32) (.c (.raw (.int .i64 0)))⟩,
     ⟨(some 34), none, .pick (.t 21) (.t 33) (.c (.kb false))⟩]
     (.fl 0 (.fl 1 (.fl 2 (.fl 3 (.fl 4 (.fl 5 (.fl 6 (.fr 7 (.fr 8 (.fl 9 (.fl 10 (.fl 11 (.fr 12 (.fr 13 (.st 14 [] (.fl 15 (.fl 16 .done))))))))))))))))))
   (.cond (.t 34)
    .skip
    (.exit 2)))
   (.seq (.block 3 (.draw [⟨(some 37), none, .mov (.t 0)⟩,
     ⟨(some 38), none, .mov (.t 9)⟩,
     ⟨(some 39), none, .mov (.t 0)⟩,
     ⟨(some 40), none, .mov (.t 9)⟩,
     ⟨(some 41), none, .bin .sub .no (.t 40) (.c (.raw (.int .i64 1)))⟩,
     ⟨(some 42), none, .mov (.t 0)⟩,
     ⟨(some 43), none, .mov (.t 9)⟩,
     ⟨(some 44), none, .bin .sub .no (.t 43) (.c (.raw (.int .i64 1)))⟩,
     ⟨(some 45), none, .iaddr 14 none (.t 42) (.t 44)⟩,
     ⟨(some 46), none, .load (some 14) (.t 45)⟩,
     ⟨(some 47), none, .mov (.t 0)⟩,
     ⟨(some 48), none, .mov (.t 9)⟩,
     ⟨(some 49), none, .iaddr 14 none (.t 47) (.t 48)⟩,
     ⟨(some 50), none, .load (some 14) (.t 49)⟩,
     ⟨(some 51), none, .iaddr 14 none (.t 37) (.t 38)⟩,
     ⟨none, none, .store (some 14) (.t 51) (.t 46)⟩,
     ⟨(some 52), none, .iaddr 14 none (.t 39) (.t 41)⟩,
     ⟨none, none, .store (some 14) (.t 52) (.t 50)⟩]
     (.fl 0 (.fl 1 (.fl 2 (.fl 3 (.fl 4 (.fl 5 (.fl 6 (.fl 7 (.fr 8 (.fr 9 (.fl 10 (.fl 11 (.fr 12 (.fr 13 (.fr 14 (.st 15 [] (.fr 16 (.st 17 [] .done))))))))))))))))))))
   (.reg [⟨(some 35), none, .mov (.t 9)⟩,
     ⟨(some 36), none, .bin .sub .no (.t 35) (.c (.raw (.int .i64 1)))⟩,
     ⟨(some 9), none, .mov (.t 36)⟩])))))))
  (.reg [⟨(some 15), none, .mov (.t 8)⟩,
    ⟨(some 16), none, .bin .add .no (.t 15) (.c (.raw (.int .i64 1)))⟩,
    ⟨(some 8), none, .mov (.t 16)⟩]))))))
theorem i_slices_insertionSortCmpFunc_shadow_Shadow : Is Tryd.prog 61 53 [] c_slices_insertionSortCmpFunc_shadow_Shadow := ⟨Tryd.f61, _, p_slices_insertionSortCmpFunc_shadow_Shadow, rfl, rfl, by kernel_rfl, by kernel_rfl, rfl⟩
def p_slices_heapSortCmpFunc_shadow_Shadow : List (Nat × Pl) := [(10, (.fl 0 (.fl 1 (.fl 2 (.fl 3 (.fl 4 (.fl 5 (.fl 6 (.fl 7 (.fl 8 (.fl 9 (.fr 10 (.fr 11 (.fl 12 (.fl 13 (.fr 14 (.fr 15 (.fr 16 (.st 17 [] (.fr 18 (.st 19 [] .done)))))))))))))))))))))]
def c_slices_heapSortCmpFunc_shadow_Shadow : VCode :=
 (.seq (.reg [⟨(some 13), none, .mov (.t 1)⟩,
   ⟨(some 8), none, .mov (.t 13)⟩])
 (.seq (.reg [⟨(some 9), none, .mov (.c (.raw (.int .i64 0)))⟩])
 (.seq (.reg [⟨(some 14), none, .mov (.t 2)⟩,
   ⟨(some 15), none, .mov (.t 1)⟩,
   ⟨(some 16), none, .bin .sub .no (.t 14) (.t 15)⟩,
   ⟨(some 10), none, .mov (.t 16)⟩])
 (.seq (.seq (.reg [⟨(some 17), none, .mov (.t 10)⟩,
   ⟨(some 18), none, .bin .sub .no (.t 17) (.c (.raw (.int .i64 1)))⟩,
   ⟨(some 19), none, .bin .quo .no (.t 18) (.c (.raw (.int .i64 2)))⟩,
   ⟨(some 11), none, .mov (.t 19)⟩])
 (.block 0 (.loop (.seq (.seq (.reg [⟨(some 20), none, .mov (.t 11)⟩,
    ⟨(some 21), none, .bin .geq .no (.t 20) (.c (.raw (.int .i64 0)))⟩])
  (.cond (.t 21)
   .skip
   (.exit 0)))
  (.seq (.block 1 (.reg [⟨(some 24), none, .mov (.t 0)⟩,
    ⟨(some 25), none, .mov (.t 11)⟩,
    ⟨(some 26), none, .mov (.t 10)⟩,
    ⟨(some 27), none, .mov (.t 8)⟩,
    ⟨(some 28), none, .mov (.t 3)⟩,
    ⟨(some 29), none, .call 73 [(.t 24), (.t 25), (.t 26), (.t 27), (.t 28)]⟩]))
  (.reg [⟨(some 22), none, .mov (.t 11)⟩,
    ⟨(some 23), none, .bin .sub .no (.t 22) (.c (.raw (.int .i64 1)))⟩,
    ⟨(some 11), none, .mov (.t 23)⟩]))))))
 (.seq (.reg [⟨(some 30), none, .mov (.t 10)⟩,
   ⟨(some 31), none, .bin .sub .no (.t 30) (.c (.raw (.int .i64 1)))⟩,
   ⟨(some 12), none, .mov (.t 31)⟩])
 (.block 2 (.loop (.seq (.seq (.reg [⟨(some 32), none, .mov (.t 12)⟩,
    ⟨(some 33), none, .bin .geq .no (.t 32) (.c (.raw (.int .i64 0)))⟩])
  (.cond (.t 33)
   .skip
   (.exit 2)))
  (.seq (.block 3 (.seq (.draw [⟨(some 36), none, .mov (.t 0)⟩,
    ⟨(some 37), none, .mov (.t 8)⟩,
    ⟨(some 38), none, .mov (.t 0)⟩,
    ⟨(some 39), none, .mov (.t 8)⟩,
    ⟨(some 40), none, .mov (.t 12)⟩,
    ⟨(some 41), none, .bin .add .no (.t 39) (.t 40)⟩,
    ⟨(some 42), none, .mov (.t 0)⟩,
    ⟨(some 43), none, .mov (.t 8)⟩,
    ⟨(some 44), none, .mov (.t 12)⟩,
    ⟨(some 45), none, .bin .add .no (.t 43) (.t 44)⟩,
    ⟨(some 46), none, .iaddr 14 none (.t 42) (.t 45)⟩,
    ⟨(some 47), none, .load (some 14) (.t 46)⟩,
    ⟨(some 48), none, .mov (.t 0)⟩,
    ⟨(some 49), none, .mov (.t 8)⟩,
    ⟨(some 50), none, .iaddr 14 none (.t 48) (.t 49)⟩,
    ⟨(some 51), none, .load (some 14) (.t 50)⟩,
    ⟨(some 52), none, .iaddr 14 none (.t 36) (.t 37)⟩,
    ⟨none, none, .store (some 14) (.t 52) (.t 47)⟩,
    ⟨(some 53), none, .iaddr 14 none (.t 38) (.t 41)⟩,
    ⟨none, none, .store (some 14) (.t 53) (.t 51)⟩]
    (.fl 0 (.fl 1 (.fl 2 (.fl 3 (.fl 4 (.fl 5 (.fl 6 (.fl 7 (.fl 8 (.fl 9 (.fr 10 (.fr 11 (.fl 12 (.fl 13 (.fr 14 (.fr 15 (.fr 16 (.st 17 [] (.fr 18 (.st 19 [] .done)))))))))))))))))))))
  (.reg [⟨(some 54), none, .mov (.t 0)⟩,
    ⟨(some 55), none, .mov (.t 9)⟩,
    ⟨(some 56), none, .mov (.t 12)⟩,
    ⟨(some 57), none, .mov (.t 8)⟩,
    ⟨(some 58), none, .mov (.t 3)⟩,
    ⟨(some 59), none, .call 73 [(.t 54), (.t 55), (.t 56), (.t 57), (.t 58)]⟩])))
  (.reg [⟨(some 34), none, .mov (.t 12)⟩,
    ⟨(some 35), none, .bin .sub .no (.t 34) (.c (.raw (.int .i64 1)))⟩,
    ⟨(some 12), none, .mov (.t 35)⟩]))))))))))
theorem i_slices_heapSortCmpFunc_shadow_Shadow : Is Tryd.prog 62 60 [] c_slices_heapSortCmpFunc_shadow_Shadow := ⟨Tryd.f62, _, p_slices_heapSortCmpFunc_shadow_Shadow, rfl, rfl, by kernel_rfl, by kernel_rfl, rfl⟩
def p_slices_breakPatternsCmpFunc_shadow_Shadow : List (Nat × Pl) := [(10, (.fl 0 (.fl 1 (.fl 2 (.fl 3 (.fl 4 (.fl 5 (.fl 6 (.fl 7 (.fl 8 (.fl 9 (.fr 10 (.fr 11 (.fl 12 (.fl 13 (.fr 14 (.fr 15 (.fr 16 (.st 17 [] (.fr 18 (.st 19 [] .done)))))))))))))))))))))]
def c_slices_breakPatternsCmpFunc_shadow_Shadow : VCode :=
 (.seq (.reg [⟨(some 13), none, .mov (.t 2)⟩,
   ⟨(some 14), none, .mov (.t 1)⟩,
   ⟨(some 15), none, .bin .sub .no (.t 13) (.t 14)⟩,
   ⟨(some 8), none, .mov (.t 15)⟩])
 (.seq (.reg [⟨(some 16), none, .mov (.t 8)⟩,
   ⟨(some 17), none, .bin .geq .no (.t 16) (.c (.raw (.int .i64 8)))⟩])
 (.cond (.t 17)
  (.seq (.reg [⟨(some 18), none, .mov (.t 8)⟩,
    ⟨(some 19), none, .conv (.int .u64) (.t 18)⟩,
    ⟨(some 9), none, .new 127 [(.int .u64 0)]⟩,
    ⟨none, none, .store none (.t 9) (.t 19)⟩])
  (.seq (.reg [⟨(some 20), none, .mov (.t 8)⟩,
    ⟨(some 21), none, .call 74 [(.t 20)]⟩,
    ⟨(some 10), none, .mov (.t 21)⟩])
  (.seq (.reg [⟨(some 22), none, .mov (.t 1)⟩,
    ⟨(some 23), none, .mov (.t 8)⟩,
    ⟨(some 24), none, .bin .quo .no (.t 23) (.c (.raw (.int .i64 4)))⟩,
    ⟨(some 25), none, .bin .mul .no (.t 24) (.c (.raw (.int .i64 2)))⟩,
    ⟨(some 26), none, .bin .add .no (.t 22) (.t 25)⟩,
    ⟨(some 27), none, .bin .sub .no (.t 26) (.c (.raw (.int .i64 1)))⟩,
    ⟨(some 11), none, .mov (.t 27)⟩])
  (.block 0 (.loop (.seq (.seq (.reg [⟨(some 28), none, .mov (.t 11)⟩,
     ⟨(some 29), none, .mov (.t 1)⟩,
     ⟨(some 30), none, .mov (.t 8)⟩,
     ⟨(some 31), none, .bin .quo .no (.t 30) (.c (.raw (.int .i64 4)))⟩,
     ⟨(some 32), none, .bin .mul .no (.t 31) (.c (.raw (.int .i64 2)))⟩,
     ⟨(some 33), none, .bin .add .no (.t 29) (.t 32)⟩,
     ⟨(some 34), none, .bin .add .no (.t 33) (.c (.raw (.int .i64 1)))⟩,
     ⟨(some 35), none, .bin .leq .no (.t 28) (.t 34)⟩])
   (.cond (.t 35)
    .skip
    (.exit 0)))
   (.seq (.block 1 (.seq (.reg [⟨(some 38), none, .call 75 [(.t 9)]⟩,
     ⟨(some 39), none, .mov (.t 10)⟩,
     ⟨(some 40), none, .bin .sub .no (.t 39) (.c (.raw (.int .u64 1)))⟩,
     ⟨(some 41), none, .bin .and .no (.t 38) (.t 40)⟩,
     ⟨(some 42), none, .conv (.int .i64) (.t 41)⟩,
     ⟨(some 12), none, .mov (.t 42)⟩])
   (.seq (.seq (.reg [⟨(some 43), none, .mov (.t 12)⟩,
     ⟨(some 44), none, .mov (.t 8)⟩,
     ⟨(some 45), none, .bin .geq .no (.t 43) (.t 44)⟩])
   (.cond (.t 45)
    (.reg [⟨(some 46), none, .mov (.t 12)⟩,
      ⟨(some 47), none, .mov (.t 8)⟩,
      ⟨(some 48), none, .bin .sub .no (.t 46) (.t 47)⟩,
      ⟨(some 12), none, .mov (.t 48)⟩])
    .skip))
   (.draw [⟨(some 49), none, .mov (.t 0)⟩,
     ⟨(some 50), none, .mov (.t 11)⟩,
     ⟨(some 51), none, .mov (.t 0)⟩,
     ⟨(some 52), none, .mov (.t 1)⟩,
     ⟨(some 53), none, .mov (.t 12)⟩,
     ⟨(some 54), none, .bin .add .no (.t 52) (.t 53)⟩,
     ⟨(some 55), none, .mov (.t 0)⟩,
     ⟨(some 56), none, .mov (.t 1)⟩,
     ⟨(some 57), none, .mov (.t 12)⟩,
     ⟨(some 58), none, .bin .add .no (.t 56) (.t 57)⟩,
     ⟨(some 59), none, .iaddr 14 none (.t 55) (.t 58)⟩,
     ⟨(some 60), none, .load (some 14) (.t 59)⟩,
     ⟨(some 61), none, .mov (.t 0)⟩,
     ⟨(some 62), none, .mov (.t 11)⟩,
     ⟨(some 63), none, .iaddr 14 none (.t 61) (.t 62)⟩,
     ⟨(some 64), none, .load (some 14) (.t 63)⟩,
     ⟨(some 65), none, .iaddr 14 none (.t 49) (.t 50)⟩,
     ⟨none, none, .store (some 14) (.t 65) (.t 60)⟩,
     ⟨(some 66), none, .iaddr 14 none (.t 51) (.t 54)⟩,
     ⟨none, none, .store (some 14) (.t 66) (.t 64)⟩]
     (.fl 0 (.fl 1 (.fl 2 (.fl 3 (.fl 4 (.fl 5 (.fl 6 (.fl 7 (.fl 8 (.fl 9 (.fr 10 (.fr 11 (.fl 12 (.fl 13 (.fr 14 (.fr 15 (.fr 16 (.st 17 [] (.fr 18 (.st 19 [] .done))))))))))))))))))))))))
   (.reg [⟨(some 36), none, .mov (.t 11)⟩,
     ⟨(some 37), none, .bin .add .no (.t 36) (.c (.raw (.int .i64 1)))⟩,
     ⟨(some 11), none, .mov (.t 37)⟩]))))))))
  .skip)))
theorem i_slices_breakPatternsCmpFunc_shadow_Shadow : Is Tryd.prog 63 67 [] c_slices_breakPatternsCmpFunc_shadow_Shadow := ⟨Tryd.f63, _, p_slices_breakPatternsCmpFunc_shadow_Shadow, rfl, rfl, by kernel_rfl, by kernel_rfl, rfl⟩
def p_slices_choosePivotCmpFunc_shadow_Shadow : List (Nat × Pl) := []
def c_slices_choosePivotCmpFunc_shadow_Shadow : VCode :=
 (.seq (.reg [⟨(some 8), none, .mov (.c (.raw (.int .i64 0)))⟩,
   ⟨(some 9), none, .mov (.c (.raw (.int .i64 0)))⟩])
 (.seq (.reg [⟨(some 15), none, .mov (.t 2)⟩,
   ⟨(some 16), none, .mov (.t 1)⟩,
   ⟨(some 17), none, .bin .sub .no (.t 15) (.t 16)⟩,
   ⟨(some 10), none, .mov (.t 17)⟩])
 (.seq (.reg [⟨(some 11), none, .new 3 [(.int .i64 0)]⟩])
 (.seq (.reg [⟨(some 18), none, .mov (.t 1)⟩,
   ⟨(some 19), none, .mov (.t 10)⟩,
   ⟨(some 20), none, .bin .quo .no (.t 19) (.c (.raw (.int .i64 4)))⟩,
   ⟨(some 21), none, .bin .mul .no (.t 20) (.c (.raw (.int .i64 1)))⟩,
   ⟨(some 22), none, .bin .add .no (.t 18) (.t 21)⟩,
   ⟨(some 12), none, .mov (.t 22)⟩])
 (.seq (.reg [⟨(some 23), none, .mov (.t 1)⟩,
   ⟨(some 24), none, .mov (.t 10)⟩,
   ⟨(some 25), none, .bin .quo .no (.t 24) (.c (.raw (.int .i64 4)))⟩,
   ⟨(some 26), none, .bin .mul .no (.t 25) (.c (.raw (.int .i64 2)))⟩,
   ⟨(some 27), none, .bin .add .no (.t 23) (.t 26)⟩,
   ⟨(some 13), none, .mov (.t 27)⟩])
 (.seq (.reg [⟨(some 28), none, .mov (.t 1)⟩,
   ⟨(some 29), none, .mov (.t 10)⟩,
   ⟨(some 30), none, .bin .quo .no (.t 29) (.c (.raw (.int .i64 4)))⟩,
   ⟨(some 31), none, .bin .mul .no (.t 30) (.c (.raw (.int .i64 3)))⟩,
   ⟨(some 32), none, .bin .add .no (.t 28) (.t 31)⟩,
   ⟨(some 14), none, .mov (.t 32)⟩])
 (.seq (.seq (.reg [⟨(some 33), none, .mov (.t 10)⟩,
   ⟨(some 34), none, .bin .geq .no (.t 33) (.c (.raw (.int .i64 8)))⟩])
 (.cond (.t 34)
  (.seq (.seq (.reg [⟨(some 35), none, .mov (.t 10)⟩,
    ⟨(some 36), none, .bin .geq .no (.t 35) (.c (.raw (.int .i64 50)))⟩])
  (.cond (.t 36)
   (.seq (.reg [⟨(some 37), none, .mov (.t 0)⟩,
     ⟨(some 38), none, .mov (.t 12)⟩,
     ⟨(some 39), none, .mov (.t 3)⟩,
     ⟨(some 40), none, .call 76 [(.t 37), (.t 38), (.t 11), (.t 39)]⟩,
     ⟨(some 12), none, .mov (.t 40)⟩])
   (.seq (.reg [⟨(some 41), none, .mov (.t 0)⟩,
     ⟨(some 42), none, .mov (.t 13)⟩,
     ⟨(some 43), none, .mov (.t 3)⟩,
     ⟨(some 44), none, .call 76 [(.t 41), (.t 42), (.t 11), (.t 43)]⟩,
     ⟨(some 13), none, .mov (.t 44)⟩])
   (.reg [⟨(some 45), none, .mov (.t 0)⟩,
     ⟨(some 46), none, .mov (.t 14)⟩,
     ⟨(some 47), none, .mov (.t 3)⟩,
     ⟨(some 48), none, .call 76 [(.t 45), (.t 46), (.t 11), (.t 47)]⟩,
     ⟨(some 14), none, .mov (.t 48)⟩])))
   .skip))
  (.reg [⟨(some 49), none, .mov (.t 0)⟩,
    ⟨(some 50), none, .mov (.t 12)⟩,
    ⟨(some 51), none, .mov (.t 13)⟩,
    ⟨(some 52), none, .mov (.t 14)⟩,
    ⟨(some 53), none, .mov (.t 3)⟩,
    ⟨(some 54), none, .call 77 [(.t 49), (.t 50), (.t 51), (.t 52), (.t 11), (.t 53)]⟩,
    ⟨(some 13), none, .mov (.t 54)⟩]))
  .skip))
 (.seq (.reg [⟨(some 55), none, .load none (.t 11)⟩])
 (.block 0 (.seq (.reg [⟨(some 58), none, .bin .eql .no (.t 55) (.c (.raw (.int .i64 0)))⟩,
   ⟨(some 57), none, .mov (.t 58)⟩])
 (.cond (.t 57)
  (.seq (.reg [⟨(some 59), none, .mov (.t 13)⟩,
    ⟨(some 8), none, .mov (.t 59)⟩,
    ⟨(some 9), none, .mov (.c (.raw (.int .i64 1)))⟩])
  .ret)
  (.seq (.reg [⟨(some 61), none, .bin .eql .no (.t 55) (.c (.raw (.int .i64 12)))⟩,
    ⟨(some 60), none, .mov (.t 61)⟩])
  (.cond (.t 60)
   (.seq (.reg [⟨(some 62), none, .mov (.t 13)⟩,
     ⟨(some 8), none, .mov (.t 62)⟩,
     ⟨(some 9), none, .mov (.c (.raw (.int .i64 2)))⟩])
   .ret)
   (.seq (.reg [⟨(some 56), none, .mov (.t 13)⟩,
     ⟨(some 8), none, .mov (.t 56)⟩,
     ⟨(some 9), none, .mov (.c (.raw (.int .i64 0)))⟩])
   .ret))))))))))))))
theorem i_slices_choosePivotCmpFunc_shadow_Shadow : Is Tryd.prog 64 63 [.t 8, .t 9] c_slices_choosePivotCmpFunc_shadow_Shadow := ⟨Tryd.f64, _, p_slices_choosePivotCmpFunc_shadow_Shadow, rfl, rfl, by kernel_rfl, by kernel_rfl, rfl⟩
def p_slices_reverseRangeCmpFunc_shadow_Shadow : List (Nat × Pl) := [(3, (.fl 0 (.fl 1 (.fl 2 (.fl 3 (.fl 4 (.fl 5 (.fr 6 (.fr 7 (.fl 8 (.fl 9 (.fr 10 (.fr 11 (.fr 12 (.st 13 [] (.fr 14 (.st 15 [] .done)))))))))))))))))]
def c_slices_reverseRangeCmpFunc_shadow_Shadow : VCode :=
 (.seq (.reg [⟨(some 10), none, .mov (.t 1)⟩,
   ⟨(some 8), none, .mov (.t 10)⟩])
 (.seq (.reg [⟨(some 11), none, .mov (.t 2)⟩,
   ⟨(some 12), none, .bin .sub .no (.t 11) (.c (.raw (.int .i64 1)))⟩,
   ⟨(some 9), none, .mov (.t 12)⟩])
 (.block 0 (.loop (.seq (.seq (.reg [⟨(some 13), none, .mov (.t 8)⟩,
    ⟨(some 14), none, .mov (.t 9)⟩,
    ⟨(some 15), none, .bin .lss .no (.t 13) (.t 14)⟩])
  (.cond (.t 15)
   .skip
   (.exit 0)))
  (.block 1 (.seq (.draw [⟨(some 16), none, .mov (.t 0)⟩,
    ⟨(some 17), none, .mov (.t 8)⟩,
    ⟨(some 18), none, .mov (.t 0)⟩,
    ⟨(some 19), none, .mov (.t 9)⟩,
    ⟨(some 20), none, .mov (.t 0)⟩,
    ⟨(some 21), none, .mov (.t 9)⟩,
    ⟨(some 22), none, .iaddr 14 none (.t 20) (.t 21)⟩,
    ⟨(some 23), none, .load (some 14) (.t 22)⟩,
    ⟨(some 24), none, .mov (.t 0)⟩,
    ⟨(some 25), none, .mov (.t 8)⟩,
    ⟨(some 26), none, .iaddr 14 none (.t 24) (.t 25)⟩,
    ⟨(some 27), none, .load (some 14) (.t 26)⟩,
    ⟨(some 28), none, .iaddr 14 none (.t 16) (.t 17)⟩,
    ⟨none, none, .store (some 14) (.t 28) (.t 23)⟩,
    ⟨(some 29), none, .iaddr 14 none (.t 18) (.t 19)⟩,
    ⟨none, none, .store (some 14) (.t 29) (.t 27)⟩]
    (.fl 0 (.fl 1 (.fl 2 (.fl 3 (.fl 4 (.fl 5 (.fr 6 (.fr 7 (.fl 8 (.fl 9 (.fr 10 (.fr 11 (.fr 12 (.st 13 [] (.fr 14 (.st 15 [] .done)))))))))))))))))
  (.seq (.reg [⟨(some 30), none, .mov (.t 8)⟩,
    ⟨(some 31), none, .bin .add .no (.t 30) (.c (.raw (.int .i64 1)))⟩,
    ⟨(some 8), none, .mov (.t 31)⟩])
  (.reg [⟨(some 32), none, .mov (.t 9)⟩,
    ⟨(some 33), none, .bin .sub .no (.t 32) (.c (.raw (.int .i64 1)))⟩,
    ⟨(some 9), none, .mov (.t 33)⟩])))))))))
theorem i_slices_reverseRangeCmpFunc_shadow_Shadow : Is Tryd.prog 65 34 [] c_slices_reverseRangeCmpFunc_shadow_Shadow := ⟨Tryd.f65, _, p_slices_reverseRangeCmpFunc_shadow_Shadow, rfl, rfl, by kernel_rfl, by kernel_rfl, rfl⟩
def p_slices_partialInsertionSortCmpFunc_shadow_Shadow : List (Nat × Pl) := [(5, (.fl 0 (.fl 1 (.fl 2 (.fl 3 (.fl 4 (.fl 5 (.fl 6 (.fr 7 (.fr 8 (.fl 9 (.fl 10 (.fl 11 (.fr 12 (.fr 13 (.st 14 [] (.fl 15 (.fl 16 (.fl 17 .done))))))))))))))))))), (11, (.fl 0 (.fl 1 (.fl 2 (.fl 3 (.fl 4 (.fl 5 (.fl 6 (.fl 7 (.fr 8 (.fr 9 (.fl 10 (.fl 11 (.fr 12 (.fr 13 (.fr 14 (.st 15 [] (.fr 16 (.st 17 [] .done))))))))))))))))))), (16, (.fl 0 (.fl 1 (.fl 2 (.fr 3 (.fr 4 (.fl 5 (.fl 6 (.fl 7 (.fr 8 (.fr 9 (.st 10 [] (.fl 11 (.fl 12 .done)))))))))))))), (17, (.fl 0 (.fl 1 (.fl 2 (.fl 3 (.fl 4 (.fl 5 (.fl 6 (.fl 7 (.fr 8 (.fr 9 (.fl 10 (.fl 11 (.fr 12 (.fr 13 (.fr 14 (.st 15 [] (.fr 16 (.st 17 [] .done))))))))))))))))))), (22, (.fl 0 (.fl 1 (.fl 2 (.fr 3 (.fr 4 (.fl 5 (.fl 6 (.fl 7 (.fr 8 (.fr 9 (.st 10 [] (.fl 11 (.fl 12 .done)))))))))))))), (23, (.fl 0 (.fl 1 (.fl 2 (.fl 3 (.fl 4 (.fl 5 (.fl 6 (.fl 7 (.fr 8 (.fr 9 (.fl 10 (.fl 11 (.fr 12 (.fr 13 (.fr 14 (.st 15 [] (.fr 16 (.st 17 [] .done)))))))))))))))))))]
def c_slices_partialInsertionSortCmpFunc_shadow_Shadow : VCode :=
 (.seq (.reg [⟨(some 8), none, .mov (.c (.kb false))⟩])
 (.seq (.reg [⟨(some 13), none, .mov (.t 1)⟩,
   ⟨(some 14), none, .bin .add .no (.t 13) (.c (.raw (.int .i64 1)))⟩,
   ⟨(some 9), none, .mov (.t 14)⟩])
 (.seq (.seq (.reg [⟨(some 10), none, .mov (.c (.raw (.int .i64 0)))⟩])
 (.block 0 (.loop (.seq (.seq (.reg [⟨(some 15), none, .mov (.t 10)⟩,
    ⟨(some 16), none, .bin .lss .no (.t 15) (.c (.raw (.int .i64 5)))⟩])
  (.cond (.t 16)
   .skip
   (.exit 0)))
  (.seq (.block 1 (.seq (.block 2 (.loop (.seq (.seq (.draw [⟨(some 19), none, .mov (.t 9)⟩,
     ⟨(some 20), none, .mov (.t 2)⟩,
     ⟨(some 21), none, .bin .lss .no (.t 19) (.t 20)⟩,
     ⟨(some 22), none, .mov (.t 21)⟩,
     ⟨(some 23), (some (22, true)), .mov (.t 3)⟩,
     ⟨(some 24), (some (22, true)), .mov (.t 0)⟩,
     ⟨(some 25), (some (22, true)), .mov (.t 9)⟩,
     ⟨(some 26), (some (22, true)), .iaddr 14 none (.t 24) (.t 25)⟩,
     ⟨(some 27), (some (22, true)), .load (some 14) (.t 26)⟩,
     ⟨(some 28), (some (22, true)), .mov (.t 0)⟩,
     ⟨(some 29), (some (22, true)), .mov (.t 9)⟩,
     ⟨(some 30), (some (22, true)), .bin .sub .no (.t 29) (.c (.raw (.int .i64 1)))⟩,
     ⟨(some 31), (some (22, true)), .iaddr 14 none (.t 28) (.t 30)⟩,
     ⟨(some 32), (some (22, true)), .load (some 14) (.t 31)⟩,
     ⟨(some 33), (some (22, true)), .callv (.t 23) [(.t 27), (.t 32)]⟩,
     ⟨(some 34), (some (22, true)), .bin .lss .no (.t 33) (.c (.raw (.int .i64 0)))⟩,
     ⟨(some 35), (some (22, true)), .un .not (.t 34)⟩,
     ⟨(some 36), none, .pick (.t 22) (.t 35) (.c (.kb false))⟩]
     (.fl 0 (.fl 1 (.fl 2 (.fl 3 (.fl 4 (.fl 5 (.fl 6 (.fr 7 (.fr 8 (.fl 9 (.fl 10 (.fl 11 (.fr 12 (.fr 13 (.st 14 [] (.fl 15 (.fl 16 (.fl 17 .done)))))))))))))))))))
   (.cond (.t 36)
    .skip
    (.exit 2)))
   (.block 3 (.reg [⟨(some 37), none, .mov (.t 9)⟩,
     ⟨(some 38), none, .bin .add .no (.t 37) (.c (.raw (.int .i64 1)))⟩,
     ⟨(some 9), none, .mov (.t 38)⟩])))))
  (.seq (.seq (.reg [⟨(some 39), none, .mov (.t 9)⟩,
    ⟨(some 40), none, .mov (.t 2)⟩,
    ⟨(some 41), none, .bin .eql .no (.t 39) (.t 40)⟩])
  (.cond (.t 41)
   (.seq (.reg [⟨(some 8), none, .mov (.c (.kb true))⟩])
   .ret)
   .skip))
  (.seq (.seq (.reg [⟨(some 42), none, .mov (.t 2)⟩,
    ⟨(some 43), none, .mov (.t 1)⟩,
    ⟨(some 44), none, .bin .sub .no (.t 42) (.t 43)⟩,
    ⟨(some 45), none, .bin .lss .no (.t 44) (.c (.raw (.int .i64 50)))⟩])
  (.cond (.t 45)
   (.seq (.reg [⟨(some 8), none, .mov (.c (.kb false))⟩])
   .ret)
   .skip))
  (.seq (.draw [⟨(some 46), none, .mov (.t 0)⟩,
    ⟨(some 47), none, .mov (.t 9)⟩,
    ⟨(some 48), none, .mov (.t 0)⟩,
    ⟨(some 49), none, .mov (.t 9)⟩,
    ⟨(some 50), none, .bin .sub .no (.t 49) (.c (.raw (.int .i64 1)))⟩,
    ⟨(some 51), none, .mov (.t 0)⟩,
    ⟨(some 52), none, .mov (.t 9)⟩,
    ⟨(some 53), none, .bin .sub .no (.t 52) (.c (.raw (.int .i64 1)))⟩,
    ⟨(some 54), none, .iaddr 14 none (.t 51) (.t 53)⟩,
    ⟨(some 55), none, .load (some 14) (.t 54)⟩,
    ⟨(some 56), none, .mov (.t 0)⟩,
    ⟨(some 57), none, .mov (.t 9)⟩,
    ⟨(some 58), none, .iaddr 14 none (.t 56) (.t 57)⟩,
    ⟨(some 59), none, .load (some 14) (.t 58)⟩,
    ⟨(some 60), none, .iaddr 14 none (.t 46) (.t 47)⟩,
    ⟨none, none, .store (some 14) (.t 60) (.t 55)⟩,
    ⟨(some 61), none, .iaddr 14 none (.t 48) (.t 50)⟩,
    ⟨none, none, .store (some 14) (.t 61) (.t 59)⟩]
    (.fl 0 (.fl 1 (.fl 2 (.fl 3 (.fl 4 (.fl 5 (.fl 6 (.fl 7 (.fr 8 (.fr 9 (.fl 10 (.fl 11 (.fr 12 (.fr 13 (.fr 14 (.st 15 [] (.fr 16 (.st 17 [] .done)))))))))))))))))))
  (.seq (.seq (.reg [⟨(some 62), none, .mov (.t 9)⟩,
    ⟨(some 63), none, .mov (.t 1)⟩,
    ⟨(some 64), none, .bin .sub .no (.t 62) (.t 63)⟩,
    ⟨(some 65), none, .bin .geq .no (.t 64) (.c (.raw (.int .i64 2)))⟩])
  (.cond (.t 65)
   (.seq (.reg [⟨(some 66), none, .mov (.t 9)⟩,
     ⟨(some 67), none, .bin .sub .no (.t 66) (.c (.raw (.int .i64 1)))⟩,
     ⟨(some 11), none, .mov (.t 67)⟩])
   (.block 4 (.loop (.seq (.seq (.reg [⟨(some 68), none, .mov (.t 11)⟩,
      ⟨(some 69), none, .bin .geq .no (.t 68) (.c (.raw (.int .i64 1)))⟩])
    (.cond (.t 69)
     .skip
     (.exit 4)))
    (.seq (.block 5 (.seq (.seq (.draw [⟨(some 72), none, .mov (.t 3)⟩,
      ⟨(some 73), none, .mov (.t 0)⟩,
      ⟨(some 74), none, .mov (.t 11)⟩,
      ⟨(some 75), none, .iaddr 14 none (.t 73) (.t 74)⟩,
      ⟨(some 76), none, .load (some 14) (.t 75)⟩,
      ⟨(some 77), none, .mov (.t 0)⟩,
      ⟨(some 78), none, .mov (.t 11)⟩,
      ⟨(some 79), none, .bin .sub .no (.t 78) (.c (.raw (.int .i64 1)))⟩,
      ⟨(some 80), none, .iaddr 14 none (.t 77) (.t 79)⟩,
      ⟨(some 81), none, .load (some 14) (.t 80)⟩,
      ⟨(some 82), none, .callv (.t 72) [(.t 76), (.t 81)]⟩,
      ⟨(some 83), none, .bin .lss .no (.t 82) (.c (.raw (.int .i64 0)))⟩,
      ⟨(some 84), none, .un .not (.t 83)⟩]
      (.fl 0 (.fl 1 (.fl 2 (.fr 3 (.fr 4 (.fl 5 (.fl 6 (.fl 7 (.fr 8 (.fr 9 (.st 10 [] (.fl 11 (.fl 12 .done))))))))))))))
    (.cond (.t 84)
     (.exit 4)
     .skip))
    (.draw [⟨(some 85), none, .mov (.t 0)⟩,
      ⟨(some 86), none, .mov (.t 11)⟩,
      ⟨(some 87), none, .mov (.t 0)⟩,
      ⟨(some 88), none, .mov (.t 11)⟩,
      ⟨(some 89), none, .bin .sub .no (.t 88) (.c (.raw (.int .i64 1)))⟩,
      ⟨(some 90), none, .mov (.t 0)⟩,
      ⟨(some 91), none, .mov (.t 11)⟩,
      ⟨(some 92), none, .bin .sub .no (.t 91) (.c (.raw (.int .i64 1)))⟩,
      ⟨(some 93), none, .iaddr 14 none (.t 90) (.t 92)⟩,
      ⟨(some 94), none, .load (some 14) (.t 93)⟩,
      ⟨(some 95), none, .mov (.t 0)⟩,
      ⟨(some 96), none, .mov (.t 11)⟩,
      ⟨(some 97), none, .iaddr 14 none (.t 95) (.t 96)⟩,
      ⟨(some 98), none, .load (some 14) (.t 97)⟩,
      ⟨(some 99), none, .iaddr 14 none (.t 85) (.t 86)⟩,
      ⟨none, none, .store (some 14) (.t 99) (.t 94)⟩,
      ⟨(some 100), none, .iaddr 14 none (.t 87) (.t 89)⟩,
      ⟨none, none, .store (some 14) (.t 100) (.t 98)⟩]
      (.fl 0 (.fl 1 (.fl 2 (.fl 3 (.fl 4 (.fl 5 (.fl 6 (.fl 7 (.fr 8 (.fr 9 (.fl 10 (.fl 11 (.fr 12 (.fr 13 (.fr 14 (.st 15 [] (.fr 16 (.st 17 [] .done)))))))))))))))))))))
    (.reg [⟨(some 70), none, .mov (.t 11)⟩,
      ⟨(some 71), none, .bin .sub .no (.t 70) (.c (.raw (.int .i64 1)))⟩,
      ⟨(some 11), none, .mov (.t 71)⟩]))))))
   .skip))
  (.seq (.reg [⟨(some 101), none, .mov (.t 2)⟩,
    ⟨(some 102), none, .mov (.t 9)⟩,
    ⟨(some 103), none, .bin .sub .no (.t 101) (.t 102)⟩,
    ⟨(some 104), none, .bin .geq .no (.t 103) (.c (.raw (.int .i64 2)))⟩])
  (.cond (.t 104)
   (.seq (.reg [⟨(some 105), none, .mov (.t 9)⟩,
     ⟨(some 106), none, .bin .add .no (.t 105) (.c (.raw (.int .i64 1)))⟩,
     ⟨(some 12), none, .mov (.t 106)⟩])
   (.block 6 (.loop (.seq (.seq (.reg [⟨(some 107), none, .mov (.t 12)⟩,
      ⟨(some 108), none, .mov (.t 2)⟩,
      ⟨(some 109), none, .bin .lss .no (.t 107) (.t 108)⟩])
    (.cond (.t 109)
     .skip
     (.exit 6)))
    (.seq (.block 7 (.seq (.seq (.draw [⟨(some 112), none, .mov (.t 3)⟩,
      ⟨(some 113), none, .mov (.t 0)⟩,
      ⟨(some 114), none, .mov (.t 12)⟩,
      ⟨(some 115), none, .iaddr 14 none (.t 113) (.t 114)⟩,
      ⟨(some 116), none, .load (some 14) (.t 115)⟩,
      ⟨(some 117), none, .mov (.t 0)⟩,
      ⟨(some 118), none, .mov (.t 12)⟩,
      ⟨(some 119), none, .bin .sub .no (.t 118) (.c (.raw (.int .i64 1)))⟩,
      ⟨(some 120), none, .iaddr 14 none (.t 117) (.t 119)⟩,
      ⟨(some 121), none, .load (some 14) (.t 120)⟩,
      ⟨(some 122), none, .callv (.t 112) [(.t 116), (.t 121)]⟩,
      ⟨(some 123), none, .bin .lss .no (.t 122) (.c (.raw (.int .i64 0)))⟩,
      ⟨(some 124), none, .un .not (.t 123)⟩]
      (.fl 0 (.fl 1 (.fl 2 (.fr 3 (.fr 4 (.fl 5 (.fl 6 (.fl 7 (.fr 8 (.fr 9 (.st 10 [] (.fl 11 (.fl 12 .done))))))))))))))
    (.cond (.t 124)
     (.exit 6)
     .skip))
    (.draw [⟨(some 125), none, .mov (.t 0)⟩,
      ⟨(some 126), none, .mov (.t 12)⟩,
      ⟨(some 127), none, .mov (.t 0)⟩,
      ⟨(some 128), none, .mov (.t 12)⟩,
      ⟨(some 129), none, .bin .sub .no (.t 128) (.c (.raw (.int .i64 1)))⟩,
      ⟨(some 130), none, .mov (.t 0)⟩,
      ⟨(some 131), none, .mov (.t 12)⟩,
      ⟨(some 132), none, .bin .sub .no (.t 131) (.c (.raw (.int .i64 1)))⟩,
      ⟨(some 133), none, .iaddr 14 none (.t 130) (.t 132)⟩,
      ⟨(some 134), none, .load (some 14) (.t 133)⟩,
      ⟨(some 135), none, .mov (.t 0)⟩,
      ⟨(some 136), none, .mov (.t 12)⟩,
      ⟨(some 137), none, .iaddr 14 none (.t 135) (.t 136)⟩,
      ⟨(some 138), none, .load (some 14) (.t 137)⟩,
      ⟨(some 139), none, .iaddr 14 none (.t 125) (.t 126)⟩,
      ⟨none, none, .store (some 14) (.t 139) (.t 134)⟩,
      ⟨(some 140), none, .iaddr 14 none (.t 127) (.t 129)⟩,
      ⟨none, none, .store (some 14) (.t 140) (.t 138)⟩]
      (.fl 0 (.fl 1 (.fl 2 (.fl 3 (.fl 4 (.fl 5 (.fl 6 (.fl 7 (.fr 8 (.fr 9 (.fl 10 (.fl 11 (.fr 12 (.fr 13 (.fr 14 (.st 15 [] (.fr 16 (.st 17 [] .done)))))))))))))))))))))
    (.reg [⟨(some 110), none, .mov (.t 12)⟩,
      ⟨(some 111), none, .bin .add .no (.t 110) (.c (.raw (.int .i64 1)))⟩,
      ⟨(some 12), none, .mov (.t 111)⟩]))))))
   .skip))))))))
  (.reg [⟨(some 17), none, .mov (.t 10)⟩,
    ⟨(some 18), none, .bin .add .no (.t 17) (.c (.raw (.int .i64 1)))⟩,
    ⟨(some 10), none, .mov (.t 18)⟩]))))))
 (.seq (.reg [⟨(some 8), none, .mov (.c (.kb false))⟩])
 .ret))))
theorem i_slices_partialInsertionSortCmpFunc_shadow_Shadow : Is Tryd.prog 66 141 [.t 8] c_slices_partialInsertionSortCmpFunc_shadow_Shadow := ⟨Tryd.f66, _, p_slices_partialInsertionSortCmpFunc_shadow_Shadow, rfl, rfl, by kernel_rfl, by kernel_rfl, rfl⟩
def p_slices_partitionEqualCmpFunc_shadow_Shadow : List (Nat × Pl) := [(1, (.fl 0 (.fl 1 (.fl 2 (.fl 3 (.fl 4 (.fl 5 (.fr 6 (.fr 7 (.fl 8 (.fl 9 (.fr 10 (.fr 11 (.fr 12 (.st 13 [] (.fr 14 (.st 15 [] .done))))))))))))))))), (3, (.fl 0 (.fl 1 (.fl 2 (.fl 3 (.fl 4 (.fl 5 (.fl 6 (.fr 7 (.fr 8 (.fl 9 (.fl 10 (.fr 11 (.fr 12 (.st 13 [] (.fl 14 (.fl 15 (.fl 16 .done)))))))))))))))))), (5, (.fl 0 (.fl 1 (.fl 2 (.fl 3 (.fl 4 (.fl 5 (.fl 6 (.fr 7 (.fr 8 (.fl 9 (.fl 10 (.fr 11 (.fr 12 (.st 13 [] (.fl 14 (.fl 15 .done))))))))))))))))), (8, (.fl 0 (.fl 1 (.fl 2 (.fl 3 (.fl 4 (.fl 5 (.fr 6 (.fr 7 (.fl 8 (.fl 9 (.fr 10 (.fr 11 (.fr 12 (.st 13 [] (.fr 14 (.st 15 [] .done)))))))))))))))))]
def c_slices_partitionEqualCmpFunc_shadow_Shadow : VCode :=
 (.seq (.reg [⟨(some 10), none, .mov (.c (.raw (.int .i64 0)))⟩])
 (.seq (.draw [⟨(some 13), none, .mov (.t 0)⟩,
   ⟨(some 14), none, .mov (.t 1)⟩,
   ⟨(some 15), none, .mov (.t 0)⟩,
   ⟨(some 16), none, .mov (.t 3)⟩,
   ⟨(some 17), none, .mov (.t 0)⟩,
   ⟨(some 18), none, .mov (.t 3)⟩,
   ⟨(some 19), none, .iaddr 14 none (.t 17) (.t 18)⟩,
   ⟨(some 20), none, .load (some 14) (.t 19)⟩,
   ⟨(some 21), none, .mov (.t 0)⟩,
   ⟨(some 22), none, .mov (.t 1)⟩,
   ⟨(some 23), none, .iaddr 14 none (.t 21) (.t 22)⟩,
   ⟨(some 24), none, .load (some 14) (.t 23)⟩,
   ⟨(some 25), none, .iaddr 14 none (.t 13) (.t 14)⟩,
   ⟨none, none, .store (some 14) (.t 25) (.t 20)⟩,
   ⟨(some 26), none, .iaddr 14 none (.t 15) (.t 16)⟩,
   ⟨none, none, .store (some 14) (.t 26) (.t 24)⟩]
   (.fl 0 (.fl 1 (.fl 2 (.fl 3 (.fl 4 (.fl 5 (.fr 6 (.fr 7 (.fl 8 (.fl 9 (.fr 10 (.fr 11 (.fr 12 (.st 13 [] (.fr 14 (.st 15 [] .done)))))))))))))))))
 (.seq (.reg [⟨(some 27), none, .mov (.t 1)⟩,
   ⟨(some 28), none, .bin .add .no (.t 27) (.c (.raw (.int .i64 1)))⟩,
   ⟨(some 29), none, .mov (.t 2)⟩,
   ⟨(some 30), none, .bin .sub .no (.t 29) (.c (.raw (.int .i64 1)))⟩,
   ⟨(some 11), none, .mov (.t 28)⟩,
   ⟨(some 12), none, .mov (.t 30)⟩])
 (.seq (.block 0 (.loop (.block 1 (.seq (.block 2 (.loop (.seq (.seq (.draw [⟨(some 31), none, .mov (.t 11)⟩,
     ⟨(some 32), none, .mov (.t 12)⟩,
     ⟨(some 33), none, .bin .leq .no (.t 31) (.t 32)⟩,
     ⟨(some 34), none, .mov (.t 33)⟩,
     ⟨(some 35), (some (34, true)), .mov (.t 4)⟩,
     ⟨(some 36), (some (34, true)), .mov (.t 0)⟩,
     ⟨(some 37), (some (34, true)), .mov (.t 1)⟩,
     ⟨(some 38), (some (34, true)), .iaddr 14 none (.t 36) (.t 37)⟩,
     ⟨(some 39), (some (34, true)), .load (some 14) (.t 38)⟩,
     ⟨(some 40), (some (34, true)), .mov (.t 0)⟩,
     ⟨(some 41), (some (34, true)), .mov (.t 11)⟩,
     ⟨(some 42), (some (34, true)), .iaddr 14 none (.t 40) (.t 41)⟩,
     ⟨(some 43), (some (34, true)), .load (some 14) (.t 42)⟩,
     ⟨(some 44), (some (34, true)), .callv (.t 35) [(.t 39), (.t 43)]⟩,
     ⟨(some 45), (some (34, true)), .bin .lss .no (.t 44) (.c (.raw (.int .i64 0)))⟩,
     ⟨(some 46), (some (34, true)), .un .not (.t 45)⟩,
     ⟨(some 47), none, .pick (.t 34) (.t 46) (.c (.kb false))⟩]
     (.fl 0 (.fl 1 (.fl 2 (.fl 3 (.fl 4 (.fl 5 (.fl 6 (.fr 7 (.fr 8 (.fl 9 (.fl 10 (.fr 11 (.fr 12 (.st 13 [] (.fl 14 (.fl 15 (.fl 16 .done))))))))))))))))))
   (.cond (.t 47)
    .skip
    (.exit 2)))
   (.block 3 (.reg [⟨(some 48), none, .mov (.t 11)⟩,
     ⟨(some 49), none, .bin .add .no (.t 48) (.c (.raw (.int .i64 1)))⟩,
     ⟨(some 11), none, .mov (.t 49)⟩])))))
  (.seq (.block 4 (.loop (.seq (.seq (.draw [⟨(some 50), none, .mov (.t 11)⟩,
     ⟨(some 51), none, .mov (.t 12)⟩,
     ⟨(some 52), none, .bin .leq .no (.t 50) (.t 51)⟩,
     ⟨(some 53), none, .mov (.t 52)⟩,
     ⟨(some 54), (some (53, true)), .mov (.t 4)⟩,
     ⟨(some 55), (some (53, true)), .mov (.t 0)⟩,
     ⟨(some 56), (some (53, true)), .mov (.t 1)⟩,
     ⟨(some 57), (some (53, true)), .iaddr 14 none (.t 55) (.t 56)⟩,
     ⟨(some 58), (some (53, true)), .load (some 14) (.t 57)⟩,
     ⟨(some 59), (some (53, true)), .mov (.t 0)⟩,
     ⟨(some 60), (some (53, true)), .mov (.t 12)⟩,
     ⟨(some 61), (some (53, true)), .iaddr 14 none (.t 59) (.t 60)⟩,
     ⟨(some 62), (some (53, true)), .load (some 14) (.t 61)⟩,
     ⟨(some 63), (some (53, true)), .callv (.t 54) [(.t 58), (.t 62)]⟩,
     ⟨(some 64), (some (53, true)), .bin .lss .no (.t 63) (.c (.raw (.int .i64 0)))⟩,
     ⟨(some 65), none, .pick (.t 53) (.t 64) (.c (.kb false))⟩]
     (.fl 0 (.fl 1 (.fl 2 (.fl 3 (.fl 4 (.fl 5 (.fl 6 (.fr 7 (.fr 8 (.fl 9 (.fl 10 (.fr 11 (.fr 12 (.st 13 [] (.fl 14 (.fl 15 .done)))))))))))))))))
   (.cond (.t 65)
    .skip
    (.exit 4)))
   (.block 5 (.reg [⟨(some 66), none, .mov (.t 12)⟩,
     ⟨(some 67), none, .bin .sub .no (.t 66) (.c (.raw (.int .i64 1)))⟩,
     ⟨(some 12), none, .mov (.t 67)⟩])))))
  (.seq (.seq (.reg [⟨(some 68), none, .mov (.t 11)⟩,
    ⟨(some 69), none, .mov (.t 12)⟩,
    ⟨(some 70), none, .bin .gtr .no (.t 68) (.t 69)⟩])
  (.cond (.t 70)
   (.exit 0)
   .skip))
  (.seq (.draw [⟨(some 71), none, .mov (.t 0)⟩,
    ⟨(some 72), none, .mov (.t 11)⟩,
    ⟨(some 73), none, .mov (.t 0)⟩,
    ⟨(some 74), none, .mov (.t 12)⟩,
    ⟨(some 75), none, .mov (.t 0)⟩,
    ⟨(some 76), none, .mov (.t 12)⟩,
    ⟨(some 77), none, .iaddr 14 none (.t 75) (.t 76)⟩,
    ⟨(some 78), none, .load (some 14) (.t 77)⟩,
    ⟨(some 79), none, .mov (.t 0)⟩,
    ⟨(some 80), none, .mov (.t 11)⟩,
    ⟨(some 81), none, .iaddr 14 none (.t 79) (.t 80)⟩,
    ⟨(some 82), none, .load (some 14) (.t 81)⟩,
    ⟨(some 83), none, .iaddr 14 none (.t 71) (.t 72)⟩,
    ⟨none, none, .store (some 14) (.t 83) (.t 78)⟩,
    ⟨(some 84), none, .iaddr 14 none (.t 73) (.t 74)⟩,
    ⟨none, none, .store (some 14) (.t 84) (.t 82)⟩]
    (.fl 0 (.fl 1 (.fl 2 (.fl 3 (.fl 4 (.fl 5 (.fr 6 (.fr 7 (.fl 8 (.fl 9 (.fr 10 (.fr 11 (.fr 12 (.st 13 [] (.fr 14 (.st 15 [] .done)))))))))))))))))
  (.seq (.reg [⟨(some 85), none, .mov (.t 11)⟩,
    ⟨(some 86), none, .bin .add .no (.t 85) (.c (.raw (.int .i64 1)))⟩,
    ⟨(some 11), none, .mov (.t 86)⟩])
  (.reg [⟨(some 87), none, .mov (.t 12)⟩,
    ⟨(some 88), none, .bin .sub .no (.t 87) (.c (.raw (.int .i64 1)))⟩,
    ⟨(some 12), none, .mov (.t 88)⟩])))))))))
 (.seq (.reg [⟨(some 89), none, .mov (.t 11)⟩,
   ⟨(some 10), none, .mov (.t 89)⟩])
 .ret)))))
theorem i_slices_partitionEqualCmpFunc_shadow_Shadow : Is Tryd.prog 67 90 [.t 10] c_slices_partitionEqualCmpFunc_shadow_Shadow := ⟨Tryd.f67, _, p_slices_partitionEqualCmpFunc_shadow_Shadow, rfl, rfl, by kernel_rfl, by kernel_rfl, rfl⟩
def p_slices_partitionCmpFunc_shadow_Shadow : List (Nat × Pl) := [(1, (.fl 0 (.fl 1 (.fl 2 (.fl 3 (.fl 4 (.fl 5 (.fr 6 (.fr 7 (.fl 8 (.fl 9 (.fr 10 (.fr 11 (.fr 12 (.st 13 [] (.fr 14 (.st 15 [] .done))))))))))))))))), (3, (.fl 0 (.fl 1 (.fl 2 (.fl 3 (.fl 4 (.fl 5 (.fl 6 (.fr 7 (.fr 8 (.fl 9 (.fl 10 (.fr 11 (.fr 12 (.st 13 [] (.fl 14 (.fl 15 .done))))))))))))))))), (5, (.fl 0 (.fl 1 (.fl 2 (.fl 3 (.fl 4 (.fl 5 (.fl 6 (.fr 7 (.fr 8 (.fl 9 (.fl 10 (.fr 11 (.fr 12 (.st 13 [] (.fl 14 (.fl 15 (.fl 16 .done)))))))))))))))))), (8, (.fl 0 (.fl 1 (.fl 2 (.fl 3 (.fl 4 (.fl 5 (.fr 6 (.fr 7 (.fl 8 (.fl 9 (.fr 10 (.fr 11 (.fr 12 (.st 13 [] (.fr 14 (.st 15 [] .done))))))))))))))))), (10, (.fl 0 (.fl 1 (.fl 2 (.fl 3 (.fl 4 (.fl 5 (.fr 6 (.fr 7 (.fl 8 (.fl 9 (.fr 10 (.fr 11 (.fr 12 (.st 13 [] (.fr 14 (.st 15 [] .done))))))))))))))))), (13, (.fl 0 (.fl 1 (.fl 2 (.fl 3 (.fl 4 (.fl 5 (.fl 6 (.fr 7 (.fr 8 (.fl 9 (.fl 10 (.fr 11 (.fr 12 (.st 13 [] (.fl 14 (.fl 15 .done))))))))))))))))), (15, (.fl 0 (.fl 1 (.fl 2 (.fl 3 (.fl 4 (.fl 5 (.fl 6 (.fr 7 (.fr 8 (.fl 9 (.fl 10 (.fr 11 (.fr 12 (.st 13 [] (.fl 14 (.fl 15 (.fl 16 .done)))))))))))))))))), (18, (.fl 0 (.fl 1 (.fl 2 (.fl 3 (.fl 4 (.fl 5 (.fr 6 (.fr 7 (.fl 8 (.fl 9 (.fr 10 (.fr 11 (.fr 12 (.st 13 [] (.fr 14 (.st 15 [] .done))))))))))))))))), (21, (.fl 0 (.fl 1 (.fl 2 (.fl 3 (.fl 4 (.fl 5 (.fr 6 (.fr 7 (.fl 8 (.fl 9 (.fr 10 (.fr 11 (.fr 12 (.st 13 [] (.fr 14 (.st 15 [] .done)))))))))))))))))]
def c_slices_partitionCmpFunc_shadow_Shadow : VCode :=
 (.seq (.reg [⟨(some 10), none, .mov (.c (.raw (.int .i64 0)))⟩,
   ⟨(some 11), none, .mov (.c (.kb false))⟩])
 (.seq (.draw [⟨(some 14), none, .mov (.t 0)⟩,
   ⟨(some 15), none, .mov (.t 1)⟩,
   ⟨(some 16), none, .mov (.t 0)⟩,
   ⟨(some 17), none, .mov (.t 3)⟩,
   ⟨(some 18), none, .mov (.t 0)⟩,
   ⟨(some 19), none, .mov (.t 3)⟩,
   ⟨(some 20), none, .iaddr 14 none (.t 18) (.t 19)⟩,
   ⟨(some 21), none, .load (some 14) (.t 20)⟩,
   ⟨(some 22), none, .mov (.t 0)⟩,
   ⟨(some 23), none, .mov (.t 1)⟩,
   ⟨(some 24), none, .iaddr 14 none (.t 22) (.t 23)⟩,
   ⟨(some 25), none, .load (some 14) (.t 24)⟩,
   ⟨(some 26), none, .iaddr 14 none (.t 14) (.t 15)⟩,
   ⟨none, none, .store (some 14) (.t 26) (.t 21)⟩,
   ⟨(some 27), none, .iaddr 14 none (.t 16) (.t 17)⟩,
   ⟨none, none, .store (some 14) (.t 27) (.t 25)⟩]
   (.fl 0 (.fl 1 (.fl 2 (.fl 3 (.fl 4 (.fl 5 (.fr 6 (.fr 7 (.fl 8 (.fl 9 (.fr 10 (.fr 11 (.fr 12 (.st 13 [] (.fr 14 (.st 15 [] .done)))))))))))))))))
 (.seq (.reg [⟨(some 28), none, .mov (.t 1)⟩,
   ⟨(some 29), none, .bin .add .no (.t 28) (.c (.raw (.int .i64 1)))⟩,
   ⟨(some 30), none, .mov (.t 2)⟩,
   ⟨(some 31), none, .bin .sub .no (.t 30) (.c (.raw (.int .i64 1)))⟩,
   ⟨(some 12), none, .mov (.t 29)⟩,
   ⟨(some 13), none, .mov (.t 31)⟩])
 (.seq (.block 0 (.loop (.seq (.seq (.draw [⟨(some 32), none, .mov (.t 12)⟩,
    ⟨(some 33), none, .mov (.t 13)⟩,
    ⟨(some 34), none, .bin .leq .no (.t 32) (.t 33)⟩,
    ⟨(some 35), none, .mov (.t 34)⟩,
    ⟨(some 36), (some (35, true)), .mov (.t 4)⟩,
    ⟨(some 37), (some (35, true)), .mov (.t 0)⟩,
    ⟨(some 38), (some (35, true)), .mov (.t 12)⟩,
    ⟨(some 39), (some (35, true)), .iaddr 14 none (.t 37) (.t 38)⟩,
    ⟨(some 40), (some (35, true)), .load (some 14) (.t 39)⟩,
    ⟨(some 41), (some (35, true)), .mov (.t 0)⟩,
    ⟨(some 42), (some (35, true)), .mov (.t 1)⟩,
    ⟨(some 43), (some (35, true)), .iaddr 14 none (.t 41) (.t 42)⟩,
    ⟨(some 44), (some (35, true)), .load (some 14) (.t 43)⟩,
    ⟨(some 45), (some (35, true)), .callv (.t 36) [(.t 40), (.t 44)]⟩,
    ⟨(some 46), (some (35, true)), .bin .lss .no (.t 45) (.c (.raw (.int .i64 0)))⟩,
    ⟨(some 47), none, .pick (.t 35) (.t 46) (.c (.kb false))⟩]
    (.fl 0 (.fl 1 (.fl 2 (.fl 3 (.fl 4 (.fl 5 (.fl 6 (.fr 7 (.fr 8 (.fl 9 (.fl 10 (.fr 11 (.fr 12 (.st 13 [] (.fl 14 (.fl 15 .done)))))))))))))))))
  (.cond (.t 47)
   .skip
   (.exit 0)))
  (.block 1 (.reg [⟨(some 48), none, .mov (.t 12)⟩,
    ⟨(some 49), none, .bin .add .no (.t 48) (.c (.raw (.int .i64 1)))⟩,
    ⟨(some 12), none, .mov (.t 49)⟩])))))
 (.seq (.block 2 (.loop (.seq (.seq (.draw [⟨(some 50), none, .mov (.t 12)⟩,
    ⟨(some 51), none, .mov (.t 13)⟩,
    ⟨(some 52), none, .bin .leq .no (.t 50) (.t 51)⟩,
    ⟨(some 53), none, .mov (.t 52)⟩,
    ⟨(some 54), (some (53, true)), .mov (.t 4)⟩,
    ⟨(some 55), (some (53, true)), .mov (.t 0)⟩,
    ⟨(some 56), (some (53, true)), .mov (.t 13)⟩,
    ⟨(some 57), (some (53, true)), .iaddr 14 none (.t 55) (.t 56)⟩,
    ⟨(some 58), (some (53, true)), .load (some 14) (.t 57)⟩,
    ⟨(some 59), (some (53, true)), .mov (.t 0)⟩,
    ⟨(some 60), (some (53, true)), .mov (.t 1)⟩,
    ⟨(some 61), (some (53, true)), .iaddr 14 none (.t 59) (.t 60)⟩,
    ⟨(some 62), (some (53, true)), .load (some 14) (.t 61)⟩,
    ⟨(some 63), (some (53, true)), .callv (.t 54) [(.t 58), (.t 62)]⟩,
    ⟨(some 64), (some (53, true)), .bin .lss .no (.t 63) (.c (.raw (.int .i64 0)))⟩,
    ⟨(some 65), (some (53, true)), .un .not (.t 64)⟩,
    ⟨(some 66), none, .pick (.t 53) (.t 65) (.c (.kb false))⟩]
    (.fl 0 (.fl 1 (.fl 2 (.fl 3 (.fl 4 (.fl 5 (.fl 6 (.fr 7 (.fr 8 (.fl 9 (.fl 10 (.fr 11 (.fr 12 (.st 13 [] (.fl 14 (.fl 15 (.fl 16 .done))))))))))))))))))
  (.cond (.t 66)
   .skip
   (.exit 2)))
  (.block 3 (.reg [⟨(some 67), none, .mov (.t 13)⟩,
    ⟨(some 68), none, .bin .sub .no (.t 67) (.c (.raw (.int .i64 1)))⟩,
    ⟨(some 13), none, .mov (.t 68)⟩])))))
 (.seq (.seq (.reg [⟨(some 69), none, .mov (.t 12)⟩,
   ⟨(some 70), none, .mov (.t 13)⟩,
   ⟨(some 71), none, .bin .gtr .no (.t 69) (.t 70)⟩])
 (.cond (.t 71)
  (.seq (.draw [⟨(some 72), none, .mov (.t 0)⟩,
    ⟨(some 73), none, .mov (.t 13)⟩,
    ⟨(some 74), none, .mov (.t 0)⟩,
    ⟨(some 75), none, .mov (.t 1)⟩,
    ⟨(some 76), none, .mov (.t 0)⟩,
    ⟨(some 77), none, .mov (.t 1)⟩,
    ⟨(some 78), none, .iaddr 14 none (.t 76) (.t 77)⟩,
    ⟨(some 79), none, .load (some 14) (.t 78)⟩,
    ⟨(some 80), none, .mov (.t 0)⟩,
    ⟨(some 81), none, .mov (.t 13)⟩,
    ⟨(some 82), none, .iaddr 14 none (.t 80) (.t 81)⟩,
    ⟨(some 83), none, .load (some 14) (.t 82)⟩,
    ⟨(some 84), none, .iaddr 14 none (.t 72) (.t 73)⟩,
    ⟨none, none, .store (some 14) (.t 84) (.t 79)⟩,
    ⟨(some 85), none, .iaddr 14 none (.t 74) (.t 75)⟩,
    ⟨none, none, .store (some 14) (.t 85) (.t 83)⟩]
    (.fl 0 (.fl 1 (.fl 2 (.fl 3 (.fl 4 (.fl 5 (.fr 6 (.fr 7 (.fl 8 (.fl 9 (.fr 10 (.fr 11 (.fr 12 (.st 13 [] (.fr 14 (.st 15 [] .done)))))))))))))))))
  (.seq (.reg [⟨(some 86), none, .mov (.t 13)⟩,
    ⟨(some 10), none, .mov (.t 86)⟩,
    ⟨(some 11), none, .mov (.c (.kb true))⟩])
  .ret))
  .skip))
 (.seq (.draw [⟨(some 87), none, .mov (.t 0)⟩,
   ⟨(some 88), none, .mov (.t 12)⟩,
   ⟨(some 89), none, .mov (.t 0)⟩,
   ⟨(some 90), none, .mov (.t 13)⟩,
   ⟨(some 91), none, .mov (.t 0)⟩,
   ⟨(some 92), none, .mov (.t 13)⟩,
   ⟨(some 93), none, .iaddr 14 none (.t 91) (.t 92)⟩,
   ⟨(some 94), none, .load (some 14) (.t 93)⟩,
   ⟨(some 95), none, .mov (.t 0)⟩,
   ⟨(some 96), none, .mov (.t 12)⟩,
   ⟨(some 97), none, .iaddr 14 none (.t 95) (.t 96)⟩,
   ⟨(some 98), none, .load (some 14) (.t 97)⟩,
   ⟨(some 99), none, .iaddr 14 none (.t 87) (.t 88)⟩,
   ⟨none, none, .store (some 14) (.t 99) (.t 94)⟩,
   ⟨(some 100), none, .iaddr 14 none (.t 89) (.t 90)⟩,
   ⟨none, none, .store (some 14) (.t 100) (.t 98)⟩]
   (.fl 0 (.fl 1 (.fl 2 (.fl 3 (.fl 4 (.fl 5 (.fr 6 (.fr 7 (.fl 8 (.fl 9 (.fr 10 (.fr 11 (.fr 12 (.st 13 [] (.fr 14 (.st 15 [] .done)))))))))))))))))
 (.seq (.reg [⟨(some 101), none, .mov (.t 12)⟩,
   ⟨(some 102), none, .bin .add .no (.t 101) (.c (.raw (.int .i64 1)))⟩,
   ⟨(some 12), none, .mov (.t 102)⟩])
 (.seq (.reg [⟨(some 103), none, .mov (.t 13)⟩,
   ⟨(some 104), none, .bin .sub .no (.t 103) (.c (.raw (.int .i64 1)))⟩,
   ⟨(some 13), none, .mov (.t 104)⟩])
 (.seq (.block 4 (.loop (.block 5 (.seq (.block 6 (.loop (.seq (.seq (.draw [⟨(some 105), none, .mov (.t 12)⟩,
     ⟨(some 106), none, .mov (.t 13)⟩,
     ⟨(some 107), none, .bin .leq .no (.t 105) (.t 106)⟩,
     ⟨(some 108), none, .mov (.t 107)⟩,
     ⟨(some 109), (some (108, true)), .mov (.t 4)⟩,
     ⟨(some 110), (some (108, true)), .mov (.t 0)⟩,
     ⟨(some 111), (some (108, true)), .mov (.t 12)⟩,
     ⟨(some 112), (some (108, true)), .iaddr 14 none (.t 110) (.t 111)⟩,
     ⟨(some 113), (some (108, true)), .load (some 14) (.t 112)⟩,
     ⟨(some 114), (some (108, true)), .mov (.t 0)⟩,
     ⟨(some 115), (some (108, true)), .mov (.t 1)⟩,
     ⟨(some 116), (some (108, true)), .iaddr 14 none (.t 114) (.t 115)⟩,
     ⟨(some 117), (some (108, true)), .load (some 14) (.t 116)⟩,
     ⟨(some 118), (some (108, true)), .callv (.t 109) [(.t 113), (.t 117)]⟩,
     ⟨(some 119), (some (108, true)), .bin .lss .no (.t 118) (.c (.raw (.int .i64 0)))⟩,
     ⟨(some 120), none, .pick (.t 108) (.t 119) (.c (.kb false))⟩]
     (.fl 0 (.fl 1 (.fl 2 (.fl 3 (.fl 4 (.fl 5 (.fl 6 (.fr 7 (.fr 8 (.fl 9 (.fl 10 (.fr 11 (.fr 12 (.st 13 [] (.fl 14 (.fl 15 .done)))))))))))))))))
   (.cond (.t 120)
    .skip
    (.exit 6)))
   (.block 7 (.reg [⟨(some 121), none, .mov (.t 12)⟩,
     ⟨(some 122), none, .bin .add .no (.t 121) (.c (.raw (.int .i64 1)))⟩,
     ⟨(some 12), none, .mov (.t 122)⟩])))))
  (.seq (.block 8 (.loop (.seq (.seq (.draw [⟨(some 123), none, .mov (.t 12)⟩,
     ⟨(some 124), none, .mov (.t 13)⟩,
     ⟨(some 125), none, .bin .leq .no (.t 123) (.t 124)⟩,
     ⟨(some 126), none, .mov (.t 125)⟩,
     ⟨(some 127), (some (126, true)), .mov (.t 4)⟩,
     ⟨(some 128), (some (126, true)), .mov (.t 0)⟩,
     ⟨(some 129), (some (126, true)), .mov (.t 13)⟩,
     ⟨(some 130), (some (126, true)), .iaddr 14 none (.t 128) (.t 129)⟩,
     ⟨(some 131), (some (126, true)), .load (some 14) (.t 130)⟩,
     ⟨(some 132), (some (126, true)), .mov (.t 0)⟩,
     ⟨(some 133), (some (126, true)), .mov (.t 1)⟩,
     ⟨(some 134), (some (126, true)), .iaddr 14 none (.t 132) (.t 133)⟩,
     ⟨(some 135), (some (126, true)), .load (some 14) (.t 134)⟩,
     ⟨(some 136), (some (126, true)), .callv (.t 127) [(.t 131), (.t 135)]⟩,
     ⟨(some 137), (some (126, true)), .bin .lss .no (.t 136) (.c (.raw (.int .i64 0)))⟩,
     ⟨(some 138), (some (126, true)), .un .not (.t 137)⟩,
     ⟨(some 139), none, .pick (.t 126) (.t 138) (.c (.kb false))⟩]
     (.fl 0 (.fl 1 (.fl 2 (.fl 3 (.fl 4 (.fl 5 (.fl 6 (.fr 7 (.fr 8 (.fl 9 (.fl 10 (.fr 11 (.fr 12 (.st 13 [] (.fl 14 (.fl 15 (.fl 16 .done))))))))))))))))))
   (.cond (.t 139)
    .skip
    (.exit 8)))
   (.block 9 (.reg [⟨(some 140), none, .mov (.t 13)⟩,
     ⟨(some 141), none, .bin .sub .no (.t 140) (.c (.raw (.int .i64 1)))⟩,
     ⟨(some 13), none, .mov (.t 141)⟩])))))
  (.seq (.seq (.reg [⟨(some 142), none, .mov (.t 12)⟩,
    ⟨(some 143), none, .mov (.t 13)⟩,
    ⟨(some 144), none, .bin .gtr .no (.t 142) (.t 143)⟩])
  (.cond (.t 144)
   (.exit 4)
   .skip))
  (.seq (.draw [⟨(some 145), none, .mov (.t 0)⟩,
    ⟨(some 146), none, .mov (.t 12)⟩,
    ⟨(some 147), none, .mov (.t 0)⟩,
    ⟨(some 148), none, .mov (.t 13)⟩,
    ⟨(some 149), none, .mov (.t 0)⟩,
    ⟨(some 150), none, .mov (.t 13)⟩,
    ⟨(some 151), none, .iaddr 14 none (.t 149) (.t 150)⟩,
    ⟨(some 152), none, .load (some 14) (.t 151)⟩,
    ⟨(some 153), none, .mov (.t 0)⟩,
    ⟨(some 154), none, .mov (.t 12)⟩,
    ⟨(some 155), none, .iaddr 14 none (.t 153) (.t 154)⟩,
    ⟨(some 156), none, .load (some 14) (.t 155)⟩,
    ⟨(some 157), none, .iaddr 14 none (.t 145) (.t 146)⟩,
    ⟨none, none, .store (some 14) (.t 157) (.t 152)⟩,
    ⟨(some 158), none, .iaddr 14 none (.t 147) (.t 148)⟩,
    ⟨none, none, .store (some 14) (.t 158) (.t 156)⟩]
    (.fl 0 (.fl 1 (.fl 2 (.fl 3 (.fl 4 (.fl 5 (.fr 6 (.fr 7 (.fl 8 (.fl 9 (.fr 10 (.fr 11 (.fr 12 (.st 13 [] (.fr 14 (.st 15 [] .done)))))))))))))))))
  (.seq (.reg [⟨(some 159), none, .mov (.t 12)⟩,
    ⟨(some 160), none, .bin .add .no (.t 159) (.c (.raw (.int .i64 1)))⟩,
    ⟨(some 12), none, .mov (.t 160)⟩])
  (.reg [⟨(some 161), none, .mov (.t 13)⟩,
    ⟨(some 162), none, .bin .sub .no (.t 161) (.c (.raw (.int .i64 1)))⟩,
    ⟨(some 13), none, .mov (.t 162)⟩])))))))))
 (.seq (.draw [⟨(some 163), none, .mov (.t 0)⟩,
   ⟨(some 164), none, .mov (.t 13)⟩,
   ⟨(some 165), none, .mov (.t 0)⟩,
   ⟨(some 166), none, .mov (.t 1)⟩,
   ⟨(some 167), none, .mov (.t 0)⟩,
   ⟨(some 168), none, .mov (.t 1)⟩,
   ⟨(some 169), none, .iaddr 14 none (.t 167) (.t 168)⟩,
   ⟨(some 170), none, .load (some 14) (.t 169)⟩,
   ⟨(some 171), none, .mov (.t 0)⟩,
   ⟨(some 172), none, .mov (.t 13)⟩,
   ⟨(some 173), none, .iaddr 14 none (.t 171) (.t 172)⟩,
   ⟨(some 174), none, .load (some 14) (.t 173)⟩,
   ⟨(some 175), none, .iaddr 14 none (.t 163) (.t 164)⟩,
   ⟨none, none, .store (some 14) (.t 175) (.t 170)⟩,
   ⟨(some 176), none, .iaddr 14 none (.t 165) (.t 166)⟩,
   ⟨none, none, .store (some 14) (.t 176) (.t 174)⟩]
   (.fl 0 (.fl 1 (.fl 2 (.fl 3 (.fl 4 (.fl 5 (.fr 6 (.fr 7 (.fl 8 (.fl 9 (.fr 10 (.fr 11 (.fr 12 (.st 13 [] (.fr 14 (.st 15 [] .done)))))))))))))))))
 (.seq (.reg [⟨(some 177), none, .mov (.t 13)⟩,
   ⟨(some 10), none, .mov (.t 177)⟩,
   ⟨(some 11), none, .mov (.c (.kb false))⟩])
 .ret))))))))))))
theorem i_slices_partitionCmpFunc_shadow_Shadow : Is Tryd.prog 68 178 [.t 10, .t 11] c_slices_partitionCmpFunc_shadow_Shadow := ⟨Tryd.f68, _, p_slices_partitionCmpFunc_shadow_Shadow, rfl, rfl, by kernel_rfl, by kernel_rfl, rfl⟩
def p_math_bits_Len32 : List (Nat × Pl) := []
def c_math_bits_Len32 : VCode :=
 (.seq (.reg [⟨(some 2), none, .mov (.c (.raw (.int .i64 0)))⟩])
 (.seq (.seq (.reg [⟨(some 3), none, .mov (.t 0)⟩,
   ⟨(some 4), none, .bin .geq .no (.t 3) (.c (.raw (.int .u32 65536)))⟩])
 (.cond (.t 4)
  (.seq (.reg [⟨(some 5), none, .mov (.t 0)⟩,
    ⟨(some 6), none, .bin .shr .no (.t 5) (.c (.raw (.int .u64 16)))⟩,
    ⟨(some 0), none, .mov (.t 6)⟩])
  (.reg [⟨(some 2), none, .mov (.c (.raw (.int .i64 16)))⟩]))
  .skip))
 (.seq (.seq (.reg [⟨(some 7), none, .mov (.t 0)⟩,
   ⟨(some 8), none, .bin .geq .no (.t 7) (.c (.raw (.int .u32 256)))⟩])
 (.cond (.t 8)
  (.seq (.reg [⟨(some 9), none, .mov (.t 0)⟩,
    ⟨(some 10), none, .bin .shr .no (.t 9) (.c (.raw (.int .u64 8)))⟩,
    ⟨(some 0), none, .mov (.t 10)⟩])
  (.reg [⟨(some 11), none, .mov (.t 2)⟩,
    ⟨(some 12), none, .bin .add .no (.t 11) (.c (.raw (.int .i64 8)))⟩,
    ⟨(some 2), none, .mov (.t 12)⟩]))
  .skip))
 (.seq (.reg [⟨(some 13), none, .mov (.t 2)⟩,
   ⟨(some 14), none, .mov (.t 0)⟩,
   ⟨(some 15), none, .conv (.int .u8) (.t 14)⟩,
   ⟨(some 16), none, .sindex (.c (.raw (.string (ByteArray.mk #[0, 1, 2, 2, 3, 3, 3, 3, 4, 4, 4, 4, 4, 4, 4, 4, 5, 5, 5, 5, 5, 5, 5, 5, 5, 5, 5, 5, 5, 5, 5, 5, 6, 6, 6, 6, 6, 6, 6, 6, 6, 6, 6, 6, 6, 6, 6, 6, 6, 6, 6, 6, 6, 6, 6, 6, 6, 6, 6, 6, 6, 6, 6, 6, 7, 7, 7, 7, 7, 7, 7, 7, 7, 7, 7, 7, 7, 7, 7, 7, 7, 7, 7, 7, 7, 7, 7, 7, 7, 7, 7, 7, 7, 7, 7, 7, 7, 7, 7, 7, 7, 7, 7, 7, 7, 7, 7, 7, 7, 7, 7, 7, 7, 7, 7, 7, 7, 7, 7, 7, 7, 7, 7, 7, 7, 7, 7, 7, 8, 8, 8, 8, 8, 8, 8, 8, 8, 8, 8, 8, 8, 8, 8, 8, 8, 8, 8, 8, 8, 8, 8, 8, 8, 8, 8, 8, 8, 8, 8, 8, 8, 8, 8, 8, 8, 8, 8, 8, 8, 8, 8, 8, 8, 8, 8, 8, 8, 8, 8, 8, 8, 8, 8, 8, 8, 8, 8, 8, 8, 8, 8, 8, 8, 8, 8, 8, 8, 8, 8, 8, 8, 8, 8, 8, 8, 8, 8, 8, 8, 8, 8, 8, 8, 8, 8, 8, 8, 8, 8, 8, 8, 8, 8, 8, 8, 8, 8, 8, 8, 8, 8, 8, 8, 8, 8, 8, 8, 8, 8, 8, 8, 8, 8, 8, 8, 8, 8, 8, 8, 8, 8, 8, 8, 8, 8, 8])))) (.t 15)⟩,
   ⟨(some 17), none, .conv (.int .i64) (.t 16)⟩,
   ⟨(some 18), none, .bin .add .no (.t 13) (.t 17)⟩,
   ⟨(some 2), none, .mov (.t 18)⟩])
 .ret))))
theorem i_math_bits_Len32 : Is Tryd.prog 69 19 [.t 2] c_math_bits_Len32 := ⟨Tryd.f69, _, p_math_bits_Len32, rfl, rfl, by kernel_rfl, by kernel_rfl, rfl⟩
def p_math_bits_Len64 : List (Nat × Pl) := []
def c_math_bits_Len64 : VCode :=
 (.seq (.reg [⟨(some 2), none, .mov (.c (.raw (.int .i64 0)))⟩])
 (.seq (.seq (.reg [⟨(some 3), none, .mov (.t 0)⟩,
   ⟨(some 4), none, .bin .geq .no (.t 3) (.c (.raw (.int .u64 4294967296)))⟩])
 (.cond (.t 4)
  (.seq (.reg [⟨(some 5), none, .mov (.t 0)⟩,
    ⟨(some 6), none, .bin .shr .no (.t 5) (.c (.raw (.int .u64 32)))⟩,
    ⟨(some 0), none, .mov (.t 6)⟩])
  (.reg [⟨(some 2), none, .mov (.c (.raw (.int .i64 32)))⟩]))
  .skip))
 (.seq (.seq (.reg [⟨(some 7), none, .mov (.t 0)⟩,
   ⟨(some 8), none, .bin .geq .no (.t 7) (.c (.raw (.int .u64 65536)))⟩])
 (.cond (.t 8)
  (.seq (.reg [⟨(some 9), none, .mov (.t 0)⟩,
    ⟨(some 10), none, .bin .shr .no (.t 9) (.c (.raw (.int .u64 16)))⟩,
    ⟨(some 0), none, .mov (.t 10)⟩])
  (.reg [⟨(some 11), none, .mov (.t 2)⟩,
    ⟨(some 12), none, .bin .add .no (.t 11) (.c (.raw (.int .i64 16)))⟩,
    ⟨(some 2), none, .mov (.t 12)⟩]))
  .skip))
 (.seq (.seq (.reg [⟨(some 13), none, .mov (.t 0)⟩,
   ⟨(some 14), none, .bin .geq .no (.t 13) (.c (.raw (.int .u64 256)))⟩])
 (.cond (.t 14)
  (.seq (.reg [⟨(some 15), none, .mov (.t 0)⟩,
    ⟨(some 16), none, .bin .shr .no (.t 15) (.c (.raw (.int .u64 8)))⟩,
    ⟨(some 0), none, .mov (.t 16)⟩])
  (.reg [⟨(some 17), none, .mov (.t 2)⟩,
    ⟨(some 18), none, .bin .add .no (.t 17) (.c (.raw (.int .i64 8)))⟩,
    ⟨(some 2), none, .mov (.t 18)⟩]))
  .skip))
 (.seq (.reg [⟨(some 19), none, .mov (.t 2)⟩,
   ⟨(some 20), none, .mov (.t 0)⟩,
   ⟨(some 21), none, .conv (.int .u8) (.t 20)⟩,
   ⟨(some 22), none, .sindex (.c (.raw (.string (ByteArray.mk #[0, 1, 2, 2, 3, 3, 3, 3, 4, 4, 4, 4, 4, 4, 4, 4, 5, 5, 5, 5, 5, 5, 5, 5, 5, 5, 5, 5, 5, 5, 5, 5, 6, 6, 6, 6, 6, 6, 6, 6, 6, 6, 6, 6, 6, 6, 6, 6, 6, 6, 6, 6, 6, 6, 6, 6, 6, 6, 6, 6, 6, 6, 6, 6, 7, 7, 7, 7, 7, 7, 7, 7, 7, 7, 7, 7, 7, 7, 7, 7, 7, 7, 7, 7, 7, 7, 7, 7, 7, 7, 7, 7, 7, 7, 7, 7, 7, 7, 7, 7, 7, 7, 7, 7, 7, 7, 7, 7, 7, 7, 7, 7, 7, 7, 7, 7, 7, 7, 7, 7, 7, 7, 7, 7, 7, 7, 7, 7, 8, 8, 8, 8, 8, 8, 8, 8, 8, 8, 8, 8, 8, 8, 8, 8, 8, 8, 8, 8, 8, 8, 8, 8, 8, 8, 8, 8, 8, 8, 8, 8, 8, 8, 8, 8, 8, 8, 8, 8, 8, 8, 8, 8, 8, 8, 8, 8, 8, 8, 8, 8, 8, 8, 8, 8, 8, 8, 8, 8, 8, 8, 8, 8, 8, 8, 8, 8, 8, 8, 8, 8, 8, 8, 8, 8, 8, 8, 8, 8, 8, 8, 8, 8, 8, 8, 8, 8, 8, 8, 8, 8, 8, 8, 8, 8, 8, 8, 8, 8, 8, 8, 8, 8, 8, 8, 8, 8, 8, 8, 8, 8, 8, 8, 8, 8, 8, 8, 8, 8, 8, 8, 8, 8, 8, 8, 8, 8])))) (.t 21)⟩,
   ⟨(some 23), none, .conv (.int .i64) (.t 22)⟩,
   ⟨(some 24), none, .bin .add .no (.t 19) (.t 23)⟩,
   ⟨(some 2), none, .mov (.t 24)⟩])
 .ret)))))
theorem i_math_bits_Len64 : Is Tryd.prog 70 25 [.t 2] c_math_bits_Len64 := ⟨Tryd.f70, _, p_math_bits_Len64, rfl, rfl, by kernel_rfl, by kernel_rfl, rfl⟩
def p_unicode_is16 : List (Nat × Pl) := [(9, (.fl 0 (.fr 1 (.fl 2 (.fr 3 (.fl 4 (.fl 5 (.fl 6 (.fl 7 (.fr 8 (.fl 9 (.fr 10 (.fl 11 (.fl 12 (.fr 13 (.fl 14 (.fr 15 (.fl 16 (.fl 17 (.fl 18 (.fl 19 .done))))))))))))))))))))), (18, (.fl 0 (.fr 1 (.fl 2 (.fr 3 (.fl 4 (.fl 5 (.fl 6 (.fl 7 (.fr 8 (.fl 9 (.fr 10 (.fl 11 (.fl 12 (.fr 13 (.fl 14 (.fr 15 (.fl 16 (.fl 17 (.fl 18 (.fl 19 .done)))))))))))))))))))))]
def c_unicode_is16 : VCode :=
 (.seq (.reg [⟨(some 4), none, .mov (.c (.kb false))⟩])
 (.seq (.seq (.reg [⟨(some 11), none, .mov (.t 0)⟩,
   ⟨(some 12), none, .len .sl (.t 11)⟩,
   ⟨(some 13), none, .bin .leq .no (.t 12) (.c (.raw (.int .i64 18)))⟩,
   ⟨(some 14), none, .mov (.t 13)⟩,
   ⟨(some 15), (some (14, false)), .mov (.t 1)⟩,
   ⟨(some 16), (some (14, false)), .bin .leq .no (.t 15) (.c (.raw (.int .u16 255)))⟩,
   ⟨(some 17), none, .pick (.t 14) (.c (.kb true)) (.t 16)⟩])
 (.cond (.t 17)
  (.seq (.seq (.reg [⟨(some 18), none, .mov (.t 0)⟩,
    ⟨(some 19), none, .len .sl (.t 18)⟩,
    ⟨(some 20), none, .mov (.c (.raw (.int .i64 0)))⟩])
  (.block 0 (.loop (.seq (.reg [⟨(some 21), none, .bin .lss .no (.t 20) (.t 19)⟩])
   (.seq (.cond (.t 21)
    .skip
    (.exit 0))
   (.seq (.block 1 (.seq (.reg [⟨(some 22), none, .mov (.t 20)⟩,
     ⟨(some 5), none, .mov (.t 22)⟩])
   (.seq (.reg [⟨(some 23), none, .mov (.t 0)⟩,
     ⟨(some 24), none, .mov (.t 5)⟩,
     ⟨(some 25), none, .iaddr 3 none (.t 23) (.t 24)⟩,
     ⟨(some 6), none, .mov (.t 25)⟩])
   (.seq (.seq (.reg [⟨(some 26), none, .mov (.t 1)⟩,
     ⟨(some 27), none, .mov (.t 6)⟩,
     ⟨(some 28), none, .nilck (.t 27)⟩,
     ⟨(some 29), none, .faddr 0 (.t 28)⟩,
     ⟨(some 30), none, .load none (.t 29)⟩,
     ⟨(some 31), none, .bin .lss .no (.t 26) (.t 30)⟩])
   (.cond (.t 31)
    (.seq (.reg [⟨(some 4), none, .mov (.c (.kb false))⟩])
    .ret)
    .skip))
   (.seq (.reg [⟨(some 32), none, .mov (.t 1)⟩,
     ⟨(some 33), none, .mov (.t 6)⟩,
     ⟨(some 34), none, .nilck (.t 33)⟩,
     ⟨(some 35), none, .faddr 1 (.t 34)⟩,
     ⟨(some 36), none, .load none (.t 35)⟩,
     ⟨(some 37), none, .bin .leq .no (.t 32) (.t 36)⟩])
   (.cond (.t 37)
    (.seq (.draw [⟨(some 38), none, .mov (.t 6)⟩,
      ⟨(some 39), none, .nilck (.t 38)⟩,
      ⟨(some 40), none, .faddr 2 (.t 39)⟩,
      ⟨(some 41), none, .load none (.t 40)⟩,
      ⟨(some 42), none, .bin .eql .no (.t 41) (.c (.raw (.int .u16 1)))⟩,
      ⟨(some 43), none, .mov (.t 42)⟩,
      ⟨(some 44), (some (43, false)), .mov (.t 1)⟩,
      ⟨(some 45), (some (43, false)), .mov (.t 6)⟩,
      ⟨(some 46), (some (43, false)), .nilck (.t 45)⟩,
      ⟨(some 47), (some (43, false)), .faddr 0 (.t 46)⟩,
      ⟨(some 48), (some (43, false)), .load none (.t 47)⟩,
      ⟨(some 49), (some (43, false)), .bin .sub .no (.t 44) (.t 48)⟩,
      ⟨(some 50), (some (43, false)), .mov (.t 6)⟩,
      ⟨(some 51), (some (43, false)), .nilck (.t 50)⟩,
      ⟨(some 52), (some (43, false)), .faddr 2 (.t 51)⟩,
      ⟨(some 53), (some (43, false)), .load none (.t 52)⟩,
      ⟨(some 54), (some (43, false)), .bin .rem .no (.t 49) (.t 53)⟩,
      ⟨(some 55), (some (43, false)), .bin .eql .no (.t 54) (.c (.raw (.int .u16 0)))⟩,
      ⟨(some 56), none, .pick (.t 43) (.c (.kb true)) (.t 55)⟩,
      ⟨(some 4), none, .mov (.t 56)⟩]
      (.fl 0 (.fr 1 (.fl 2 (.fr 3 (.fl 4 (.fl 5 (.fl 6 (.fl 7 (.fr 8 (.fl 9 (.fr 10 (.fl 11 (.fl 12 (.fr 13 (.fl 14 (.fr 15 (.fl 16 (.fl 17 (.fl 18 (.fl 19 .done)))))))))))))))))))))
    .ret)
    .skip))))))
   (.reg [⟨(some 57), none, .bin .add .no (.t 20) (.c (.raw (.int .i64 1)))⟩,
     ⟨(some 20), none, .mov (.t 57)⟩])))))))
  (.seq (.reg [⟨(some 4), none, .mov (.c (.kb false))⟩])
  .ret))
  .skip))
 (.seq (.reg [⟨(some 7), none, .mov (.c (.raw (.int .i64 0)))⟩])
 (.seq (.reg [⟨(some 58), none, .mov (.t 0)⟩,
   ⟨(some 59), none, .len .sl (.t 58)⟩,
   ⟨(some 8), none, .mov (.t 59)⟩])
 (.seq (.block 2 (.loop (.seq (.seq (.reg [⟨(some 60), none, .mov (.t 7)⟩,
    ⟨(some 61), none, .mov (.t 8)⟩,
    ⟨(some 62), none, .bin .lss .no (.t 60) (.t 61)⟩])
  (.cond (.t 62)
   .skip
   (.exit 2)))
  (.block 3 (.seq (.reg [⟨(some 63), none, .mov (.t 7)⟩,
    ⟨(some 64), none, .mov (.t 8)⟩,
    ⟨(some 65), none, .bin .add .no (.t 63) (.t 64)⟩,
    ⟨(some 66), none, .conv (.int .u64) (.t 65)⟩,
    ⟨(some 67), none, .bin .shr .no (.t 66) (.c (.raw (.int .u64 1)))⟩,
    ⟨(some 68), none, .conv (.int .i64) (.t 67)⟩,
    ⟨(some 9), none, .mov (.t 68)⟩])
  (.seq (.reg [⟨(some 69), none, .mov (.t 0)⟩,
    ⟨(some 70), none, .mov (.t 9)⟩,
    ⟨(some 71), none, .iaddr 3 none (.t 69) (.t 70)⟩,
    ⟨(some 10), none, .mov (.t 71)⟩])
  (.seq (.seq (.reg [⟨(some 72), none, .mov (.t 10)⟩,
    ⟨(some 73), none, .nilck (.t 72)⟩,
    ⟨(some 74), none, .faddr 0 (.t 73)⟩,
    ⟨(some 75), none, .load none (.t 74)⟩,
    ⟨(some 76), none, .mov (.t 1)⟩,
    ⟨(some 77), none, .bin .leq .no (.t 75) (.t 76)⟩,
    ⟨(some 78), none, .mov (.t 77)⟩,
    ⟨(some 79), (some (78, true)), .mov (.t 1)⟩,
    ⟨(some 80), (some (78, true)), .mov (.t 10)⟩,
    ⟨(some 81), (some (78, true)), .nilck (.t 80)⟩,
    ⟨(some 82), (some (78, true)), .faddr 1 (.t 81)⟩,
    ⟨(some 83), (some (78, true)), .load none (.t 82)⟩,
    ⟨(some 84), (some (78, true)), .bin .leq .no (.t 79) (.t 83)⟩,
    ⟨(some 85), none, .pick (.t 78) (.t 84) (.c (.kb false))⟩])
  (.cond (.t 85)
   (.seq (.draw [⟨(some 86), none, .mov (.t 10)⟩,
     ⟨(some 87), none, .nilck (.t 86)⟩,
     ⟨(some 88), none, .faddr 2 (.t 87)⟩,
     ⟨(some 89), none, .load none (.t 88)⟩,
     ⟨(some 90), none, .bin .eql .no (.t 89) (.c (.raw (.int .u16 1)))⟩,
     ⟨(some 91), none, .mov (.t 90)⟩,
     ⟨(some 92), (some (91, false)), .mov (.t 1)⟩,
     ⟨(some 93), (some (91, false)), .mov (.t 10)⟩,
     ⟨(some 94), (some (91, false)), .nilck (.t 93)⟩,
     ⟨(some 95), (some (91, false)), .faddr 0 (.t 94)⟩,
     ⟨(some 96), (some (91, false)), .load none (.t 95)⟩,
     ⟨(some 97), (some (91, false)), .bin .sub .no (.t 92) (.t 96)⟩,
     ⟨(some 98), (some (91, false)), .mov (.t 10)⟩,
     ⟨(some 99), (some (91, false)), .nilck (.t 98)⟩,
     ⟨(some 100), (some (91, false)), .faddr 2 (.t 99)⟩,
     ⟨(some 101), (some (91, false)), .load none (.t 100)⟩,
     ⟨(some 102), (some (91, false)), .bin .rem .no (.t 97) (.t 101)⟩,
     ⟨(some 103), (some (91, false)), .bin .eql .no (.t 102) (.c (.raw (.int .u16 0)))⟩,
     ⟨(some 104), none, .pick (.t 91) (.c (.kb true)) (.t 103)⟩,
     ⟨(some 4), none, .mov (.t 104)⟩]
     (.fl 0 (.fr 1 (.fl 2 (.fr 3 (.fl 4 (.fl 5 (.fl 6 (.fl 7 (.fr 8 (.fl 9 (.fr 10 (.fl 11 (.fl 12 (.fr 13 (.fl 14 (.fr 15 (.fl 16 (.fl 17 (.fl 18 (.fl 19 .done)))))))))))))))))))))
   .ret)
   .skip))
  (.seq (.reg [⟨(some 105), none, .mov (.t 1)⟩,
    ⟨(some 106), none, .mov (.t 10)⟩,
    ⟨(some 107), none, .nilck (.t 106)⟩,
    ⟨(some 108), none, .faddr 0 (.t 107)⟩,
    ⟨(some 109), none, .load none (.t 108)⟩,
    ⟨(some 110), none, .bin .lss .no (.t 105) (.t 109)⟩])
  (.cond (.t 110)
   (.reg [⟨(some 111), none, .mov (.t 9)⟩,
     ⟨(some 8), none, .mov (.t 111)⟩])
   (.reg [⟨(some 112), none, .mov (.t 9)⟩,
     ⟨(some 113), none, .bin .add .no (.t 112) (.c (.raw (.int .i64 1)))⟩,
     ⟨(some 7), none, .mov (.t 113)⟩]))))))))))
 (.seq (.reg [⟨(some 4), none, .mov (.c (.kb false))⟩])
 .ret))))))
theorem i_unicode_is16 : Is Tryd.prog 71 114 [.t 4] c_unicode_is16 := ⟨Tryd.f71, _, p_unicode_is16, rfl, rfl, by kernel_rfl, by kernel_rfl, rfl⟩
def p_unicode_is32 : List (Nat × Pl) := [(9, (.fl 0 (.fr 1 (.fl 2 (.fr 3 (.fl 4 (.fl 5 (.fl 6 (.fl 7 (.fr 8 (.fl 9 (.fr 10 (.fl 11 (.fl 12 (.fr 13 (.fl 14 (.fr 15 (.fl 16 (.fl 17 (.fl 18 (.fl 19 .done)))))))))))))))))))))]
def c_unicode_is32 : VCode :=
 (.seq (.reg [⟨(some 4), none, .mov (.c (.kb false))⟩])
 (.seq (.seq (.reg [⟨(some 11), none, .mov (.t 0)⟩,
   ⟨(some 12), none, .len .sl (.t 11)⟩,
   ⟨(some 13), none, .bin .leq .no (.t 12) (.c (.raw (.int .i64 18)))⟩])
 (.cond (.t 13)
  (.seq (.seq (.reg [⟨(some 14), none, .mov (.t 0)⟩,
    ⟨(some 15), none, .len .sl (.t 14)⟩,
    ⟨(some 16), none, .mov (.c (.raw (.int .i64 0)))⟩])
  (.block 0 (.loop (.seq (.reg [⟨(some 17), none, .bin .lss .no (.t 16) (.t 15)⟩])
   (.seq (.cond (.t 17)
    .skip
    (.exit 0))
   (.seq (.block 1 (.seq (.reg [⟨(some 18), none, .mov (.t 16)⟩,
     ⟨(some 5), none, .mov (.t 18)⟩])
   (.seq (.reg [⟨(some 19), none, .mov (.t 0)⟩,
     ⟨(some 20), none, .mov (.t 5)⟩,
     ⟨(some 21), none, .iaddr 3 none (.t 19) (.t 20)⟩,
     ⟨(some 6), none, .mov (.t 21)⟩])
   (.seq (.seq (.reg [⟨(some 22), none, .mov (.t 1)⟩,
     ⟨(some 23), none, .mov (.t 6)⟩,
     ⟨(some 24), none, .nilck (.t 23)⟩,
     ⟨(some 25), none, .faddr 0 (.t 24)⟩,
     ⟨(some 26), none, .load none (.t 25)⟩,
     ⟨(some 27), none, .bin .lss .no (.t 22) (.t 26)⟩])
   (.cond (.t 27)
    (.seq (.reg [⟨(some 4), none, .mov (.c (.kb false))⟩])
    .ret)
    .skip))
   (.seq (.reg [⟨(some 28), none, .mov (.t 1)⟩,
     ⟨(some 29), none, .mov (.t 6)⟩,
     ⟨(some 30), none, .nilck (.t 29)⟩,
     ⟨(some 31), none, .faddr 1 (.t 30)⟩,
     ⟨(some 32), none, .load none (.t 31)⟩,
     ⟨(some 33), none, .bin .leq .no (.t 28) (.t 32)⟩])
   (.cond (.t 33)
    (.seq (.draw [⟨(some 34), none, .mov (.t 6)⟩,
      ⟨(some 35), none, .nilck (.t 34)⟩,
      ⟨(some 36), none, .faddr 2 (.t 35)⟩,
      ⟨(some 37), none, .load none (.t 36)⟩,
      ⟨(some 38), none, .bin .eql .no (.t 37) (.c (.raw (.int .u32 1)))⟩,
      ⟨(some 39), none, .mov (.t 38)⟩,
      ⟨(some 40), (some (39, false)), .mov (.t 1)⟩,
      ⟨(some 41), (some (39, false)), .mov (.t 6)⟩,
      ⟨(some 42), (some (39, false)), .nilck (.t 41)⟩,
      ⟨(some 43), (some (39, false)), .faddr 0 (.t 42)⟩,
      ⟨(some 44), (some (39, false)), .load none (.t 43)⟩,
      ⟨(some 45), (some (39, false)), .bin .sub .no (.t 40) (.t 44)⟩,
      ⟨(some 46), (some (39, false)), .mov (.t 6)⟩,
      ⟨(some 47), (some (39, false)), .nilck (.t 46)⟩,
      ⟨(some 48), (some (39, false)), .faddr 2 (.t 47)⟩,
      ⟨(some 49), (some (39, false)), .load none (.t 48)⟩,
      ⟨(some 50), (some (39, false)), .bin .rem .no (.t 45) (.t 49)⟩,
      ⟨(some 51), (some (39, false)), .bin .eql .no (.t 50) (.c (.raw (.int .u32 0)))⟩,
      ⟨(some 52), none, .pick (.t 39) (.c (.kb true)) (.t 51)⟩,
      ⟨(some 4), none, .mov (.t 52)⟩]
      (.fl 0 (.fr 1 (.fl 2 (.fr 3 (.fl 4 (.fl 5 (.fl 6 (.fl 7 (.fr 8 (.fl 9 (.fr 10 (.fl 11 (.fl 12 (.fr 13 (.fl 14 (.fr 15 (.fl 16 (.fl 17 (.fl 18 (.fl 19 .done)))))))))))))))))))))
    .ret)
    .skip))))))
   (.reg [⟨(some 53), none, .bin .add .no (.t 16) (.c (.raw (.int .i64 1)))⟩,
     ⟨(some 16), none, .mov (.t 53)⟩])))))))
  (.seq (.reg [⟨(some 4), none, .mov (.c (.kb false))⟩])
  .ret))
  .skip))
 (.seq (.reg [⟨(some 7), none, .mov (.c (.raw (.int .i64 0)))⟩])
 (.seq (.reg [⟨(some 54), none, .mov (.t 0)⟩,
   ⟨(some 55), none, .len .sl (.t 54)⟩,
   ⟨(some 8), none, .mov (.t 55)⟩])
 (.seq (.block 2 (.loop (.seq (.seq (.reg [⟨(some 56), none, .mov (.t 7)⟩,
    ⟨(some 57), none, .mov (.t 8)⟩,
    ⟨(some 58), none, .bin .lss .no (.t 56) (.t 57)⟩])
  (.cond (.t 58)
   .skip
   (.exit 2)))
  (.block 3 (.seq (.reg [⟨(some 59), none, .mov (.t 7)⟩,
    ⟨(some 60), none, .mov (.t 8)⟩,
    ⟨(some 61), none, .bin .add .no (.t 59) (.t 60)⟩,
    ⟨(some 62), none, .conv (.int .u64) (.t 61)⟩,
    ⟨(some 63), none, .bin .shr .no (.t 62) (.c (.raw (.int .u64 1)))⟩,
    ⟨(some 64), none, .conv (.int .i64) (.t 63)⟩,
    ⟨(some 9), none, .mov (.t 64)⟩])
  (.seq (.reg [⟨(some 65), none, .mov (.t 0)⟩,
    ⟨(some 66), none, .mov (.t 9)⟩,
    ⟨(some 67), none, .iaddr 3 none (.t 65) (.t 66)⟩,
    ⟨(some 68), none, .load (some 3) (.t 67)⟩,
    ⟨(some 10), none, .new 125 [(.int .u32 0), (.int .u32 0), (.int .u32 0)]⟩,
    ⟨none, none, .store (some 3) (.t 10) (.t 68)⟩])
  (.seq (.seq (.reg [⟨(some 69), none, .faddr 0 (.t 10)⟩,
    ⟨(some 70), none, .load none (.t 69)⟩,
    ⟨(some 71), none, .mov (.t 1)⟩,
    ⟨(some 72), none, .bin .leq .no (.t 70) (.t 71)⟩,
    ⟨(some 73), none, .mov (.t 72)⟩,
    ⟨(some 74), (some (73, true)), .mov (.t 1)⟩,
    ⟨(some 75), (some (73, true)), .faddr 1 (.t 10)⟩,
    ⟨(some 76), (some (73, true)), .load none (.t 75)⟩,
    ⟨(some 77), (some (73, true)), .bin .leq .no (.t 74) (.t 76)⟩,
    ⟨(some 78), none, .pick (.t 73) (.t 77) (.c (.kb false))⟩])
  (.cond (.t 78)
   (.seq (.reg [⟨(some 79), none, .faddr 2 (.t 10)⟩,
     ⟨(some 80), none, .load none (.t 79)⟩,
     ⟨(some 81), none, .bin .eql .no (.t 80) (.c (.raw (.int .u32 1)))⟩,
     ⟨(some 82), none, .mov (.t 81)⟩,
     ⟨(some 83), (some (82, false)), .mov (.t 1)⟩,
     ⟨(some 84), (some (82, false)), .faddr 0 (.t 10)⟩,
     ⟨(some 85), (some (82, false)), .load none (.t 84)⟩,
     ⟨(some 86), (some (82, false)), .bin .sub .no (.t 83) (.t 85)⟩,
     ⟨(some 87), (some (82, false)), .faddr 2 (.t 10)⟩,
     ⟨(some 88), (some (82, false)), .load none (.t 87)⟩,
     ⟨(some 89), (some (82, false)), .bin .rem .no (.t 86) (.t 88)⟩,
     ⟨(some 90), (some (82, false)), .bin .eql .no (.t 89) (.c (.raw (.int .u32 0)))⟩,
     ⟨(some 91), none, .pick (.t 82) (.c (.kb true)) (.t 90)⟩,
     ⟨(some 4), none, .mov (.t 91)⟩])
   .ret)
   .skip))
  (.seq (.reg [⟨(some 92), none, .mov (.t 1)⟩,
    ⟨(some 93), none, .faddr 0 (.t 10)⟩,
    ⟨(some 94), none, .load none (.t 93)⟩,
    ⟨(some 95), none, .bin .lss .no (.t 92) (.t 94)⟩])
  (.cond (.t 95)
   (.reg [⟨(some 96), none, .mov (.t 9)⟩,
     ⟨(some 8), none, .mov (.t 96)⟩])
   (.reg [⟨(some 97), none, .mov (.t 9)⟩,
     ⟨(some 98), none, .bin .add .no (.t 97) (.c (.raw (.int .i64 1)))⟩,
     ⟨(some 7), none, .mov (.t 98)⟩]))))))))))
 (.seq (.reg [⟨(some 4), none, .mov (.c (.kb false))⟩])
 .ret))))))
theorem i_unicode_is32 : Is Tryd.prog 72 99 [.t 4] c_unicode_is32 := ⟨Tryd.f72, _, p_unicode_is32, rfl, rfl, by kernel_rfl, by kernel_rfl, rfl⟩
def p_slices_siftDownCmpFunc_shadow_Shadow : List (Nat × Pl) := [(3, (.fl 0 (.fl 1 (.fl 2 (.fl 3 (.fl 4 (.fl 5 (.fl 6 (.fl 7 (.fl 8 (.fl 9 (.fr 10 (.fr 11 (.fl 12 (.fl 13 (.fl 14 (.fl 15 (.fl 16 (.fr 17 (.fr 18 (.st 19 [] (.fl 20 (.fl 21 .done))))))))))))))))))))))), (5, (.fl 0 (.fl 1 (.fl 2 (.fl 3 (.fl 4 (.fr 5 (.fr 6 (.fl 7 (.fl 8 (.fl 9 (.fl 10 (.fr 11 (.fr 12 (.st 13 [] (.fl 14 (.fl 15 .done))))))))))))))))), (6, (.fl 0 (.fl 1 (.fl 2 (.fl 3 (.fl 4 (.fl 5 (.fl 6 (.fl 7 (.fl 8 (.fl 9 (.fl 10 (.fl 11 (.fr 12 (.fr 13 (.fl 14 (.fl 15 (.fl 16 (.fl 17 (.fr 18 (.fr 19 (.fr 20 (.st 21 [] (.fr 22 (.st 23 [] .done)))))))))))))))))))))))))]
def c_slices_siftDownCmpFunc_shadow_Shadow : VCode :=
 (.seq (.reg [⟨(some 12), none, .mov (.t 1)⟩,
   ⟨(some 10), none, .mov (.t 12)⟩])
 (.block 0 (.loop (.block 1 (.seq (.reg [⟨(some 13), none, .mov (.t 10)⟩,
    ⟨(some 14), none, .bin .mul .no (.c (.raw (.int .i64 2))) (.t 13)⟩,
    ⟨(some 15), none, .bin .add .no (.t 14) (.c (.raw (.int .i64 1)))⟩,
    ⟨(some 11), none, .mov (.t 15)⟩])
  (.seq (.seq (.reg [⟨(some 16), none, .mov (.t 11)⟩,
    ⟨(some 17), none, .mov (.t 2)⟩,
    ⟨(some 18), none, .bin .geq .no (.t 16) (.t 17)⟩])
  (.cond (.t 18)
   (.exit 0)
   .skip))
  (.seq (.seq (.draw [⟨(some 19), none, .mov (.t 11)⟩,
    ⟨(some 20), none, .bin .add .no (.t 19) (.c (.raw (.int .i64 1)))⟩,
    ⟨(some 21), none, .mov (.t 2)⟩,
    ⟨(some 22), none, .bin .lss .no (.t 20) (.t 21)⟩,
    ⟨(some 23), none, .mov (.t 22)⟩,
    ⟨(some 24), (some (23, true)), .mov (.t 4)⟩,
    ⟨(some 25), (some (23, true)), .mov (.t 0)⟩,
    ⟨(some 26), (some (23, true)), .mov (.t 3)⟩,
    ⟨(some 27), (some (23, true)), .mov (.t 11)⟩,
    ⟨(some 28), (some (23, true)), .bin .add .no (.t 26) (.t 27)⟩,
    ⟨(some 29), (some (23, true)), .iaddr 14 none (.t 25) (.t 28)⟩,
    ⟨(some 30), (some (23, true)), .load (some 14) (.t 29)⟩,
    ⟨(some 31), (some (23, true)), .mov (.t 0)⟩,
    ⟨(some 32), (some (23, true)), .mov (.t 3)⟩,
    ⟨(some 33), (some (23, true)), .mov (.t 11)⟩,
    ⟨(some 34), (some (23, true)), .bin .add .no (.t 32) (.t 33)⟩,
    ⟨(some 35), (some (23, true)), .bin .add .no (.t 34) (.c (.raw (.int .i64 1)))⟩,
    ⟨(some 36), (some (23, true)), .iaddr 14 none (.t 31) (.t 35)⟩,
    ⟨(some 37), (some (23, true)), .load (some 14) (.t 36)⟩,
    ⟨(some 38), (some (23, true)), .callv (.t 24) [(.t 30), (.t 37)]⟩,
    ⟨(some 39), (some (23, true)), .bin .lss .no (.t 38) (.c (.raw (.int .i64 0)))⟩,
    ⟨(some 40), none, .pick (.t 23) (.t 39) (.c (.kb false))⟩]
    (.fl 0 (.fl 1 (.fl 2 (.fl 3 (.fl 4 (.fl 5 (.fl 6 (.fl 7 (.fl 8 (.fl 9 (.fr 10 (.fr 11 (.fl 12 (.fl 13 (.fl 14 (.fl 15 (.fl 16 (.fr 17 (.fr 18 (.st 19 [] (.fl 20 (.fl 21 .done)))))))))))))))))))))))
  (.cond (.t 40)
   (.reg [⟨(some 41), none, .mov (.t 11)⟩,
     ⟨(some 42), none, .bin .add .no (.t 41) (.c (.raw (.int .i64 1)))⟩,
     ⟨(some 11), none, .mov (.t 42)⟩])
   .skip))
  (.seq (.seq (.draw [⟨(some 43), none, .mov (.t 4)⟩,
    ⟨(some 44), none, .mov (.t 0)⟩,
    ⟨(some 45), none, .mov (.t 3)⟩,
    ⟨(some 46), none, .mov (.t 10)⟩,
    ⟨(some 47), none, .bin .add .no (.t 45) (.t 46)⟩,
    ⟨(some 48), none, .iaddr 14 none (.t 44) (.t 47)⟩,
    ⟨(some 49), none, .load (some 14) (.t 48)⟩,
    ⟨(some 50), none, .mov (.t 0)⟩,
    ⟨(some 51), none, .mov (.t 3)⟩,
    ⟨(some 52), none, .mov (.t 11)⟩,
    ⟨(some 53), none, .bin .add .no (.t 51) (.t 52)⟩,
    ⟨(some 54), none, .iaddr 14 none (.t 50) (.t 53)⟩,
    ⟨(some 55), none, .load (some 14) (.t 54)⟩,
    ⟨(some 56), none, .callv (.t 43) [(.t 49), (.t 55)]⟩,
    ⟨(some 57), none, .bin .lss .no (.t 56) (.c (.raw (.int .i64 0)))⟩,
    ⟨(some 58), none, .un .not (.t 57)⟩]
    (.fl 0 (.fl 1 (.fl 2 (.fl 3 (.fl 4 (.fr 5 (.fr 6 (.fl 7 (.fl 8 (.fl 9 (.fl 10 (.fr 11 (.fr 12 (.st 13 [] (.fl 14 (.fl 15 .done)))))))))))))))))
  (.cond (.t 58)
   .ret
   .skip))
  (.seq (.draw [⟨(some 59), none, .mov (.t 0)⟩,
    ⟨(some 60), none, .mov (.t 3)⟩,
    ⟨(some 61), none, .mov (.t 10)⟩,
    ⟨(some 62), none, .bin .add .no (.t 60) (.t 61)⟩,
    ⟨(some 63), none, .mov (.t 0)⟩,
    ⟨(some 64), none, .mov (.t 3)⟩,
    ⟨(some 65), none, .mov (.t 11)⟩,
    ⟨(some 66), none, .bin .add .no (.t 64) (.t 65)⟩,
    ⟨(some 67), none, .mov (.t 0)⟩,
    ⟨(some 68), none, .mov (.t 3)⟩,
    ⟨(some 69), none, .mov (.t 11)⟩,
    ⟨(some 70), none, .bin .add .no (.t 68) (.t 69)⟩,
    ⟨(some 71), none, .iaddr 14 none (.t 67) (.t 70)⟩,
    ⟨(some 72), none, .load (some 14) (.t 71)⟩,
    ⟨(some 73), none, .mov (.t 0)⟩,
    ⟨(some 74), none, .mov (.t 3)⟩,
    ⟨(some 75), none, .mov (.t 10)⟩,
    ⟨(some 76), none, .bin .add .no (.t 74) (.t 75)⟩,
    ⟨(some 77), none, .iaddr 14 none (.t 73) (.t 76)⟩,
    ⟨(some 78), none, .load (some 14) (.t 77)⟩,
    ⟨(some 79), none, .iaddr 14 none (.t 59) (.t 62)⟩,
    ⟨none, none, .store (some 14) (.t 79) (.t 72)⟩,
    ⟨(some 80), none, .iaddr 14 none (.t 63) (.t 66)⟩,
    ⟨none, none, .store (some 14) (.t 80) (.t 78)⟩]
    (.fl 0 (.fl 1 (.fl 2 (.fl 3 (.fl 4 (.fl 5 (.fl 6 (.fl 7 (.fl 8 (.fl 9 (.fl 10 (.fl 11 (.fr 12 (.fr 13 (.fl 14 (.fl 15 (.fl 16 (.fl 17 (.fr 18 (.fr 19 (.fr 20 (.st 21 [] (.fr 22 (.st 23 [] .done)))))))))))))))))))))))))
  (.reg [⟨(some 81), none, .mov (.t 11)⟩,
    ⟨(some 10), none, .mov (.t 81)⟩]))))))))))
theorem i_slices_siftDownCmpFunc_shadow_Shadow : Is Tryd.prog 73 82 [] c_slices_siftDownCmpFunc_shadow_Shadow := ⟨Tryd.f73, _, p_slices_siftDownCmpFunc_shadow_Shadow, rfl, rfl, by kernel_rfl, by kernel_rfl, rfl⟩
def p_slices_nextPowerOfTwo : List (Nat × Pl) := []
def c_slices_nextPowerOfTwo : VCode :=
 (.seq (.reg [⟨(some 2), none, .mov (.c (.raw (.int .u64 0)))⟩])
 (.seq (.reg [⟨(some 3), none, .mov (.t 0)⟩,
   ⟨(some 4), none, .conv (.int .u64) (.t 3)⟩,
   ⟨(some 5), none, .call 57 [(.t 4)]⟩,
   ⟨(some 6), none, .bin .shl .no (.c (.raw (.int .u64 1))) (.t 5)⟩,
   ⟨(some 2), none, .mov (.t 6)⟩])
 .ret))
theorem i_slices_nextPowerOfTwo : Is Tryd.prog 74 7 [.t 2] c_slices_nextPowerOfTwo := ⟨Tryd.f74, _, p_slices_nextPowerOfTwo, rfl, rfl, by kernel_rfl, by kernel_rfl, rfl⟩
def p_slices_xorshift_Next : List (Nat × Pl) := [(1, (.fl 0 (.fr 1 (.fr 2 (.fl 3 (.fr 4 (.fr 5 (.fl 6 (.fl 7 (.fr 8 (.st 9 [] .done))))))))))), (2, (.fl 0 (.fr 1 (.fr 2 (.fl 3 (.fr 4 (.fr 5 (.fl 6 (.fl 7 (.fr 8 (.st 9 [] .done))))))))))), (3, (.fl 0 (.fr 1 (.fr 2 (.fl 3 (.fr 4 (.fr 5 (.fl 6 (.fl 7 (.fr 8 (.st 9 [] .done)))))))))))]
def c_slices_xorshift_Next : VCode :=
 (.seq (.reg [⟨(some 2), none, .mov (.c (.raw (.int .u64 0)))⟩])
 (.seq (.draw [⟨(some 3), none, .mov (.t 0)⟩,
   ⟨(some 4), none, .nilck (.t 3)⟩,
   ⟨(some 5), none, .load none (.t 4)⟩,
   ⟨(some 6), none, .mov (.t 0)⟩,
   ⟨(some 7), none, .nilck (.t 6)⟩,
   ⟨(some 8), none, .load none (.t 7)⟩,
   ⟨(some 9), none, .bin .shl .no (.t 8) (.c (.raw (.int .u64 13)))⟩,
   ⟨(some 10), none, .bin .xor .no (.t 5) (.t 9)⟩,
   ⟨(some 11), none, .nilck (.t 3)⟩,
   ⟨none, none, .store none (.t 11) (.t 10)⟩]
   (.fl 0 (.fr 1 (.fr 2 (.fl 3 (.fr 4 (.fr 5 (.fl 6 (.fl 7 (.fr 8 (.st 9 [] .done)))))))))))
 (.seq (.draw [⟨(some 12), none, .mov (.t 0)⟩,
   ⟨(some 13), none, .nilck (.t 12)⟩,
   ⟨(some 14), none, .load none (.t 13)⟩,
   ⟨(some 15), none, .mov (.t 0)⟩,
   ⟨(some 16), none, .nilck (.t 15)⟩,
   ⟨(some 17), none, .load none (.t 16)⟩,
   ⟨(some 18), none, .bin .shr .no (.t 17) (.c (.raw (.int .u64 7)))⟩,
   ⟨(some 19), none, .bin .xor .no (.t 14) (.t 18)⟩,
   ⟨(some 20), none, .nilck (.t 12)⟩,
   ⟨none, none, .store none (.t 20) (.t 19)⟩]
   (.fl 0 (.fr 1 (.fr 2 (.fl 3 (.fr 4 (.fr 5 (.fl 6 (.fl 7 (.fr 8 (.st 9 [] .done)))))))))))
 (.seq (.draw [⟨(some 21), none, .mov (.t 0)⟩,
   ⟨(some 22), none, .nilck (.t 21)⟩,
   ⟨(some 23), none, .load none (.t 22)⟩,
   ⟨(some 24), none, .mov (.t 0)⟩,
   ⟨(some 25), none, .nilck (.t 24)⟩,
   ⟨(some 26), none, .load none (.t 25)⟩,
   ⟨(some 27), none, .bin .shl .no (.t 26) (.c (.raw (.int .u64 17)))⟩,
   ⟨(some 28), none, .bin .xor .no (.t 23) (.t 27)⟩,
   ⟨(some 29), none, .nilck (.t 21)⟩,
   ⟨none, none, .store none (.t 29) (.t 28)⟩]
   (.fl 0 (.fr 1 (.fr 2 (.fl 3 (.fr 4 (.fr 5 (.fl 6 (.fl 7 (.fr 8 (.st 9 [] .done)))))))))))
 (.seq (.reg [⟨(some 30), none, .mov (.t 0)⟩,
   ⟨(some 31), none, .nilck (.t 30)⟩,
   ⟨(some 32), none, .load none (.t 31)⟩,
   ⟨(some 2), none, .mov (.t 32)⟩])
 .ret)))))
theorem i_slices_xorshift_Next : Is Tryd.prog 75 33 [.t 2] c_slices_xorshift_Next := ⟨Tryd.f75, _, p_slices_xorshift_Next, rfl, rfl, by kernel_rfl, by kernel_rfl, rfl⟩
def p_slices_medianAdjacentCmpFunc_shadow_Shadow : List (Nat × Pl) := []
def c_slices_medianAdjacentCmpFunc_shadow_Shadow : VCode :=
 (.seq (.reg [⟨(some 8), none, .mov (.c (.raw (.int .i64 0)))⟩])
 (.seq (.reg [⟨(some 9), none, .mov (.t 0)⟩,
   ⟨(some 10), none, .mov (.t 1)⟩,
   ⟨(some 11), none, .bin .sub .no (.t 10) (.c (.raw (.int .i64 1)))⟩,
   ⟨(some 12), none, .mov (.t 1)⟩,
   ⟨(some 13), none, .mov (.t 1)⟩,
   ⟨(some 14), none, .bin .add .no (.t 13) (.c (.raw (.int .i64 1)))⟩,
   ⟨(some 15), none, .mov (.t 2)⟩,
   ⟨(some 16), none, .mov (.t 3)⟩,
   ⟨(some 17), none, .call 77 [(.t 9), (.t 11), (.t 12), (.t 14), (.t 15), (.t 16)]⟩,
   ⟨(some 8), none, .mov (.t 17)⟩])
 .ret))
theorem i_slices_medianAdjacentCmpFunc_shadow_Shadow : Is Tryd.prog 76 18 [.t 8] c_slices_medianAdjacentCmpFunc_shadow_Shadow := ⟨Tryd.f76, _, p_slices_medianAdjacentCmpFunc_shadow_Shadow, rfl, rfl, by kernel_rfl, by kernel_rfl, rfl⟩
def p_slices_medianCmpFunc_shadow_Shadow : List (Nat × Pl) := []
def c_slices_medianCmpFunc_shadow_Shadow : VCode :=
 (.seq (.reg [⟨(some 12), none, .mov (.c (.raw (.int .i64 0)))⟩])
 (.seq (.reg [⟨(some 14), none, .mov (.t 0)⟩,
   ⟨(some 15), none, .mov (.t 1)⟩,
   ⟨(some 16), none, .mov (.t 2)⟩,
   ⟨(some 17), none, .mov (.t 4)⟩,
   ⟨(some 18), none, .mov (.t 5)⟩,
   ⟨(some 19), none, .call 78 [(.t 14), (.t 15), (.t 16), (.t 17), (.t 18)]⟩,
   ⟨(some 13), none, .mov (.t 19)⟩,
   ⟨(some 20), none, .extr (.t 13) 0⟩,
   ⟨(some 21), none, .extr (.t 13) 1⟩,
   ⟨(some 1), none, .mov (.t 20)⟩,
   ⟨(some 2), none, .mov (.t 21)⟩])
 (.seq (.reg [⟨(some 23), none, .mov (.t 0)⟩,
   ⟨(some 24), none, .mov (.t 2)⟩,
   ⟨(some 25), none, .mov (.t 3)⟩,
   ⟨(some 26), none, .mov (.t 4)⟩,
   ⟨(some 27), none, .mov (.t 5)⟩,
   ⟨(some 28), none, .call 78 [(.t 23), (.t 24), (.t 25), (.t 26), (.t 27)]⟩,
   ⟨(some 22), none, .mov (.t 28)⟩,
   ⟨(some 29), none, .extr (.t 22) 0⟩,
   ⟨(some 30), none, .extr (.t 22) 1⟩,
   ⟨(some 2), none, .mov (.t 29)⟩,
   ⟨(some 3), none, .mov (.t 30)⟩])
 (.seq (.reg [⟨(some 32), none, .mov (.t 0)⟩,
   ⟨(some 33), none, .mov (.t 1)⟩,
   ⟨(some 34), none, .mov (.t 2)⟩,
   ⟨(some 35), none, .mov (.t 4)⟩,
   ⟨(some 36), none, .mov (.t 5)⟩,
   ⟨(some 37), none, .call 78 [(.t 32), (.t 33), (.t 34), (.t 35), (.t 36)]⟩,
   ⟨(some 31), none, .mov (.t 37)⟩,
   ⟨(some 38), none, .extr (.t 31) 0⟩,
   ⟨(some 39), none, .extr (.t 31) 1⟩,
   ⟨(some 1), none, .mov (.t 38)⟩,
   ⟨(some 2), none, .mov (.t 39)⟩])
 (.seq (.reg [⟨(some 40), none, .mov (.t 2)⟩,
   ⟨(some 12), none, .mov (.t 40)⟩])
 .ret)))))
theorem i_slices_medianCmpFunc_shadow_Shadow : Is Tryd.prog 77 41 [.t 12] c_slices_medianCmpFunc_shadow_Shadow := ⟨Tryd.f77, _, p_slices_medianCmpFunc_shadow_Shadow, rfl, rfl, by kernel_rfl, by kernel_rfl, rfl⟩
def p_slices_order2CmpFunc_shadow_Shadow : List (Nat × Pl) := [(1, (.fl 0 (.fl 1 (.fl 2 (.fr 3 (.fr 4 (.fl 5 (.fl 6 (.fr 7 (.fr 8 (.st 9 [] (.fl 10 .done))))))))))))]
def c_slices_order2CmpFunc_shadow_Shadow : VCode :=
 (.seq (.reg [⟨(some 10), none, .mov (.c (.raw (.int .i64 0)))⟩,
   ⟨(some 11), none, .mov (.c (.raw (.int .i64 0)))⟩])
 (.seq (.seq (.draw [⟨(some 12), none, .mov (.t 4)⟩,
   ⟨(some 13), none, .mov (.t 0)⟩,
   ⟨(some 14), none, .mov (.t 2)⟩,
   ⟨(some 15), none, .iaddr 14 none (.t 13) (.t 14)⟩,
   ⟨(some 16), none, .load (some 14) (.t 15)⟩,
   ⟨(some 17), none, .mov (.t 0)⟩,
   ⟨(some 18), none, .mov (.t 1)⟩,
   ⟨(some 19), none, .iaddr 14 none (.t 17) (.t 18)⟩,
   ⟨(some 20), none, .load (some 14) (.t 19)⟩,
   ⟨(some 21), none, .callv (.t 12) [(.t 16), (.t 20)]⟩,
   ⟨(some 22), none, .bin .lss .no (.t 21) (.c (.raw (.int .i64 0)))⟩]
   (.fl 0 (.fl 1 (.fl 2 (.fr 3 (.fr 4 (.fl 5 (.fl 6 (.fr 7 (.fr 8 (.st 9 [] (.fl 10 .done))))))))))))
 (.cond (.t 22)
  (.seq (.reg [⟨(some 23), none, .mov (.t 3)⟩,
    ⟨(some 24), none, .nilck (.t 23)⟩,
    ⟨(some 25), none, .load none (.t 24)⟩,
    ⟨(some 26), none, .bin .add .no (.t 25) (.c (.raw (.int .i64 1)))⟩,
    ⟨(some 27), none, .nilck (.t 23)⟩,
    ⟨none, none, .store none (.t 27) (.t 26)⟩])
  (.seq (.reg [⟨(some 28), none, .mov (.t 2)⟩,
    ⟨(some 29), none, .mov (.t 1)⟩,
    ⟨(some 10), none, .mov (.t 28)⟩,
    ⟨(some 11), none, .mov (.t 29)⟩])
  .ret))
  .skip))
 (.seq (.reg [⟨(some 30), none, .mov (.t 1)⟩,
   ⟨(some 31), none, .mov (.t 2)⟩,
   ⟨(some 10), none, .mov (.t 30)⟩,
   ⟨(some 11), none, .mov (.t 31)⟩])
 .ret)))
theorem i_slices_order2CmpFunc_shadow_Shadow : Is Tryd.prog 78 32 [.t 10, .t 11] c_slices_order2CmpFunc_shadow_Shadow := ⟨Tryd.f78, _, p_slices_order2CmpFunc_shadow_Shadow, rfl, rfl, by kernel_rfl, by kernel_rfl, rfl⟩

theorem follows : Tryd.prog.follows .mixedOrders = true := by kernel_rfl
end Go.Proofs

