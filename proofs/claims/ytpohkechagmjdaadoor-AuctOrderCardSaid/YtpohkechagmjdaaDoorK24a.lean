/- The seat's functions and types by name, and its functions' code as the framework reads it: printed by a program of the prover's own. -/
import Derived.Test.YtpohkechagmjdaaDoorVC
import Derived.Test.YtpohkechagmjdaaDoorProg
namespace Go.Proofs
open Go Go.V
set_option maxRecDepth 1000000
abbrev F_main_main : FuncId := 0
abbrev F_gosem_cut : FuncId := 1
abbrev F_gosem_cut_init : FuncId := 2
abbrev F_rostrumlaw24_AuctBest : FuncId := 3
abbrev F_rostrumlaw24_AuctVoid : FuncId := 4
abbrev F_rostrumlaw24_AuctKnown : FuncId := 5
abbrev F_rostrumlaw24_AuctOrder : FuncId := 6
abbrev F_rostrumlaw24_AuctUsers : FuncId := 7
abbrev F_rostrumlaw24_AuctMoney : FuncId := 8
abbrev F_rostrumlaw24_awake : FuncId := 9
abbrev F_auct_New : FuncId := 10
abbrev F_auct_House_Blue : FuncId := 11
abbrev F_auct_House_Best : FuncId := 12
abbrev F_auct_House_Bids : FuncId := 13
abbrev F_auct_House_Do : FuncId := 14
abbrev F_auct_House_Winner : FuncId := 15
abbrev F_rostrumlaw24_some : FuncId := 16
abbrev F_auct_House_Balance : FuncId := 17
abbrev F_auct_Red : FuncId := 18
abbrev F_auct_Good : FuncId := 19
abbrev F_rostrumlaw24_long : FuncId := 20
abbrev F_rostrumlaw24_settle : FuncId := 21
abbrev F_auct_Same : FuncId := 22
abbrev F_auct_House_Reds : FuncId := 23
abbrev F_auct_House_Have : FuncId := 24
abbrev F_rostrumref1_GoodName : FuncId := 25
abbrev F_rostrumref1_Fold : FuncId := 26
abbrev F_auct_House_Users : FuncId := 27
abbrev F_auct_House_Deposited : FuncId := 28
abbrev F_auct_House_Auctions : FuncId := 29
abbrev F_auct_House_Open : FuncId := 30
abbrev F_vec_Has : FuncId := 31
abbrev F_vec_Le : FuncId := 32
abbrev F_auct_House_best : FuncId := 33
abbrev F_auct_House_bids : FuncId := 34
abbrev F_name_Fold : FuncId := 35
abbrev F_auct_House_ends : FuncId := 36
abbrev F_vec_Dot : FuncId := 37
abbrev F_vec_Good : FuncId := 38
abbrev F_auct_needs : FuncId := 39
abbrev F_auct_word : FuncId := 40
abbrev F_auct_point : FuncId := 41
abbrev F_auct_number : FuncId := 42
abbrev F_bytes_Equal : FuncId := 43
abbrev F_auct_House_Bytes : FuncId := 44
abbrev F_rostrumref1_Runes : FuncId := 45
abbrev F_unicode_IsLetter : FuncId := 46
abbrev F_rostrumref1_bad : FuncId := 47
abbrev F_unicode_IsDigit : FuncId := 48
abbrev F_unicode_ToLower : FuncId := 49
abbrev F_slices_Sort_sl_string_string : FuncId := 50
abbrev F_slices_SortFunc_sl_api_Dot_api_Dot : FuncId := 51
abbrev F_dots_Order : FuncId := 52
abbrev F_vec_Rep : FuncId := 53
abbrev F_slices_MaxFunc_sl_api_Dot_api_Dot : FuncId := 54
abbrev F_auct_House_best_1 : FuncId := 55
abbrev F_cmp_Or_int : FuncId := 56
abbrev F_cmp_Compare_int64 : FuncId := 57
abbrev F_slices_DeleteFunc_sl_api_Dot_api_Dot : FuncId := 58
abbrev F_auct_House_bids_1 : FuncId := 59
abbrev F_strings_Builder_WriteRune : FuncId := 60
abbrev F_strings_Builder_String : FuncId := 61
abbrev F_auct_House_ends_1 : FuncId := 62
abbrev F_name_Good : FuncId := 63
abbrev F_pack_Num : FuncId := 64
abbrev F_auct_put : FuncId := 65
abbrev F_unicode_isExcludingLatin : FuncId := 66
abbrev F_unicode_To : FuncId := 67
abbrev F_slices_pdqsortOrdered_string : FuncId := 68
abbrev F_math_bits_Len : FuncId := 69
abbrev F_slices_pdqsortCmpFunc_api_Dot : FuncId := 70
abbrev F_cmp_Compare_int : FuncId := 71
abbrev F_cmp_isNaN_int64 : FuncId := 72
abbrev F_slices_IndexFunc_sl_api_Dot_api_Dot : FuncId := 73
abbrev F_strings_Builder_copyCheck : FuncId := 74
abbrev F_unicode_utf8_AppendRune : FuncId := 75
abbrev F_name_other : FuncId := 76
abbrev F_bytes_Clone : FuncId := 77
abbrev F_vec_Put : FuncId := 78
abbrev F_pack_Text : FuncId := 79
abbrev F_unicode_is16 : FuncId := 80
abbrev F_unicode_is32 : FuncId := 81
abbrev F_unicode_to : FuncId := 82
abbrev F_slices_insertionSortOrdered_string : FuncId := 83
abbrev F_slices_heapSortOrdered_string : FuncId := 84
abbrev F_slices_breakPatternsOrdered_string : FuncId := 85
abbrev F_slices_choosePivotOrdered_string : FuncId := 86
abbrev F_slices_reverseRangeOrdered_string : FuncId := 87
abbrev F_slices_partialInsertionSortOrdered_string : FuncId := 88
abbrev F_cmp_Less_string : FuncId := 89
abbrev F_slices_partitionEqualOrdered_string : FuncId := 90
abbrev F_slices_partitionOrdered_string : FuncId := 91
abbrev F_math_bits_Len32 : FuncId := 92
abbrev F_math_bits_Len64 : FuncId := 93
abbrev F_slices_insertionSortCmpFunc_api_Dot : FuncId := 94
abbrev F_slices_heapSortCmpFunc_api_Dot : FuncId := 95
abbrev F_slices_breakPatternsCmpFunc_api_Dot : FuncId := 96
abbrev F_slices_choosePivotCmpFunc_api_Dot : FuncId := 97
abbrev F_slices_reverseRangeCmpFunc_api_Dot : FuncId := 98
abbrev F_slices_partialInsertionSortCmpFunc_api_Dot : FuncId := 99
abbrev F_slices_partitionEqualCmpFunc_api_Dot : FuncId := 100
abbrev F_slices_partitionCmpFunc_api_Dot : FuncId := 101
abbrev F_cmp_isNaN_int : FuncId := 102
abbrev F_internal_abi_NoEscape : FuncId := 103
abbrev F_unicode_utf8_appendRuneNonASCII : FuncId := 104
abbrev F_pack_Bytes : FuncId := 105
abbrev F_unicode_lookupCaseRange : FuncId := 106
abbrev F_unicode_convertCase : FuncId := 107
abbrev F_slices_siftDownOrdered_string : FuncId := 108
abbrev F_slices_nextPowerOfTwo : FuncId := 109
abbrev F_slices_xorshift_Next : FuncId := 110
abbrev F_slices_medianAdjacentOrdered_string : FuncId := 111
abbrev F_slices_medianOrdered_string : FuncId := 112
abbrev F_cmp_isNaN_string : FuncId := 113
abbrev F_slices_siftDownCmpFunc_api_Dot : FuncId := 114
abbrev F_slices_medianAdjacentCmpFunc_api_Dot : FuncId := 115
abbrev F_slices_medianCmpFunc_api_Dot : FuncId := 116
abbrev F_slices_order2Ordered_string : FuncId := 117
abbrev F_slices_order2CmpFunc_api_Dot : FuncId := 118
abbrev F_runtime_boundsError_Error : FuncId := 119
abbrev F_runtime_boundsError_RuntimeError : FuncId := 120
abbrev F_runtime_errorString_Error : FuncId := 121
abbrev F_runtime_errorString_RuntimeError : FuncId := 122
abbrev F_runtime_plainError_Error : FuncId := 123
abbrev F_runtime_plainError_RuntimeError : FuncId := 124
abbrev F_runtime_errorAddressString_Error : FuncId := 125
abbrev F_runtime_errorAddressString_RuntimeError : FuncId := 126
abbrev F_runtime_TypeAssertionError_Error : FuncId := 127
abbrev F_runtime_TypeAssertionError_RuntimeError : FuncId := 128
abbrev F_runtime_PanicNilError_Error : FuncId := 129
abbrev F_runtime_PanicNilError_RuntimeError : FuncId := 130
abbrev F_internal_abi_Type_Align : FuncId := 131
abbrev F_internal_runtime_maps_unhashableTypeError_Error : FuncId := 132
abbrev F_internal_runtime_maps_unhashableTypeError_RuntimeError : FuncId := 133
abbrev F_api_Errno_Error : FuncId := 134
abbrev F_strings_Builder_Reset : FuncId := 135
abbrev F_internal_abi_Kind_String : FuncId := 136
abbrev F_var_s_door_gosem_cut_vars_holds_initialisers_alone_see_the_manifest_s_row_cutvarsword_look_11_test_files_too : FuncId := 137
abbrev F_var_s_door_the_look_of_gosem_cut_vars_went_over_the_folder_that_the_caller_named_as_the_repository_s_root_look_11 : FuncId := 138
abbrev F_var_s_door_unicode_CaseRanges_is_laid_by_its_text_alone_pinned_1 : FuncId := 139
abbrev F_var_s_door_unicode_Digit_is_laid_by_its_text_alone_pinned_1 : FuncId := 140
abbrev F_var_s_door_unicode_Letter_is_laid_by_its_text_alone_pinned_1 : FuncId := 141
abbrev F_var_s_door_unicode_properties_is_laid_by_its_own_initialiser_plain_data_look_11 : FuncId := 142
abbrev F_gosem_cut_vars : FuncId := 143
abbrev T_func : TypeId := 1
abbrev T_int64 : TypeId := 2
abbrev T_int : TypeId := 3
abbrev T_bool : TypeId := 4
abbrev T_uint8 : TypeId := 5
abbrev T_internal_abi_BoundsErrorCode : TypeId := 6
abbrev T_struct_x_int64_y_int_signed_bool_code_abi_BoundsErrorCode : TypeId := 7
abbrev T_runtime_boundsError : TypeId := 8
abbrev T_string : TypeId := 9
abbrev T_runtime_errorString : TypeId := 10
abbrev T_runtime_plainError : TypeId := 11
abbrev T_uintptr : TypeId := 12
abbrev T_struct_msg_string_addr_uintptr : TypeId := 13
abbrev T_runtime_errorAddressString : TypeId := 14
abbrev T_p_runtime_TypeAssertionError : TypeId := 15
abbrev T_p_runtime_PanicNilError : TypeId := 16
abbrev T_p_abi_Type : TypeId := 17
abbrev T_struct_typ_p_abi_Type : TypeId := 18
abbrev T_internal_runtime_maps_unhashableTypeError : TypeId := 19
abbrev T_interface : TypeId := 20
abbrev T_int32 : TypeId := 21
abbrev T_sl_int64 : TypeId := 22
abbrev T_sl_bool : TypeId := 23
abbrev T_func_bool : TypeId := 24
abbrev T_p_auct_House : TypeId := 25
abbrev T_func_p_auct_House : TypeId := 26
abbrev T_struct_Rep_int_N_int64 : TypeId := 27
abbrev T_api_Dot : TypeId := 28
abbrev T_api_Errno : TypeId := 29
abbrev T_func_auct_Step_api_Errno : TypeId := 30
abbrev T_7_int64 : TypeId := 31
abbrev T_vec_Vec : TypeId := 32
abbrev T_struct_Kind_int_Dot_api_Dot_Seen_vec_Vec_Reds_int_Name_string_User_string_Auction_api_Dot_Bid_api_Dot_Amount_int64_Funds_int64 : TypeId := 33
abbrev T_auct_Step : TypeId := 34
abbrev T_api_Dot_bool : TypeId := 35
abbrev T_func_api_Dot_api_Dot_bool : TypeId := 36
abbrev T_sl_api_Dot : TypeId := 37
abbrev T_func_api_Dot_sl_api_Dot : TypeId := 38
abbrev T_func_sl_int64_sl_bool_bool : TypeId := 39
abbrev T_bool_api_Errno : TypeId := 40
abbrev T_func_auct_Step_bool_api_Errno : TypeId := 41
abbrev T_api_Dot_string_int64_bool : TypeId := 42
abbrev T_func_api_Dot_api_Dot_string_int64_bool : TypeId := 43
abbrev T_func_int64_int64_bool_bool : TypeId := 44
abbrev T_func_string_int64 : TypeId := 45
abbrev T_func_auct_Step_bool : TypeId := 46
abbrev T_sl_auct_Step : TypeId := 47
abbrev T_sl_int : TypeId := 48
abbrev T_func_p_auct_House_sl_auct_Step_sl_auct_Step_sl_int : TypeId := 49
abbrev T_func_p_auct_House_p_auct_House_bool : TypeId := 50
abbrev T_func_int : TypeId := 51
abbrev T_func_vec_Vec : TypeId := 52
abbrev T_func_sl_auct_Step_sl_auct_Step_sl_int_bool : TypeId := 53
abbrev T_sl_string : TypeId := 54
abbrev T_func_string_bool : TypeId := 55
abbrev T_func_string_string : TypeId := 56
abbrev T_func_sl_string : TypeId := 57
abbrev T_func_sl_string_bool : TypeId := 58
abbrev T_map_api_Dot_rostrumlaw24_won : TypeId := 59
abbrev T_func_sl_api_Dot : TypeId := 60
abbrev T_struct_bid_api_Dot_user_string_amount_int64 : TypeId := 61
abbrev T_rostrumlaw24_won : TypeId := 62
abbrev T_rostrumlaw24_won_bool : TypeId := 63
abbrev T_func_api_Dot_bool : TypeId := 64
abbrev T_func_sl_auct_Step_bool : TypeId := 65
abbrev T_map_api_Dot_auct_Step : TypeId := 66
abbrev T_map_string_bool : TypeId := 67
abbrev T_map_string_int64 : TypeId := 68
abbrev T_map_api_Dot_auct_outcome : TypeId := 69
abbrev T_struct_have_vec_Vec_blue_map_api_Dot_auct_Step_red_sl_auct_Step_users_map_string_bool_drawn_map_string_int64_closed_map_api_Dot_auct_outcome : TypeId := 70
abbrev T_auct_House : TypeId := 71
abbrev T_func_vec_Vec_api_Dot_bool : TypeId := 72
abbrev T_func_vec_Vec_vec_Vec_bool : TypeId := 73
abbrev T_func_sl_api_Dot_api_Dot_bool : TypeId := 74
abbrev T_func_api_Dot_vec_Vec_sl_api_Dot : TypeId := 75
abbrev T_struct_bid_api_Dot_user_string_amount_int64_n76 : TypeId := 76
abbrev T_auct_outcome : TypeId := 77
abbrev T_auct_outcome_bool : TypeId := 78
abbrev T_func_auct_Step_auct_outcome : TypeId := 79
abbrev T_func_vec_Vec_bool : TypeId := 80
abbrev T_bool_bool_bool_bool_bool_bool : TypeId := 81
abbrev T_func_int_bool_bool_bool_bool_bool_bool : TypeId := 82
abbrev T_func_string_bool_bool : TypeId := 83
abbrev T_func_api_Dot_bool_bool : TypeId := 84
abbrev T_func_int64_int64_int64_bool_bool : TypeId := 85
abbrev T_func_sl_uint8_sl_uint8_bool : TypeId := 86
abbrev T_sl_uint8 : TypeId := 87
abbrev T_func_sl_uint8 : TypeId := 88
abbrev T_sl_int32 : TypeId := 89
abbrev T_sl_int32_sl_int : TypeId := 90
abbrev T_func_string_sl_int32_sl_int : TypeId := 91
abbrev T_func_int32_bool : TypeId := 92
abbrev T_func_string_sl_int32_sl_int_int_bool : TypeId := 93
abbrev T_func_int32_int32 : TypeId := 94
abbrev T_func_sl_string_n95 : TypeId := 95
abbrev T_func_sl_api_Dot_func_api_Dot_api_Dot_int : TypeId := 96
abbrev T_func_api_Dot_api_Dot_int : TypeId := 97
abbrev T_func_int_bool : TypeId := 98
abbrev T_func_sl_api_Dot_func_api_Dot_api_Dot_int_api_Dot : TypeId := 99
abbrev T_func_int_int : TypeId := 100
abbrev T_func_int64_int64_int : TypeId := 101
abbrev T_map_api_Dot_bool : TypeId := 102
abbrev T_func_sl_api_Dot_func_api_Dot_bool_sl_api_Dot : TypeId := 103
abbrev T_p_strings_Builder : TypeId := 104
abbrev T_struct_addr_p_strings_Builder_buf_sl_uint8 : TypeId := 105
abbrev T_strings_Builder : TypeId := 106
abbrev T_interface_Error_string : TypeId := 107
abbrev T_error : TypeId := 108
abbrev T_int_error : TypeId := 109
abbrev T_func_int32_int_error : TypeId := 110
abbrev T_func_string : TypeId := 111
abbrev T_func_sl_uint8_int64_sl_uint8 : TypeId := 112
abbrev T_func_sl_uint8_auct_Step_sl_uint8 : TypeId := 113
abbrev T_uint32 : TypeId := 114
abbrev T_256_uint8 : TypeId := 115
abbrev T_func_p_unicode_RangeTable_int32_bool : TypeId := 116
abbrev T_p_unicode_RangeTable : TypeId := 117
abbrev T_func_int_int32_int32 : TypeId := 118
abbrev T_func_sl_string_int_int_int : TypeId := 119
abbrev T_func_uint_int : TypeId := 120
abbrev T_uint : TypeId := 121
abbrev T_func_sl_api_Dot_int_int_int_func_api_Dot_api_Dot_int : TypeId := 122
abbrev T_func_int_int_int : TypeId := 123
abbrev T_func_int64_bool : TypeId := 124
abbrev T_func_sl_api_Dot_func_api_Dot_bool_int : TypeId := 125
abbrev T_func_sl_uint8_int32_sl_uint8 : TypeId := 126
abbrev T_p_uint8 : TypeId := 127
abbrev T_func_int32_bool_bool : TypeId := 128
abbrev T_func_sl_uint8_sl_uint8 : TypeId := 129
abbrev T_uint64 : TypeId := 130
abbrev T_func_sl_uint8_vec_Vec_sl_uint8 : TypeId := 131
abbrev T_func_sl_uint8_string_sl_uint8 : TypeId := 132
abbrev T_sl_unicode_Range16 : TypeId := 133
abbrev T_sl_unicode_Range32 : TypeId := 134
abbrev T_struct_R16_sl_unicode_Range16_R32_sl_unicode_Range32_LatinOffset_int : TypeId := 135
abbrev T_unicode_RangeTable : TypeId := 136
abbrev T_uint16 : TypeId := 137
abbrev T_struct_Lo_uint16_Hi_uint16_Stride_uint16 : TypeId := 138
abbrev T_unicode_Range16 : TypeId := 139
abbrev T_func_sl_unicode_Range16_uint16_bool : TypeId := 140
abbrev T_struct_Lo_uint32_Hi_uint32_Stride_uint32 : TypeId := 141
abbrev T_unicode_Range32 : TypeId := 142
abbrev T_func_sl_unicode_Range32_uint32_bool : TypeId := 143
abbrev T_int32_bool : TypeId := 144
abbrev T_func_int_int32_sl_unicode_CaseRange_int32_bool : TypeId := 145
abbrev T_sl_unicode_CaseRange : TypeId := 146
abbrev T_func_sl_string_int_int : TypeId := 147
abbrev T_slices_sortedHint : TypeId := 148
abbrev T_int_slices_sortedHint : TypeId := 149
abbrev T_func_sl_string_int_int_int_slices_sortedHint : TypeId := 150
abbrev T_func_sl_string_int_int_bool : TypeId := 151
abbrev T_func_string_string_bool : TypeId := 152
abbrev T_func_sl_string_int_int_int_int : TypeId := 153
abbrev T_int_bool : TypeId := 154
abbrev T_func_sl_string_int_int_int_int_bool : TypeId := 155
abbrev T_func_uint32_int : TypeId := 156
abbrev T_func_uint64_int : TypeId := 157
abbrev T_func_sl_api_Dot_int_int_func_api_Dot_api_Dot_int : TypeId := 158
abbrev T_func_sl_api_Dot_int_int_func_api_Dot_api_Dot_int_int_slices_sortedHint : TypeId := 159
abbrev T_func_sl_api_Dot_int_int_func_api_Dot_api_Dot_int_bool : TypeId := 160
abbrev T_func_sl_api_Dot_int_int_int_func_api_Dot_api_Dot_int_int : TypeId := 161
abbrev T_func_sl_api_Dot_int_int_int_func_api_Dot_api_Dot_int_int_bool : TypeId := 162
abbrev T_unsafe_Pointer : TypeId := 163
abbrev T_func_unsafe_Pointer_unsafe_Pointer : TypeId := 164
abbrev T_func_sl_uint8_sl_uint8_sl_uint8 : TypeId := 165
abbrev T_p_unicode_Range16 : TypeId := 166
abbrev T_p_unicode_Range32 : TypeId := 167
abbrev T_p_unicode_CaseRange : TypeId := 168
abbrev T_func_int32_sl_unicode_CaseRange_p_unicode_CaseRange : TypeId := 169
abbrev T_func_int_int32_p_unicode_CaseRange_int32 : TypeId := 170
abbrev T_slices_xorshift : TypeId := 171
abbrev T_func_int_uint : TypeId := 172
abbrev T_func_uint64 : TypeId := 173
abbrev T_func_sl_string_int_p_int_int : TypeId := 174
abbrev T_p_int : TypeId := 175
abbrev T_func_sl_string_int_int_int_p_int_int : TypeId := 176
abbrev T_func_sl_api_Dot_int_p_int_func_api_Dot_api_Dot_int_int : TypeId := 177
abbrev T_func_sl_api_Dot_int_int_int_p_int_func_api_Dot_api_Dot_int_int : TypeId := 178
abbrev T_3_int32 : TypeId := 179
abbrev T_unicode_d : TypeId := 180
abbrev T_struct_Lo_uint32_Hi_uint32_Delta_unicode_d : TypeId := 181
abbrev T_unicode_CaseRange : TypeId := 182
abbrev T_p_slices_xorshift : TypeId := 183
abbrev T_int_int : TypeId := 184
abbrev T_func_sl_string_int_int_p_int_int_int : TypeId := 185
abbrev T_func_sl_api_Dot_int_int_p_int_func_api_Dot_api_Dot_int_int_int : TypeId := 186
abbrev T_struct_interface_p_abi_Type_concrete_p_abi_Type_asserted_p_abi_Type_missingMethod_string : TypeId := 187
abbrev T_runtime_TypeAssertionError : TypeId := 188
abbrev T_0_p_runtime_PanicNilError : TypeId := 189
abbrev T_struct_0_p_runtime_PanicNilError : TypeId := 190
abbrev T_runtime_PanicNilError : TypeId := 191
abbrev T_internal_abi_TFlag : TypeId := 192
abbrev T_internal_abi_Kind : TypeId := 193
abbrev T_func_unsafe_Pointer_unsafe_Pointer_bool : TypeId := 194
abbrev T_internal_abi_NameOff : TypeId := 195
abbrev T_internal_abi_TypeOff : TypeId := 196
abbrev T_struct_Size_uintptr_PtrBytes_uintptr_Hash_uint32_TFlag_abi_TFlag_Align_uint8_FieldAlign_uint8_Kind_abi_Kind_Equal_func_unsafe_Pointer_unsafe_Pointer_bool_GCData_p_uint8_Str_abi_NameOff_PtrToThis_abi_TypeOff : TypeId := 197
abbrev T_internal_abi_Type : TypeId := 198
def p_rostrumlaw24_AuctBest : List (Nat × Pl) := [(16, (.fl 0 (.fl 1 (.fr 2 (.fr 3 (.fl 4 (.fl 5 (.fr 6 (.fr 7 (.fr 8 (.st 9 [2, 3, 6, 7, 8] (.st 10 [] .done)))))))))))), (28, (.fl 0 (.fl 1 (.fr 2 (.fr 3 (.fl 4 (.fr 5 (.fl 6 (.st 7 [] .done)))))))))]
def c_rostrumlaw24_AuctBest : VCode :=
 (.seq (.reg [⟨(some 4), none, .mov (.c (.kb false))⟩])
 (.seq (.seq (.reg [⟨(some 15), none, .call 9 []⟩,
   ⟨(some 16), none, .un .not (.t 15)⟩])
 (.cond (.t 16)
  (.seq (.reg [⟨(some 4), none, .mov (.c (.kb false))⟩])
  .ret)
  .skip))
 (.seq (.seq (.reg [⟨(some 17), none, .mov (.t 0)⟩,
   ⟨(some 18), none, .len .sl (.t 17)⟩,
   ⟨(some 19), none, .bin .gtr .no (.t 18) (.c (.raw (.int .i64 15)))⟩,
   ⟨(some 20), none, .mov (.t 19)⟩,
   ⟨(some 21), (some (20, false)), .mov (.t 1)⟩,
   ⟨(some 22), (some (20, false)), .len .sl (.t 21)⟩,
   ⟨(some 23), (some (20, false)), .mov (.t 0)⟩,
   ⟨(some 24), (some (20, false)), .len .sl (.t 23)⟩,
   ⟨(some 25), (some (20, false)), .bin .lss .no (.t 22) (.t 24)⟩,
   ⟨(some 26), none, .pick (.t 20) (.c (.kb true)) (.t 25)⟩])
 (.cond (.t 26)
  (.seq (.reg [⟨(some 4), none, .mov (.c (.kb true))⟩])
  .ret)
  .skip))
 (.seq (.reg [⟨(some 27), none, .call 10 []⟩,
   ⟨(some 5), none, .mov (.t 27)⟩])
 (.seq (.reg [⟨(some 28), none, .build [(.int .i64 0), (.int .i64 0)] [(1, 1, (.c (.raw (.int .i64 1))))]⟩,
   ⟨(some 6), none, .new 28 [(.int .i64 0), (.int .i64 0)]⟩,
   ⟨none, none, .store (some 2) (.t 6) (.t 28)⟩])
 (.seq (.seq (.reg [⟨(some 29), none, .mov (.t 5)⟩,
   ⟨(some 30), none, .bin .eql .p (.t 29) (.c (.raw (.pointer none)))⟩,
   ⟨(some 31), none, .mov (.t 30)⟩,
   ⟨(some 32), (some (31, false)), .mov (.t 5)⟩,
   ⟨(some 33), (some (31, false)), .load (some 2) (.t 6)⟩,
   ⟨(some 34), (some (31, false)), .build [(.int .i64 0), (.int .i64 0), (.int .i64 0), (.int .i64 0), (.int .i64 0), (.int .i64 0), (.int .i64 0), (.int .i64 0), (.int .i64 0), (.int .i64 0), (.int .i64 0), (.string (ByteArray.mk #[])), (.string (ByteArray.mk #[])), (.int .i64 0), (.int .i64 0), (.int .i64 0), (.int .i64 0), (.int .i64 0), (.int .i64 0)] [(0, 1, (.c (.raw (.int .i64 1)))), (1, 2, (.t 33)), (11, 1, (.c (.raw (.string (ByteArray.mk #[118, 97, 115, 101])))))]⟩,
   ⟨(some 35), (some (31, false)), .call 11 [(.t 32), (.t 34)]⟩,
   ⟨(some 36), (some (31, false)), .bin .neq .no (.t 35) (.c (.raw (.int .i64 0)))⟩,
   ⟨(some 37), none, .pick (.t 31) (.c (.kb true)) (.t 36)⟩])
 (.cond (.t 37)
  (.seq (.reg [⟨(some 4), none, .mov (.c (.kb false))⟩])
  .ret)
  .skip))
 (.seq (.reg [⟨(some 7), none, .mov (.c (.raw (.int .i64 1)))⟩])
 (.seq (.reg [⟨(some 38), none, .build [(.int .i64 0), (.int .i64 0)] []⟩,
   ⟨(some 9), none, .new 28 [(.int .i64 0), (.int .i64 0)]⟩,
   ⟨(some 8), none, .mov (.c (.raw (.int .i64 0)))⟩,
   ⟨none, none, .store (some 2) (.t 9) (.t 38)⟩])
 (.seq (.seq (.reg [⟨(some 10), none, .mov (.c (.raw (.int .i64 0)))⟩])
 (.block 0 (.loop (.seq (.seq (.reg [⟨(some 39), none, .mov (.t 10)⟩,
    ⟨(some 40), none, .mov (.t 0)⟩,
    ⟨(some 41), none, .len .sl (.t 40)⟩,
    ⟨(some 42), none, .bin .lss .no (.t 39) (.t 41)⟩])
  (.cond (.t 42)
   .skip
   (.exit 0)))
  (.seq (.block 1 (.seq (.seq (.reg [⟨(some 45), none, .mov (.t 0)⟩,
    ⟨(some 46), none, .mov (.t 10)⟩,
    ⟨(some 47), none, .iaddr 1 none (.t 45) (.t 46)⟩,
    ⟨(some 48), none, .load none (.t 47)⟩,
    ⟨(some 49), none, .bin .lss .no (.t 48) (.c (.raw (.int .i64 1)))⟩,
    ⟨(some 50), none, .mov (.t 49)⟩,
    ⟨(some 51), (some (50, false)), .mov (.t 0)⟩,
    ⟨(some 52), (some (50, false)), .mov (.t 10)⟩,
    ⟨(some 53), (some (50, false)), .iaddr 1 none (.t 51) (.t 52)⟩,
    ⟨(some 54), (some (50, false)), .load none (.t 53)⟩,
    ⟨(some 55), (some (50, false)), .bin .gtr .no (.t 54) (.c (.raw (.int .i64 1000000000)))⟩,
    ⟨(some 56), none, .pick (.t 50) (.c (.kb true)) (.t 55)⟩])
  (.cond (.t 56)
   (.seq (.reg [⟨(some 4), none, .mov (.c (.kb true))⟩])
   .ret)
   .skip))
  (.seq (.draw [⟨(some 57), none, .mov (.t 7)⟩,
    ⟨(some 58), none, .bin .add .no (.t 57) (.c (.raw (.int .i64 1)))⟩,
    ⟨(some 59), none, .build [(.int .i64 0), (.int .i64 0)] [(1, 1, (.t 58))]⟩,
    ⟨(some 60), none, .load (some 2) (.t 6)⟩,
    ⟨(some 61), none, .mov (.t 0)⟩,
    ⟨(some 62), none, .mov (.t 10)⟩,
    ⟨(some 63), none, .iaddr 1 none (.t 61) (.t 62)⟩,
    ⟨(some 64), none, .load none (.t 63)⟩,
    ⟨(some 65), none, .build [(.int .i64 0), (.int .i64 0), (.int .i64 0), (.int .i64 0), (.int .i64 0), (.int .i64 0), (.int .i64 0), (.int .i64 0), (.int .i64 0), (.int .i64 0), (.int .i64 0), (.string (ByteArray.mk #[])), (.string (ByteArray.mk #[])), (.int .i64 0), (.int .i64 0), (.int .i64 0), (.int .i64 0), (.int .i64 0), (.int .i64 0)] [(0, 1, (.c (.raw (.int .i64 2)))), (1, 2, (.t 59)), (13, 2, (.t 60)), (12, 1, (.c (.raw (.string (ByteArray.mk #[117]))))), (17, 1, (.t 64))]⟩,
    ⟨(some 11), none, .new 34 [(.int .i64 0), (.int .i64 0), (.int .i64 0), (.int .i64 0), (.int .i64 0), (.int .i64 0), (.int .i64 0), (.int .i64 0), (.int .i64 0), (.int .i64 0), (.int .i64 0), (.string (ByteArray.mk #[])), (.string (ByteArray.mk #[])), (.int .i64 0), (.int .i64 0), (.int .i64 0), (.int .i64 0), (.int .i64 0), (.int .i64 0)]⟩,
    ⟨none, none, .store (some 19) (.t 11) (.t 65)⟩]
    (.fl 0 (.fl 1 (.fr 2 (.fr 3 (.fl 4 (.fl 5 (.fr 6 (.fr 7 (.fr 8 (.st 9 [2, 3, 6, 7, 8] (.st 10 [] .done))))))))))))
  (.seq (.reg [⟨(some 66), none, .mov (.t 7)⟩,
    ⟨(some 67), none, .faddr 3 (.t 11)⟩,
    ⟨(some 68), none, .iaddr 1 (some 7) (.t 67) (.c (.raw (.int .i64 0)))⟩,
    ⟨none, none, .store none (.t 68) (.t 66)⟩])
  (.seq (.reg [⟨(some 69), none, .mov (.t 7)⟩,
    ⟨(some 70), none, .bin .add .no (.t 69) (.c (.raw (.int .i64 1)))⟩,
    ⟨(some 7), none, .mov (.t 70)⟩])
  (.seq (.seq (.reg [⟨(some 71), none, .mov (.t 5)⟩,
    ⟨(some 72), none, .load (some 19) (.t 11)⟩,
    ⟨(some 73), none, .call 11 [(.t 71), (.t 72)]⟩,
    ⟨(some 74), none, .bin .neq .no (.t 73) (.c (.raw (.int .i64 0)))⟩])
  (.cond (.t 74)
   (.seq (.reg [⟨(some 4), none, .mov (.c (.kb false))⟩])
   .ret)
   .skip))
  (.seq (.reg [⟨(some 75), none, .mov (.t 1)⟩,
    ⟨(some 76), none, .mov (.t 10)⟩,
    ⟨(some 77), none, .iaddr 1 none (.t 75) (.t 76)⟩,
    ⟨(some 78), none, .load none (.t 77)⟩])
  (.cond (.t 78)
   (.seq (.reg [⟨(some 79), none, .mov (.t 7)⟩,
     ⟨(some 80), none, .bin .add .no (.t 79) (.c (.raw (.int .i64 1)))⟩,
     ⟨(some 81), none, .build [(.int .i64 0), (.int .i64 0)] [(1, 1, (.t 80))]⟩,
     ⟨(some 82), none, .faddr 1 (.t 11)⟩,
     ⟨(some 83), none, .load (some 2) (.t 82)⟩,
     ⟨(some 84), none, .build [(.int .i64 0), (.int .i64 0), (.int .i64 0), (.int .i64 0), (.int .i64 0), (.int .i64 0), (.int .i64 0), (.int .i64 0), (.int .i64 0), (.int .i64 0), (.int .i64 0), (.string (ByteArray.mk #[])), (.string (ByteArray.mk #[])), (.int .i64 0), (.int .i64 0), (.int .i64 0), (.int .i64 0), (.int .i64 0), (.int .i64 0)] [(0, 1, (.c (.raw (.int .i64 3)))), (1, 2, (.t 81)), (15, 2, (.t 83))]⟩,
     ⟨(some 12), none, .new 34 [(.int .i64 0), (.int .i64 0), (.int .i64 0), (.int .i64 0), (.int .i64 0), (.int .i64 0), (.int .i64 0), (.int .i64 0), (.int .i64 0), (.int .i64 0), (.int .i64 0), (.string (ByteArray.mk #[])), (.string (ByteArray.mk #[])), (.int .i64 0), (.int .i64 0), (.int .i64 0), (.int .i64 0), (.int .i64 0), (.int .i64 0)]⟩,
     ⟨none, none, .store (some 19) (.t 12) (.t 84)⟩])
   (.seq (.reg [⟨(some 85), none, .mov (.t 7)⟩,
     ⟨(some 86), none, .faddr 3 (.t 12)⟩,
     ⟨(some 87), none, .iaddr 1 (some 7) (.t 86) (.c (.raw (.int .i64 0)))⟩,
     ⟨none, none, .store none (.t 87) (.t 85)⟩])
   (.seq (.reg [⟨(some 88), none, .mov (.t 7)⟩,
     ⟨(some 89), none, .bin .add .no (.t 88) (.c (.raw (.int .i64 1)))⟩,
     ⟨(some 7), none, .mov (.t 89)⟩])
   (.seq (.reg [⟨(some 90), none, .mov (.t 5)⟩,
     ⟨(some 91), none, .load (some 19) (.t 12)⟩,
     ⟨(some 92), none, .call 11 [(.t 90), (.t 91)]⟩,
     ⟨(some 93), none, .bin .neq .no (.t 92) (.c (.raw (.int .i64 0)))⟩])
   (.cond (.t 93)
    (.seq (.reg [⟨(some 4), none, .mov (.c (.kb false))⟩])
    .ret)
    .skip)))))
   (.seq (.reg [⟨(some 94), none, .mov (.t 0)⟩,
     ⟨(some 95), none, .mov (.t 10)⟩,
     ⟨(some 96), none, .iaddr 1 none (.t 94) (.t 95)⟩,
     ⟨(some 97), none, .load none (.t 96)⟩,
     ⟨(some 98), none, .mov (.t 8)⟩,
     ⟨(some 99), none, .bin .gtr .no (.t 97) (.t 98)⟩])
   (.cond (.t 99)
    (.draw [⟨(some 100), none, .mov (.t 0)⟩,
      ⟨(some 101), none, .mov (.t 10)⟩,
      ⟨(some 102), none, .iaddr 1 none (.t 100) (.t 101)⟩,
      ⟨(some 103), none, .load none (.t 102)⟩,
      ⟨(some 104), none, .faddr 1 (.t 11)⟩,
      ⟨(some 105), none, .load (some 2) (.t 104)⟩,
      ⟨(some 8), none, .mov (.t 103)⟩,
      ⟨none, none, .store (some 2) (.t 9) (.t 105)⟩]
      (.fl 0 (.fl 1 (.fr 2 (.fr 3 (.fl 4 (.fr 5 (.fl 6 (.st 7 [] .done)))))))))
    .skip))))))))))
  (.reg [⟨(some 43), none, .mov (.t 10)⟩,
    ⟨(some 44), none, .bin .add .no (.t 43) (.c (.raw (.int .i64 1)))⟩,
    ⟨(some 10), none, .mov (.t 44)⟩]))))))
 (.seq (.reg [⟨(some 107), none, .mov (.t 5)⟩,
   ⟨(some 108), none, .load (some 2) (.t 6)⟩,
   ⟨(some 109), none, .call 12 [(.t 107), (.t 108)]⟩,
   ⟨(some 106), none, .mov (.t 109)⟩,
   ⟨(some 110), none, .extr (.t 106) 0⟩,
   ⟨(some 111), none, .extr (.t 106) 1⟩,
   ⟨(some 13), none, .new 28 [(.int .i64 0), (.int .i64 0)]⟩,
   ⟨none, none, .store (some 2) (.t 13) (.t 110)⟩,
   ⟨(some 14), none, .mov (.t 111)⟩])
 (.seq (.reg [⟨(some 112), none, .mov (.t 14)⟩,
   ⟨(some 113), none, .mov (.t 8)⟩,
   ⟨(some 114), none, .bin .gtr .no (.t 113) (.c (.raw (.int .i64 0)))⟩,
   ⟨(some 115), none, .bin .eql .b (.t 112) (.t 114)⟩,
   ⟨(some 116), none, .mov (.t 115)⟩,
   ⟨(some 117), (some (116, true)), .load (some 2) (.t 13)⟩,
   ⟨(some 118), (some (116, true)), .load (some 2) (.t 9)⟩,
   ⟨(some 119), (some (116, true)), .bin .eql (.agg [.i, .i]) (.t 117) (.t 118)⟩,
   ⟨(some 120), none, .pick (.t 116) (.t 119) (.c (.kb false))⟩,
   ⟨(some 121), none, .mov (.t 120)⟩,
   ⟨(some 122), (some (121, true)), .mov (.t 8)⟩,
   ⟨(some 123), (some (121, true)), .bin .gtr .no (.t 122) (.c (.raw (.int .i64 0)))⟩,
   ⟨(some 124), (some (121, true)), .mov (.t 5)⟩,
   ⟨(some 125), (some (121, true)), .load (some 2) (.t 6)⟩,
   ⟨(some 126), (some (121, true)), .call 13 [(.t 124), (.t 125)]⟩,
   ⟨(some 127), (some (121, true)), .len .sl (.t 126)⟩,
   ⟨(some 128), (some (121, true)), .bin .gtr .no (.t 127) (.c (.raw (.int .i64 0)))⟩,
   ⟨(some 129), (some (121, true)), .bin .eql .b (.t 123) (.t 128)⟩,
   ⟨(some 130), none, .pick (.t 121) (.t 129) (.c (.kb false))⟩,
   ⟨(some 4), none, .mov (.t 130)⟩])
 .ret)))))))))))
theorem i_rostrumlaw24_AuctBest : Is Tryd.prog 3 131 [.t 4] c_rostrumlaw24_AuctBest := ⟨Tryd.f3, _, p_rostrumlaw24_AuctBest, rfl, rfl, by kernel_rfl, by kernel_rfl, rfl⟩
def p_rostrumlaw24_AuctVoid : List (Nat × Pl) := []
def c_rostrumlaw24_AuctVoid : VCode :=
 (.seq (.reg [⟨(some 6), none, .mov (.c (.kb false))⟩])
 (.seq (.seq (.reg [⟨(some 16), none, .call 9 []⟩,
   ⟨(some 17), none, .un .not (.t 16)⟩])
 (.cond (.t 17)
  (.seq (.reg [⟨(some 6), none, .mov (.c (.kb false))⟩])
  .ret)
  .skip))
 (.seq (.seq (.reg [⟨(some 18), none, .mov (.t 0)⟩,
   ⟨(some 19), none, .bin .lss .no (.t 18) (.c (.raw (.int .i64 1)))⟩,
   ⟨(some 20), none, .mov (.t 19)⟩,
   ⟨(some 21), (some (20, false)), .mov (.t 0)⟩,
   ⟨(some 22), (some (20, false)), .bin .gtr .no (.t 21) (.c (.raw (.int .i64 1000000000)))⟩,
   ⟨(some 23), none, .pick (.t 20) (.c (.kb true)) (.t 22)⟩,
   ⟨(some 24), none, .mov (.t 23)⟩,
   ⟨(some 25), (some (24, false)), .mov (.t 1)⟩,
   ⟨(some 26), (some (24, false)), .bin .lss .no (.t 25) (.c (.raw (.int .i64 1)))⟩,
   ⟨(some 27), none, .pick (.t 24) (.c (.kb true)) (.t 26)⟩,
   ⟨(some 28), none, .mov (.t 27)⟩,
   ⟨(some 29), (some (28, false)), .mov (.t 1)⟩,
   ⟨(some 30), (some (28, false)), .bin .gtr .no (.t 29) (.c (.raw (.int .i64 1000000000)))⟩,
   ⟨(some 31), none, .pick (.t 28) (.c (.kb true)) (.t 30)⟩])
 (.cond (.t 31)
  (.seq (.reg [⟨(some 6), none, .mov (.c (.kb true))⟩])
  .ret)
  .skip))
 (.seq (.reg [⟨(some 32), none, .call 10 []⟩,
   ⟨(some 7), none, .mov (.t 32)⟩])
 (.seq (.reg [⟨(some 33), none, .build [(.int .i64 0), (.int .i64 0)] [(1, 1, (.c (.raw (.int .i64 1))))]⟩,
   ⟨(some 8), none, .new 28 [(.int .i64 0), (.int .i64 0)]⟩,
   ⟨none, none, .store (some 2) (.t 8) (.t 33)⟩])
 (.seq (.seq (.reg [⟨(some 34), none, .mov (.t 7)⟩,
   ⟨(some 35), none, .bin .eql .p (.t 34) (.c (.raw (.pointer none)))⟩])
 (.cond (.t 35)
  (.seq (.reg [⟨(some 6), none, .mov (.c (.kb false))⟩])
  .ret)
  .skip))
 (.seq (.reg [⟨(some 36), none, .mov (.t 7)⟩,
   ⟨(some 37), none, .load (some 2) (.t 8)⟩,
   ⟨(some 38), none, .build [(.int .i64 0), (.int .i64 0), (.int .i64 0), (.int .i64 0), (.int .i64 0), (.int .i64 0), (.int .i64 0), (.int .i64 0), (.int .i64 0), (.int .i64 0), (.int .i64 0), (.string (ByteArray.mk #[])), (.string (ByteArray.mk #[])), (.int .i64 0), (.int .i64 0), (.int .i64 0), (.int .i64 0), (.int .i64 0), (.int .i64 0)] [(0, 1, (.c (.raw (.int .i64 5)))), (1, 2, (.t 37)), (12, 1, (.c (.raw (.string (ByteArray.mk #[117])))))]⟩,
   ⟨(some 39), none, .call 14 [(.t 36), (.t 38)]⟩])
 (.seq (.reg [⟨(some 40), none, .mov (.t 7)⟩,
   ⟨(some 41), none, .load (some 2) (.t 8)⟩,
   ⟨(some 42), none, .build [(.int .i64 0), (.int .i64 0), (.int .i64 0), (.int .i64 0), (.int .i64 0), (.int .i64 0), (.int .i64 0), (.int .i64 0), (.int .i64 0), (.int .i64 0), (.int .i64 0), (.string (ByteArray.mk #[])), (.string (ByteArray.mk #[])), (.int .i64 0), (.int .i64 0), (.int .i64 0), (.int .i64 0), (.int .i64 0), (.int .i64 0)] [(0, 1, (.c (.raw (.int .i64 1)))), (1, 2, (.t 41)), (10, 1, (.c (.raw (.int .i64 1)))), (11, 1, (.c (.raw (.string (ByteArray.mk #[118, 97, 115, 101])))))]⟩,
   ⟨(some 43), none, .call 11 [(.t 40), (.t 42)]⟩])
 (.seq (.reg [⟨(some 44), none, .mov (.t 7)⟩,
   ⟨(some 45), none, .build [(.int .i64 0), (.int .i64 0)] [(1, 1, (.c (.raw (.int .i64 2))))]⟩,
   ⟨(some 46), none, .build [(.int .i64 0), (.int .i64 0), (.int .i64 0), (.int .i64 0), (.int .i64 0), (.int .i64 0), (.int .i64 0)] [(0, 1, (.c (.raw (.int .i64 1))))]⟩,
   ⟨(some 47), none, .load (some 2) (.t 8)⟩,
   ⟨(some 48), none, .mov (.t 0)⟩,
   ⟨(some 49), none, .build [(.int .i64 0), (.int .i64 0), (.int .i64 0), (.int .i64 0), (.int .i64 0), (.int .i64 0), (.int .i64 0), (.int .i64 0), (.int .i64 0), (.int .i64 0), (.int .i64 0), (.string (ByteArray.mk #[])), (.string (ByteArray.mk #[])), (.int .i64 0), (.int .i64 0), (.int .i64 0), (.int .i64 0), (.int .i64 0), (.int .i64 0)] [(0, 1, (.c (.raw (.int .i64 2)))), (1, 2, (.t 45)), (10, 1, (.c (.raw (.int .i64 1)))), (3, 7, (.t 46)), (13, 2, (.t 47)), (12, 1, (.c (.raw (.string (ByteArray.mk #[117]))))), (17, 1, (.t 48))]⟩,
   ⟨(some 50), none, .call 11 [(.t 44), (.t 49)]⟩])
 (.seq (.reg [⟨(some 51), none, .build [(.int .i64 0), (.int .i64 0)] [(0, 1, (.c (.raw (.int .i64 1)))), (1, 1, (.c (.raw (.int .i64 1))))]⟩,
   ⟨(some 52), none, .build [(.int .i64 0), (.int .i64 0), (.int .i64 0), (.int .i64 0), (.int .i64 0), (.int .i64 0), (.int .i64 0)] [(0, 1, (.c (.raw (.int .i64 1))))]⟩,
   ⟨(some 53), none, .load (some 2) (.t 8)⟩,
   ⟨(some 54), none, .mov (.t 1)⟩,
   ⟨(some 55), none, .build [(.int .i64 0), (.int .i64 0), (.int .i64 0), (.int .i64 0), (.int .i64 0), (.int .i64 0), (.int .i64 0), (.int .i64 0), (.int .i64 0), (.int .i64 0), (.int .i64 0), (.string (ByteArray.mk #[])), (.string (ByteArray.mk #[])), (.int .i64 0), (.int .i64 0), (.int .i64 0), (.int .i64 0), (.int .i64 0), (.int .i64 0)] [(0, 1, (.c (.raw (.int .i64 2)))), (1, 2, (.t 51)), (10, 1, (.c (.raw (.int .i64 1)))), (3, 7, (.t 52)), (13, 2, (.t 53)), (12, 1, (.c (.raw (.string (ByteArray.mk #[117]))))), (17, 1, (.t 54))]⟩,
   ⟨(some 9), none, .new 34 [(.int .i64 0), (.int .i64 0), (.int .i64 0), (.int .i64 0), (.int .i64 0), (.int .i64 0), (.int .i64 0), (.int .i64 0), (.int .i64 0), (.int .i64 0), (.int .i64 0), (.string (ByteArray.mk #[])), (.string (ByteArray.mk #[])), (.int .i64 0), (.int .i64 0), (.int .i64 0), (.int .i64 0), (.int .i64 0), (.int .i64 0)]⟩,
   ⟨none, none, .store (some 19) (.t 9) (.t 55)⟩])
 (.seq (.seq (.reg [⟨(some 56), none, .mov (.t 2)⟩,
   ⟨(some 57), none, .mov (.t 56)⟩,
   ⟨(some 58), (some (57, true)), .mov (.t 7)⟩,
   ⟨(some 59), (some (57, true)), .load (some 19) (.t 9)⟩,
   ⟨(some 60), (some (57, true)), .call 11 [(.t 58), (.t 59)]⟩,
   ⟨(some 61), (some (57, true)), .bin .neq .no (.t 60) (.c (.raw (.int .i64 0)))⟩,
   ⟨(some 62), none, .pick (.t 57) (.t 61) (.c (.kb false))⟩])
 (.cond (.t 62)
  (.seq (.reg [⟨(some 6), none, .mov (.c (.kb false))⟩])
  .ret)
  .skip))
 (.seq (.reg [⟨(some 64), none, .mov (.t 7)⟩,
   ⟨(some 65), none, .build [(.int .i64 0), (.int .i64 0)] [(1, 1, (.c (.raw (.int .i64 2))))]⟩,
   ⟨(some 66), none, .build [(.int .i64 0), (.int .i64 0), (.int .i64 0), (.int .i64 0), (.int .i64 0), (.int .i64 0), (.int .i64 0)] [(0, 1, (.c (.raw (.int .i64 2))))]⟩,
   ⟨(some 67), none, .load (some 2) (.t 8)⟩,
   ⟨(some 68), none, .build [(.int .i64 0), (.int .i64 0), (.int .i64 0), (.int .i64 0), (.int .i64 0), (.int .i64 0), (.int .i64 0), (.int .i64 0), (.int .i64 0), (.int .i64 0), (.int .i64 0), (.string (ByteArray.mk #[])), (.string (ByteArray.mk #[])), (.int .i64 0), (.int .i64 0), (.int .i64 0), (.int .i64 0), (.int .i64 0), (.int .i64 0)] [(0, 1, (.c (.raw (.int .i64 7)))), (1, 2, (.t 65)), (10, 1, (.c (.raw (.int .i64 1)))), (3, 7, (.t 66)), (13, 2, (.t 67))]⟩,
   ⟨(some 69), none, .call 14 [(.t 64), (.t 68)]⟩,
   ⟨(some 63), none, .mov (.t 69)⟩,
   ⟨(some 70), none, .extr (.t 63) 0⟩,
   ⟨(some 71), none, .extr (.t 63) 1⟩,
   ⟨(some 10), none, .mov (.t 70)⟩,
   ⟨(some 11), none, .mov (.t 71)⟩])
 (.seq (.seq (.reg [⟨(some 72), none, .mov (.t 2)⟩,
   ⟨(some 73), none, .un .not (.t 72)⟩,
   ⟨(some 74), none, .mov (.t 73)⟩,
   ⟨(some 75), (some (74, true)), .mov (.t 7)⟩,
   ⟨(some 76), (some (74, true)), .load (some 19) (.t 9)⟩,
   ⟨(some 77), (some (74, true)), .call 11 [(.t 75), (.t 76)]⟩,
   ⟨(some 78), (some (74, true)), .bin .neq .no (.t 77) (.c (.raw (.int .i64 0)))⟩,
   ⟨(some 79), none, .pick (.t 74) (.t 78) (.c (.kb false))⟩])
 (.cond (.t 79)
  (.seq (.reg [⟨(some 6), none, .mov (.c (.kb false))⟩])
  .ret)
  .skip))
 (.seq (.reg [⟨(some 81), none, .mov (.t 7)⟩,
   ⟨(some 82), none, .load (some 2) (.t 8)⟩,
   ⟨(some 83), none, .call 15 [(.t 81), (.t 82)]⟩,
   ⟨(some 80), none, .mov (.t 83)⟩,
   ⟨(some 84), none, .extr (.t 80) 0⟩,
   ⟨(some 85), none, .extr (.t 80) 1⟩,
   ⟨(some 86), none, .extr (.t 80) 2⟩,
   ⟨(some 87), none, .extr (.t 80) 3⟩,
   ⟨(some 12), none, .new 28 [(.int .i64 0), (.int .i64 0)]⟩,
   ⟨none, none, .store (some 2) (.t 12) (.t 84)⟩,
   ⟨(some 13), none, .mov (.t 85)⟩,
   ⟨(some 14), none, .mov (.t 86)⟩,
   ⟨(some 15), none, .mov (.t 87)⟩])
 (.seq (.reg [⟨(some 88), none, .mov (.t 10)⟩,
   ⟨(some 89), none, .mov (.t 88)⟩,
   ⟨(some 90), (some (89, true)), .mov (.t 11)⟩,
   ⟨(some 91), (some (89, true)), .bin .eql .no (.t 90) (.c (.raw (.int .i64 0)))⟩,
   ⟨(some 92), none, .pick (.t 89) (.t 91) (.c (.kb false))⟩,
   ⟨(some 93), none, .mov (.t 92)⟩,
   ⟨(some 94), (some (93, true)), .load (some 2) (.t 12)⟩,
   ⟨(some 95), (some (93, true)), .build [(.int .i64 0), (.int .i64 0)] [(1, 1, (.c (.raw (.int .i64 2))))]⟩,
   ⟨(some 96), (some (93, true)), .bin .eql (.agg [.i, .i]) (.t 94) (.t 95)⟩,
   ⟨(some 97), none, .pick (.t 93) (.t 96) (.c (.kb false))⟩,
   ⟨(some 98), none, .mov (.t 97)⟩,
   ⟨(some 99), (some (98, true)), .mov (.t 13)⟩,
   ⟨(some 100), (some (98, true)), .bin .eql .no (.t 99) (.c (.raw (.string (ByteArray.mk #[117]))))⟩,
   ⟨(some 101), none, .pick (.t 98) (.t 100) (.c (.kb false))⟩,
   ⟨(some 102), none, .mov (.t 101)⟩,
   ⟨(some 103), (some (102, true)), .mov (.t 14)⟩,
   ⟨(some 104), (some (102, true)), .mov (.t 0)⟩,
   ⟨(some 105), (some (102, true)), .bin .eql .no (.t 103) (.t 104)⟩,
   ⟨(some 106), none, .pick (.t 102) (.t 105) (.c (.kb false))⟩,
   ⟨(some 107), none, .mov (.t 106)⟩,
   ⟨(some 108), (some (107, true)), .mov (.t 15)⟩,
   ⟨(some 109), none, .pick (.t 107) (.t 108) (.c (.kb false))⟩,
   ⟨(some 110), none, .mov (.t 109)⟩,
   ⟨(some 111), (some (110, true)), .mov (.t 7)⟩,
   ⟨(some 112), (some (110, true)), .load (some 2) (.t 8)⟩,
   ⟨(some 113), (some (110, true)), .call 13 [(.t 111), (.t 112)]⟩,
   ⟨(some 114), (some (110, true)), .len .sl (.t 113)⟩,
   ⟨(some 115), (some (110, true)), .bin .eql .no (.t 114) (.c (.raw (.int .i64 2)))⟩,
   ⟨(some 116), none, .pick (.t 110) (.t 115) (.c (.kb false))⟩,
   ⟨(some 6), none, .mov (.t 116)⟩])
 .ret)))))))))))))))
theorem i_rostrumlaw24_AuctVoid : Is Tryd.prog 4 117 [.t 6] c_rostrumlaw24_AuctVoid := ⟨Tryd.f4, _, p_rostrumlaw24_AuctVoid, rfl, rfl, by kernel_rfl, by kernel_rfl, rfl⟩
def p_rostrumlaw24_AuctKnown : List (Nat × Pl) := []
def c_rostrumlaw24_AuctKnown : VCode :=
 (.seq (.reg [⟨(some 0), none, .mov (.c (.kb false))⟩])
 (.seq (.seq (.reg [⟨(some 24), none, .call 9 []⟩,
   ⟨(some 25), none, .un .not (.t 24)⟩])
 (.cond (.t 25)
  (.seq (.reg [⟨(some 0), none, .mov (.c (.kb false))⟩])
  .ret)
  .skip))
 (.seq (.reg [⟨(some 26), none, .call 16 []⟩,
   ⟨(some 1), none, .mov (.t 26)⟩])
 (.seq (.reg [⟨(some 28), none, .mov (.t 1)⟩,
   ⟨(some 29), none, .build [(.int .i64 0), (.int .i64 0)] [(1, 1, (.c (.raw (.int .i64 2))))]⟩,
   ⟨(some 30), none, .build [(.int .i64 0), (.int .i64 0), (.int .i64 0), (.int .i64 0), (.int .i64 0), (.int .i64 0), (.int .i64 0), (.int .i64 0), (.int .i64 0), (.int .i64 0), (.int .i64 0), (.string (ByteArray.mk #[])), (.string (ByteArray.mk #[])), (.int .i64 0), (.int .i64 0), (.int .i64 0), (.int .i64 0), (.int .i64 0), (.int .i64 0)] [(0, 1, (.c (.raw (.int .i64 5)))), (1, 2, (.t 29)), (12, 1, (.c (.raw (.string (ByteArray.mk #[65, 78, 78])))))]⟩,
   ⟨(some 31), none, .call 14 [(.t 28), (.t 30)]⟩,
   ⟨(some 27), none, .mov (.t 31)⟩,
   ⟨(some 32), none, .extr (.t 27) 0⟩,
   ⟨(some 33), none, .extr (.t 27) 1⟩,
   ⟨(some 2), none, .mov (.t 32)⟩,
   ⟨(some 3), none, .mov (.t 33)⟩])
 (.seq (.reg [⟨(some 34), none, .mov (.t 1)⟩,
   ⟨(some 35), none, .build [(.int .i64 0), (.int .i64 0)] [(0, 1, (.c (.raw (.int .i64 1)))), (1, 1, (.c (.raw (.int .i64 1))))]⟩,
   ⟨(some 36), none, .build [(.int .i64 0), (.int .i64 0), (.int .i64 0), (.int .i64 0), (.int .i64 0), (.int .i64 0), (.int .i64 0), (.int .i64 0), (.int .i64 0), (.int .i64 0), (.int .i64 0), (.string (ByteArray.mk #[])), (.string (ByteArray.mk #[])), (.int .i64 0), (.int .i64 0), (.int .i64 0), (.int .i64 0), (.int .i64 0), (.int .i64 0)] [(0, 1, (.c (.raw (.int .i64 4)))), (1, 2, (.t 35)), (10, 1, (.c (.raw (.int .i64 3)))), (12, 1, (.c (.raw (.string (ByteArray.mk #[97, 110, 110]))))), (17, 1, (.c (.raw (.int .i64 9))))]⟩,
   ⟨(some 37), none, .call 11 [(.t 34), (.t 36)]⟩,
   ⟨(some 4), none, .mov (.t 37)⟩])
 (.seq (.reg [⟨(some 38), none, .mov (.t 1)⟩,
   ⟨(some 39), none, .build [(.int .i64 0), (.int .i64 0)] [(0, 1, (.c (.raw (.int .i64 1)))), (1, 1, (.c (.raw (.int .i64 1))))]⟩,
   ⟨(some 40), none, .build [(.int .i64 0), (.int .i64 0), (.int .i64 0), (.int .i64 0), (.int .i64 0), (.int .i64 0), (.int .i64 0), (.int .i64 0), (.int .i64 0), (.int .i64 0), (.int .i64 0), (.string (ByteArray.mk #[])), (.string (ByteArray.mk #[])), (.int .i64 0), (.int .i64 0), (.int .i64 0), (.int .i64 0), (.int .i64 0), (.int .i64 0)] [(0, 1, (.c (.raw (.int .i64 4)))), (1, 2, (.t 39)), (10, 1, (.c (.raw (.int .i64 2)))), (12, 1, (.c (.raw (.string (ByteArray.mk #[97, 110, 110]))))), (17, 1, (.c (.raw (.int .i64 9))))]⟩,
   ⟨(some 41), none, .call 11 [(.t 38), (.t 40)]⟩,
   ⟨(some 5), none, .mov (.t 41)⟩])
 (.seq (.reg [⟨(some 43), none, .mov (.t 1)⟩,
   ⟨(some 44), none, .build [(.int .i64 0), (.int .i64 0)] [(1, 1, (.c (.raw (.int .i64 3))))]⟩,
   ⟨(some 45), none, .build [(.int .i64 0), (.int .i64 0), (.int .i64 0), (.int .i64 0), (.int .i64 0), (.int .i64 0), (.int .i64 0)] [(0, 1, (.c (.raw (.int .i64 0)))), (1, 1, (.c (.raw (.int .i64 1))))]⟩,
   ⟨(some 46), none, .build [(.int .i64 0), (.int .i64 0), (.int .i64 0), (.int .i64 0), (.int .i64 0), (.int .i64 0), (.int .i64 0), (.int .i64 0), (.int .i64 0), (.int .i64 0), (.int .i64 0), (.string (ByteArray.mk #[])), (.string (ByteArray.mk #[])), (.int .i64 0), (.int .i64 0), (.int .i64 0), (.int .i64 0), (.int .i64 0), (.int .i64 0)] [(0, 1, (.c (.raw (.int .i64 6)))), (1, 2, (.t 44)), (3, 7, (.t 45)), (12, 1, (.c (.raw (.string (ByteArray.mk #[97, 110, 110]))))), (17, 1, (.c (.raw (.int .i64 6)))), (18, 1, (.c (.raw (.int .i64 9))))]⟩,
   ⟨(some 47), none, .call 14 [(.t 43), (.t 46)]⟩,
   ⟨(some 42), none, .mov (.t 47)⟩,
   ⟨(some 48), none, .extr (.t 42) 0⟩,
   ⟨(some 49), none, .extr (.t 42) 1⟩,
   ⟨(some 6), none, .mov (.t 48)⟩,
   ⟨(some 7), none, .mov (.t 49)⟩])
 (.seq (.reg [⟨(some 51), none, .mov (.t 1)⟩,
   ⟨(some 52), none, .build [(.int .i64 0), (.int .i64 0)] [(0, 1, (.c (.raw (.int .i64 1)))), (1, 1, (.c (.raw (.int .i64 1))))]⟩,
   ⟨(some 53), none, .build [(.int .i64 0), (.int .i64 0), (.int .i64 0), (.int .i64 0), (.int .i64 0), (.int .i64 0), (.int .i64 0)] [(0, 1, (.c (.raw (.int .i64 0)))), (1, 1, (.c (.raw (.int .i64 1))))]⟩,
   ⟨(some 54), none, .build [(.int .i64 0), (.int .i64 0), (.int .i64 0), (.int .i64 0), (.int .i64 0), (.int .i64 0), (.int .i64 0), (.int .i64 0), (.int .i64 0), (.int .i64 0), (.int .i64 0), (.string (ByteArray.mk #[])), (.string (ByteArray.mk #[])), (.int .i64 0), (.int .i64 0), (.int .i64 0), (.int .i64 0), (.int .i64 0), (.int .i64 0)] [(0, 1, (.c (.raw (.int .i64 6)))), (1, 2, (.t 52)), (3, 7, (.t 53)), (12, 1, (.c (.raw (.string (ByteArray.mk #[97, 110, 110]))))), (17, 1, (.c (.raw (.int .i64 6)))), (18, 1, (.c (.raw (.int .i64 9))))]⟩,
   ⟨(some 55), none, .call 14 [(.t 51), (.t 54)]⟩,
   ⟨(some 50), none, .mov (.t 55)⟩,
   ⟨(some 56), none, .extr (.t 50) 0⟩,
   ⟨(some 57), none, .extr (.t 50) 1⟩,
   ⟨(some 8), none, .mov (.t 56)⟩,
   ⟨(some 9), none, .mov (.t 57)⟩])
 (.seq (.reg [⟨(some 58), none, .mov (.t 1)⟩,
   ⟨(some 59), none, .call 17 [(.t 58), (.c (.raw (.string (ByteArray.mk #[65, 110, 110]))))]⟩,
   ⟨(some 10), none, .mov (.t 59)⟩])
 (.seq (.reg [⟨(some 60), none, .mov (.t 1)⟩,
   ⟨(some 61), none, .build [(.int .i64 0), (.int .i64 0)] [(0, 1, (.c (.raw (.int .i64 1)))), (1, 1, (.c (.raw (.int .i64 2))))]⟩,
   ⟨(some 62), none, .build [(.int .i64 0), (.int .i64 0), (.int .i64 0), (.int .i64 0), (.int .i64 0), (.int .i64 0), (.int .i64 0)] [(0, 1, (.c (.raw (.int .i64 3)))), (1, 1, (.c (.raw (.int .i64 1))))]⟩,
   ⟨(some 63), none, .build [(.int .i64 0), (.int .i64 0)] [(1, 1, (.c (.raw (.int .i64 3))))]⟩,
   ⟨(some 64), none, .build [(.int .i64 0), (.int .i64 0), (.int .i64 0), (.int .i64 0), (.int .i64 0), (.int .i64 0), (.int .i64 0), (.int .i64 0), (.int .i64 0), (.int .i64 0), (.int .i64 0), (.string (ByteArray.mk #[])), (.string (ByteArray.mk #[])), (.int .i64 0), (.int .i64 0), (.int .i64 0), (.int .i64 0), (.int .i64 0), (.int .i64 0)] [(0, 1, (.c (.raw (.int .i64 3)))), (1, 2, (.t 61)), (3, 7, (.t 62)), (10, 1, (.c (.raw (.int .i64 1)))), (15, 2, (.t 63))]⟩,
   ⟨(some 65), none, .call 11 [(.t 60), (.t 64)]⟩])
 (.seq (.reg [⟨(some 67), none, .mov (.t 1)⟩,
   ⟨(some 68), none, .build [(.int .i64 0), (.int .i64 0)] [(1, 1, (.c (.raw (.int .i64 1))))]⟩,
   ⟨(some 69), none, .call 12 [(.t 67), (.t 68)]⟩,
   ⟨(some 66), none, .mov (.t 69)⟩,
   ⟨(some 70), none, .extr (.t 66) 0⟩,
   ⟨(some 71), none, .extr (.t 66) 1⟩,
   ⟨(some 11), none, .new 28 [(.int .i64 0), (.int .i64 0)]⟩,
   ⟨none, none, .store (some 2) (.t 11) (.t 70)⟩,
   ⟨(some 12), none, .mov (.t 71)⟩])
 (.seq (.reg [⟨(some 73), none, .mov (.t 1)⟩,
   ⟨(some 74), none, .build [(.int .i64 0), (.int .i64 0)] [(1, 1, (.c (.raw (.int .i64 4))))]⟩,
   ⟨(some 75), none, .build [(.int .i64 0), (.int .i64 0), (.int .i64 0), (.int .i64 0), (.int .i64 0), (.int .i64 0), (.int .i64 0)] [(0, 1, (.c (.raw (.int .i64 3))))]⟩,
   ⟨(some 76), none, .build [(.int .i64 0), (.int .i64 0)] [(1, 1, (.c (.raw (.int .i64 1))))]⟩,
   ⟨(some 77), none, .build [(.int .i64 0), (.int .i64 0), (.int .i64 0), (.int .i64 0), (.int .i64 0), (.int .i64 0), (.int .i64 0), (.int .i64 0), (.int .i64 0), (.int .i64 0), (.int .i64 0), (.string (ByteArray.mk #[])), (.string (ByteArray.mk #[])), (.int .i64 0), (.int .i64 0), (.int .i64 0), (.int .i64 0), (.int .i64 0), (.int .i64 0)] [(0, 1, (.c (.raw (.int .i64 7)))), (1, 2, (.t 74)), (3, 7, (.t 75)), (13, 2, (.t 76))]⟩,
   ⟨(some 78), none, .call 14 [(.t 73), (.t 77)]⟩,
   ⟨(some 72), none, .mov (.t 78)⟩,
   ⟨(some 79), none, .extr (.t 72) 0⟩,
   ⟨(some 80), none, .extr (.t 72) 1⟩,
   ⟨(some 13), none, .mov (.t 79)⟩,
   ⟨(some 14), none, .mov (.t 80)⟩])
 (.seq (.reg [⟨(some 82), none, .mov (.t 1)⟩,
   ⟨(some 83), none, .build [(.int .i64 0), (.int .i64 0)] [(1, 1, (.c (.raw (.int .i64 1))))]⟩,
   ⟨(some 84), none, .call 15 [(.t 82), (.t 83)]⟩,
   ⟨(some 81), none, .mov (.t 84)⟩,
   ⟨(some 85), none, .extr (.t 81) 0⟩,
   ⟨(some 86), none, .extr (.t 81) 1⟩,
   ⟨(some 87), none, .extr (.t 81) 2⟩,
   ⟨(some 88), none, .extr (.t 81) 3⟩,
   ⟨(some 15), none, .new 28 [(.int .i64 0), (.int .i64 0)]⟩,
   ⟨none, none, .store (some 2) (.t 15) (.t 85)⟩,
   ⟨(some 16), none, .mov (.t 86)⟩,
   ⟨(some 17), none, .mov (.t 87)⟩,
   ⟨(some 18), none, .mov (.t 88)⟩])
 (.seq (.reg [⟨(some 90), none, .mov (.t 1)⟩,
   ⟨(some 91), none, .build [(.int .i64 0), (.int .i64 0)] [(1, 1, (.c (.raw (.int .i64 5))))]⟩,
   ⟨(some 92), none, .build [(.int .i64 0), (.int .i64 0), (.int .i64 0), (.int .i64 0), (.int .i64 0), (.int .i64 0), (.int .i64 0)] [(0, 1, (.c (.raw (.int .i64 1))))]⟩,
   ⟨(some 93), none, .build [(.int .i64 0), (.int .i64 0)] [(1, 1, (.c (.raw (.int .i64 1))))]⟩,
   ⟨(some 94), none, .build [(.int .i64 0), (.int .i64 0), (.int .i64 0), (.int .i64 0), (.int .i64 0), (.int .i64 0), (.int .i64 0), (.int .i64 0), (.int .i64 0), (.int .i64 0), (.int .i64 0), (.string (ByteArray.mk #[])), (.string (ByteArray.mk #[])), (.int .i64 0), (.int .i64 0), (.int .i64 0), (.int .i64 0), (.int .i64 0), (.int .i64 0)] [(0, 1, (.c (.raw (.int .i64 7)))), (1, 2, (.t 91)), (3, 7, (.t 92)), (13, 2, (.t 93))]⟩,
   ⟨(some 95), none, .call 14 [(.t 90), (.t 94)]⟩,
   ⟨(some 89), none, .mov (.t 95)⟩,
   ⟨(some 96), none, .extr (.t 89) 0⟩,
   ⟨(some 97), none, .extr (.t 89) 1⟩,
   ⟨(some 19), none, .mov (.t 96)⟩,
   ⟨(some 20), none, .mov (.t 97)⟩])
 (.seq (.reg [⟨(some 99), none, .mov (.t 1)⟩,
   ⟨(some 100), none, .build [(.int .i64 0), (.int .i64 0)] [(1, 1, (.c (.raw (.int .i64 5))))]⟩,
   ⟨(some 101), none, .build [(.int .i64 0), (.int .i64 0), (.int .i64 0), (.int .i64 0), (.int .i64 0), (.int .i64 0), (.int .i64 0)] [(0, 1, (.c (.raw (.int .i64 9))))]⟩,
   ⟨(some 102), none, .build [(.int .i64 0), (.int .i64 0)] [(1, 1, (.c (.raw (.int .i64 1))))]⟩,
   ⟨(some 103), none, .build [(.int .i64 0), (.int .i64 0), (.int .i64 0), (.int .i64 0), (.int .i64 0), (.int .i64 0), (.int .i64 0), (.int .i64 0), (.int .i64 0), (.int .i64 0), (.int .i64 0), (.string (ByteArray.mk #[])), (.string (ByteArray.mk #[])), (.int .i64 0), (.int .i64 0), (.int .i64 0), (.int .i64 0), (.int .i64 0), (.int .i64 0)] [(0, 1, (.c (.raw (.int .i64 7)))), (1, 2, (.t 100)), (3, 7, (.t 101)), (13, 2, (.t 102))]⟩,
   ⟨(some 104), none, .call 14 [(.t 99), (.t 103)]⟩,
   ⟨(some 98), none, .mov (.t 104)⟩,
   ⟨(some 105), none, .extr (.t 98) 0⟩,
   ⟨(some 106), none, .extr (.t 98) 1⟩,
   ⟨(some 21), none, .mov (.t 105)⟩,
   ⟨(some 22), none, .mov (.t 106)⟩])
 (.seq (.reg [⟨(some 107), none, .mov (.t 1)⟩,
   ⟨(some 108), none, .build [(.int .i64 0), (.int .i64 0)] [(1, 1, (.c (.raw (.int .i64 9))))]⟩,
   ⟨(some 109), none, .build [(.int .i64 0), (.int .i64 0)] [(1, 1, (.c (.raw (.int .i64 1))))]⟩,
   ⟨(some 110), none, .build [(.int .i64 0), (.int .i64 0), (.int .i64 0), (.int .i64 0), (.int .i64 0), (.int .i64 0), (.int .i64 0), (.int .i64 0), (.int .i64 0), (.int .i64 0), (.int .i64 0), (.string (ByteArray.mk #[])), (.string (ByteArray.mk #[])), (.int .i64 0), (.int .i64 0), (.int .i64 0), (.int .i64 0), (.int .i64 0), (.int .i64 0)] [(0, 1, (.c (.raw (.int .i64 7)))), (1, 2, (.t 108)), (13, 2, (.t 109))]⟩,
   ⟨(some 111), none, .call 11 [(.t 107), (.t 110)]⟩,
   ⟨(some 23), none, .mov (.t 111)⟩])
 (.seq (.reg [⟨(some 112), none, .mov (.t 2)⟩,
   ⟨(some 113), none, .un .not (.t 112)⟩,
   ⟨(some 114), none, .mov (.t 113)⟩,
   ⟨(some 115), (some (114, true)), .mov (.t 4)⟩,
   ⟨(some 116), (some (114, true)), .bin .eql .no (.t 115) (.c (.raw (.int .i64 8)))⟩,
   ⟨(some 117), none, .pick (.t 114) (.t 116) (.c (.kb false))⟩,
   ⟨(some 118), none, .mov (.t 117)⟩,
   ⟨(some 119), (some (118, true)), .mov (.t 5)⟩,
   ⟨(some 120), (some (118, true)), .bin .eql .no (.t 119) (.c (.raw (.int .i64 0)))⟩,
   ⟨(some 121), none, .pick (.t 118) (.t 120) (.c (.kb false))⟩,
   ⟨(some 122), none, .mov (.t 121)⟩,
   ⟨(some 123), (some (122, true)), .mov (.t 6)⟩,
   ⟨(some 124), none, .pick (.t 122) (.t 123) (.c (.kb false))⟩,
   ⟨(some 125), none, .mov (.t 124)⟩,
   ⟨(some 126), (some (125, true)), .mov (.t 8)⟩,
   ⟨(some 127), (some (125, true)), .un .not (.t 126)⟩,
   ⟨(some 128), none, .pick (.t 125) (.t 127) (.c (.kb false))⟩,
   ⟨(some 129), none, .mov (.t 128)⟩,
   ⟨(some 130), (some (129, true)), .mov (.t 10)⟩,
   ⟨(some 131), (some (129, true)), .bin .eql .no (.t 130) (.c (.raw (.int .i64 3)))⟩,
   ⟨(some 132), none, .pick (.t 129) (.t 131) (.c (.kb false))⟩,
   ⟨(some 133), none, .mov (.t 132)⟩,
   ⟨(some 134), (some (133, true)), .load (some 2) (.t 11)⟩,
   ⟨(some 135), (some (133, true)), .build [(.int .i64 0), (.int .i64 0)] [(1, 1, (.c (.raw (.int .i64 2))))]⟩,
   ⟨(some 136), (some (133, true)), .bin .eql (.agg [.i, .i]) (.t 134) (.t 135)⟩,
   ⟨(some 137), none, .pick (.t 133) (.t 136) (.c (.kb false))⟩,
   ⟨(some 138), none, .mov (.t 137)⟩,
   ⟨(some 139), (some (138, true)), .mov (.t 13)⟩,
   ⟨(some 140), none, .pick (.t 138) (.t 139) (.c (.kb false))⟩,
   ⟨(some 141), none, .mov (.t 140)⟩,
   ⟨(some 142), (some (141, true)), .load (some 2) (.t 15)⟩,
   ⟨(some 143), (some (141, true)), .build [(.int .i64 0), (.int .i64 0)] [(1, 1, (.c (.raw (.int .i64 3))))]⟩,
   ⟨(some 144), (some (141, true)), .bin .eql (.agg [.i, .i]) (.t 142) (.t 143)⟩,
   ⟨(some 145), none, .pick (.t 141) (.t 144) (.c (.kb false))⟩,
   ⟨(some 146), none, .mov (.t 145)⟩,
   ⟨(some 147), (some (146, true)), .mov (.t 17)⟩,
   ⟨(some 148), (some (146, true)), .bin .eql .no (.t 147) (.c (.raw (.int .i64 7)))⟩,
   ⟨(some 149), none, .pick (.t 146) (.t 148) (.c (.kb false))⟩,
   ⟨(some 150), none, .mov (.t 149)⟩,
   ⟨(some 151), (some (150, true)), .mov (.t 19)⟩,
   ⟨(some 152), (some (150, true)), .un .not (.t 151)⟩,
   ⟨(some 153), none, .pick (.t 150) (.t 152) (.c (.kb false))⟩,
   ⟨(some 154), none, .mov (.t 153)⟩,
   ⟨(some 155), (some (154, true)), .mov (.t 21)⟩,
   ⟨(some 156), (some (154, true)), .un .not (.t 155)⟩,
   ⟨(some 157), none, .pick (.t 154) (.t 156) (.c (.kb false))⟩,
   ⟨(some 158), none, .mov (.t 157)⟩,
   ⟨(some 159), (some (158, true)), .mov (.t 22)⟩,
   ⟨(some 160), (some (158, true)), .bin .eql .no (.t 159) (.c (.raw (.int .i64 8)))⟩,
   ⟨(some 161), none, .pick (.t 158) (.t 160) (.c (.kb false))⟩,
   ⟨(some 162), none, .mov (.t 161)⟩,
   ⟨(some 163), (some (162, true)), .mov (.t 23)⟩,
   ⟨(some 164), (some (162, true)), .bin .eql .no (.t 163) (.c (.raw (.int .i64 1)))⟩,
   ⟨(some 165), none, .pick (.t 162) (.t 164) (.c (.kb false))⟩,
   ⟨(some 166), none, .mov (.t 165)⟩,
   ⟨(some 167), (some (166, true)), .build [(.int .i64 0), (.int .i64 0), (.int .i64 0), (.int .i64 0), (.int .i64 0), (.int .i64 0), (.int .i64 0), (.int .i64 0), (.int .i64 0), (.int .i64 0), (.int .i64 0), (.string (ByteArray.mk #[])), (.string (ByteArray.mk #[])), (.int .i64 0), (.int .i64 0), (.int .i64 0), (.int .i64 0), (.int .i64 0), (.int .i64 0)] [(0, 1, (.c (.raw (.int .i64 6))))]⟩,
   ⟨(some 168), (some (166, true)), .call 18 [(.t 167)]⟩,
   ⟨(some 169), none, .pick (.t 166) (.t 168) (.c (.kb false))⟩,
   ⟨(some 170), none, .mov (.t 169)⟩,
   ⟨(some 171), (some (170, true)), .build [(.int .i64 0), (.int .i64 0), (.int .i64 0), (.int .i64 0), (.int .i64 0), (.int .i64 0), (.int .i64 0), (.int .i64 0), (.int .i64 0), (.int .i64 0), (.int .i64 0), (.string (ByteArray.mk #[])), (.string (ByteArray.mk #[])), (.int .i64 0), (.int .i64 0), (.int .i64 0), (.int .i64 0), (.int .i64 0), (.int .i64 0)] [(0, 1, (.c (.raw (.int .i64 3))))]⟩,
   ⟨(some 172), (some (170, true)), .call 18 [(.t 171)]⟩,
   ⟨(some 173), (some (170, true)), .un .not (.t 172)⟩,
   ⟨(some 174), none, .pick (.t 170) (.t 173) (.c (.kb false))⟩,
   ⟨(some 175), none, .mov (.t 174)⟩,
   ⟨(some 176), (some (175, true)), .build [(.int .i64 0), (.int .i64 0), (.int .i64 0), (.int .i64 0), (.int .i64 0), (.int .i64 0), (.int .i64 0), (.int .i64 0), (.int .i64 0), (.int .i64 0), (.int .i64 0), (.string (ByteArray.mk #[])), (.string (ByteArray.mk #[])), (.int .i64 0), (.int .i64 0), (.int .i64 0), (.int .i64 0), (.int .i64 0), (.int .i64 0)] []⟩,
   ⟨(some 177), (some (175, true)), .call 19 [(.t 176)]⟩,
   ⟨(some 178), (some (175, true)), .un .not (.t 177)⟩,
   ⟨(some 179), none, .pick (.t 175) (.t 178) (.c (.kb false))⟩,
   ⟨(some 0), none, .mov (.t 179)⟩])
 .ret)))))))))))))))))
theorem i_rostrumlaw24_AuctKnown : Is Tryd.prog 5 180 [.t 0] c_rostrumlaw24_AuctKnown := ⟨Tryd.f5, _, p_rostrumlaw24_AuctKnown, rfl, rfl, by kernel_rfl, by kernel_rfl, rfl⟩
def p_rostrumlaw24_AuctOrder : List (Nat × Pl) := [(11, (.fl 0 (.fl 1 (.fr 2 (.fl 3 (.fr 4 (.fl 5 (.fl 6 (.fr 7 (.fl 8 (.fr 9 (.fl 10 .done))))))))))))]
def c_rostrumlaw24_AuctOrder : VCode :=
 (.seq (.reg [⟨(some 6), none, .mov (.c (.kb false))⟩])
 (.seq (.seq (.reg [⟨(some 12), none, .call 9 []⟩,
   ⟨(some 13), none, .un .not (.t 12)⟩])
 (.cond (.t 13)
  (.seq (.reg [⟨(some 6), none, .mov (.c (.kb false))⟩])
  .ret)
  .skip))
 (.seq (.seq (.reg [⟨(some 14), none, .mov (.t 0)⟩,
   ⟨(some 15), none, .len .sl (.t 14)⟩,
   ⟨(some 16), none, .bin .gtr .no (.t 15) (.c (.raw (.int .i64 20)))⟩,
   ⟨(some 17), none, .mov (.t 16)⟩,
   ⟨(some 18), (some (17, false)), .mov (.t 1)⟩,
   ⟨(some 19), (some (17, false)), .len .sl (.t 18)⟩,
   ⟨(some 20), (some (17, false)), .bin .gtr .no (.t 19) (.c (.raw (.int .i64 10)))⟩,
   ⟨(some 21), none, .pick (.t 17) (.c (.kb true)) (.t 20)⟩,
   ⟨(some 22), none, .mov (.t 21)⟩,
   ⟨(some 23), (some (22, false)), .mov (.t 2)⟩,
   ⟨(some 24), (some (22, false)), .len .sl (.t 23)⟩,
   ⟨(some 25), (some (22, false)), .bin .gtr .no (.t 24) (.c (.raw (.int .i64 200)))⟩,
   ⟨(some 26), none, .pick (.t 22) (.c (.kb true)) (.t 25)⟩])
 (.cond (.t 26)
  (.seq (.reg [⟨(some 6), none, .mov (.c (.kb true))⟩])
  .ret)
  .skip))
 (.seq (.seq (.reg [⟨(some 7), none, .mov (.c (.raw (.int .i64 0)))⟩])
 (.block 0 (.loop (.seq (.seq (.reg [⟨(some 27), none, .mov (.t 7)⟩,
    ⟨(some 28), none, .mov (.t 0)⟩,
    ⟨(some 29), none, .len .sl (.t 28)⟩,
    ⟨(some 30), none, .bin .lss .no (.t 27) (.t 29)⟩])
  (.cond (.t 30)
   .skip
   (.exit 0)))
  (.seq (.block 1 (.seq (.seq (.reg [⟨(some 8), none, .mov (.c (.raw (.int .i64 0)))⟩])
  (.block 2 (.loop (.seq (.seq (.reg [⟨(some 33), none, .mov (.t 8)⟩,
     ⟨(some 34), none, .mov (.t 7)⟩,
     ⟨(some 35), none, .bin .lss .no (.t 33) (.t 34)⟩])
   (.cond (.t 35)
    .skip
    (.exit 2)))
   (.seq (.block 3 (.seq (.draw [⟨(some 38), none, .mov (.t 0)⟩,
     ⟨(some 39), none, .mov (.t 7)⟩,
     ⟨(some 40), none, .iaddr 19 none (.t 38) (.t 39)⟩,
     ⟨(some 41), none, .faddr 1 (.t 40)⟩,
     ⟨(some 42), none, .load (some 2) (.t 41)⟩,
     ⟨(some 43), none, .mov (.t 0)⟩,
     ⟨(some 44), none, .mov (.t 8)⟩,
     ⟨(some 45), none, .iaddr 19 none (.t 43) (.t 44)⟩,
     ⟨(some 46), none, .faddr 1 (.t 45)⟩,
     ⟨(some 47), none, .load (some 2) (.t 46)⟩,
     ⟨(some 48), none, .bin .eql (.agg [.i, .i]) (.t 42) (.t 47)⟩]
     (.fl 0 (.fl 1 (.fr 2 (.fl 3 (.fr 4 (.fl 5 (.fl 6 (.fr 7 (.fl 8 (.fr 9 (.fl 10 .done))))))))))))
   (.cond (.t 48)
    (.seq (.reg [⟨(some 6), none, .mov (.c (.kb true))⟩])
    .ret)
    .skip)))
   (.reg [⟨(some 36), none, .mov (.t 8)⟩,
     ⟨(some 37), none, .bin .add .no (.t 36) (.c (.raw (.int .i64 1)))⟩,
     ⟨(some 8), none, .mov (.t 37)⟩]))))))
  (.seq (.reg [⟨(some 49), none, .mov (.t 0)⟩,
    ⟨(some 50), none, .mov (.t 7)⟩,
    ⟨(some 51), none, .iaddr 19 none (.t 49) (.t 50)⟩,
    ⟨(some 52), none, .load (some 19) (.t 51)⟩,
    ⟨(some 53), none, .call 20 [(.t 52)]⟩,
    ⟨(some 54), none, .mov (.t 53)⟩,
    ⟨(some 55), (some (54, false)), .mov (.t 0)⟩,
    ⟨(some 56), (some (54, false)), .mov (.t 7)⟩,
    ⟨(some 57), (some (54, false)), .iaddr 19 none (.t 55) (.t 56)⟩,
    ⟨(some 58), (some (54, false)), .load (some 19) (.t 57)⟩,
    ⟨(some 59), (some (54, false)), .call 18 [(.t 58)]⟩,
    ⟨(some 60), none, .pick (.t 54) (.c (.kb true)) (.t 59)⟩])
  (.cond (.t 60)
   (.seq (.reg [⟨(some 6), none, .mov (.c (.kb true))⟩])
   .ret)
   .skip))))
  (.reg [⟨(some 31), none, .mov (.t 7)⟩,
    ⟨(some 32), none, .bin .add .no (.t 31) (.c (.raw (.int .i64 1)))⟩,
    ⟨(some 7), none, .mov (.t 32)⟩]))))))
 (.seq (.seq (.reg [⟨(some 9), none, .mov (.c (.raw (.int .i64 0)))⟩])
 (.block 4 (.loop (.seq (.seq (.reg [⟨(some 61), none, .mov (.t 9)⟩,
    ⟨(some 62), none, .mov (.t 1)⟩,
    ⟨(some 63), none, .len .sl (.t 62)⟩,
    ⟨(some 64), none, .bin .lss .no (.t 61) (.t 63)⟩])
  (.cond (.t 64)
   .skip
   (.exit 4)))
  (.seq (.block 5 (.seq (.reg [⟨(some 67), none, .mov (.t 1)⟩,
    ⟨(some 68), none, .mov (.t 9)⟩,
    ⟨(some 69), none, .iaddr 19 none (.t 67) (.t 68)⟩,
    ⟨(some 70), none, .load (some 19) (.t 69)⟩,
    ⟨(some 71), none, .call 20 [(.t 70)]⟩,
    ⟨(some 72), none, .mov (.t 71)⟩,
    ⟨(some 73), (some (72, false)), .mov (.t 1)⟩,
    ⟨(some 74), (some (72, false)), .mov (.t 9)⟩,
    ⟨(some 75), (some (72, false)), .iaddr 19 none (.t 73) (.t 74)⟩,
    ⟨(some 76), (some (72, false)), .load (some 19) (.t 75)⟩,
    ⟨(some 77), (some (72, false)), .call 18 [(.t 76)]⟩,
    ⟨(some 78), (some (72, false)), .un .not (.t 77)⟩,
    ⟨(some 79), none, .pick (.t 72) (.c (.kb true)) (.t 78)⟩])
  (.cond (.t 79)
   (.seq (.reg [⟨(some 6), none, .mov (.c (.kb true))⟩])
   .ret)
   .skip)))
  (.reg [⟨(some 65), none, .mov (.t 9)⟩,
    ⟨(some 66), none, .bin .add .no (.t 65) (.c (.raw (.int .i64 1)))⟩,
    ⟨(some 9), none, .mov (.t 66)⟩]))))))
 (.seq (.reg [⟨(some 80), none, .call 10 []⟩,
   ⟨(some 81), none, .call 10 []⟩,
   ⟨(some 10), none, .mov (.t 80)⟩,
   ⟨(some 11), none, .mov (.t 81)⟩])
 (.seq (.reg [⟨(some 82), none, .mov (.t 10)⟩,
   ⟨(some 83), none, .mov (.t 0)⟩,
   ⟨(some 84), none, .mov (.t 1)⟩,
   ⟨(some 85), none, .call 21 [(.t 82), (.t 83), (.t 84), (.c (.raw (.slice none 0 0)))]⟩])
 (.seq (.reg [⟨(some 86), none, .mov (.t 11)⟩,
   ⟨(some 87), none, .mov (.t 0)⟩,
   ⟨(some 88), none, .mov (.t 1)⟩,
   ⟨(some 89), none, .mov (.t 2)⟩,
   ⟨(some 90), none, .call 21 [(.t 86), (.t 87), (.t 88), (.t 89)]⟩])
 (.seq (.reg [⟨(some 91), none, .mov (.t 10)⟩,
   ⟨(some 92), none, .mov (.t 11)⟩,
   ⟨(some 93), none, .call 22 [(.t 91), (.t 92)]⟩,
   ⟨(some 94), none, .mov (.t 93)⟩,
   ⟨(some 95), (some (94, true)), .mov (.t 10)⟩,
   ⟨(some 96), (some (94, true)), .call 23 [(.t 95)]⟩,
   ⟨(some 97), (some (94, true)), .mov (.t 11)⟩,
   ⟨(some 98), (some (94, true)), .call 23 [(.t 97)]⟩,
   ⟨(some 99), (some (94, true)), .bin .eql .no (.t 96) (.t 98)⟩,
   ⟨(some 100), none, .pick (.t 94) (.t 99) (.c (.kb false))⟩,
   ⟨(some 101), none, .mov (.t 100)⟩,
   ⟨(some 102), (some (101, true)), .mov (.t 10)⟩,
   ⟨(some 103), (some (101, true)), .call 24 [(.t 102)]⟩,
   ⟨(some 104), (some (101, true)), .mov (.t 11)⟩,
   ⟨(some 105), (some (101, true)), .call 24 [(.t 104)]⟩,
   ⟨(some 106), (some (101, true)), .bin .eql (.agg [.i, .i, .i, .i, .i, .i, .i]) (.t 103) (.t 105)⟩,
   ⟨(some 107), none, .pick (.t 101) (.t 106) (.c (.kb false))⟩,
   ⟨(some 6), none, .mov (.t 107)⟩])
 .ret)))))))))
theorem i_rostrumlaw24_AuctOrder : Is Tryd.prog 6 108 [.t 6] c_rostrumlaw24_AuctOrder := ⟨Tryd.f6, _, p_rostrumlaw24_AuctOrder, rfl, rfl, by kernel_rfl, by kernel_rfl, rfl⟩
def p_rostrumlaw24_AuctUsers : List (Nat × Pl) := [(18, (.fl 0 (.fl 1 (.fl 2 (.fl 3 (.fr 4 (.fr 5 (.fl 7 (.fl 8 (.fr 9 (.fr 10 (.st 6 [9, 10] (.st 11 [] (.fl 12 (.fl 13 (.fl 14 .done)))))))))))))))), (28, (.fl 0 (.fl 1 (.fl 2 (.fr 3 (.fr 4 (.fl 5 (.fl 6 (.fr 7 (.fr 8 (.fl 9 .done)))))))))))]
def c_rostrumlaw24_AuctUsers : VCode :=
 (.seq (.reg [⟨(some 2), none, .mov (.c (.kb false))⟩])
 (.seq (.seq (.reg [⟨(some 12), none, .call 9 []⟩,
   ⟨(some 13), none, .un .not (.t 12)⟩])
 (.cond (.t 13)
  (.seq (.reg [⟨(some 2), none, .mov (.c (.kb false))⟩])
  .ret)
  .skip))
 (.seq (.seq (.reg [⟨(some 14), none, .mov (.t 0)⟩,
   ⟨(some 15), none, .len .sl (.t 14)⟩,
   ⟨(some 16), none, .bin .gtr .no (.t 15) (.c (.raw (.int .i64 15)))⟩])
 (.cond (.t 16)
  (.seq (.reg [⟨(some 2), none, .mov (.c (.kb true))⟩])
  .ret)
  .skip))
 (.seq (.reg [⟨(some 17), none, .call 10 []⟩,
   ⟨(some 3), none, .mov (.t 17)⟩])
 (.seq (.seq (.reg [⟨(some 18), none, .mov (.t 3)⟩,
   ⟨(some 19), none, .bin .eql .p (.t 18) (.c (.raw (.pointer none)))⟩])
 (.cond (.t 19)
  (.seq (.reg [⟨(some 2), none, .mov (.c (.kb false))⟩])
  .ret)
  .skip))
 (.seq (.reg [⟨(some 4), none, .mov (.c (.raw (.int .i64 0)))⟩])
 (.seq (.seq (.reg [⟨(some 5), none, .mov (.c (.raw (.int .i64 0)))⟩])
 (.block 0 (.loop (.seq (.seq (.reg [⟨(some 20), none, .mov (.t 5)⟩,
    ⟨(some 21), none, .mov (.t 0)⟩,
    ⟨(some 22), none, .len .sl (.t 21)⟩,
    ⟨(some 23), none, .bin .lss .no (.t 20) (.t 22)⟩])
  (.cond (.t 23)
   .skip
   (.exit 0)))
  (.seq (.block 1 (.seq (.seq (.reg [⟨(some 26), none, .mov (.t 0)⟩,
    ⟨(some 27), none, .mov (.t 5)⟩,
    ⟨(some 28), none, .iaddr 1 none (.t 26) (.t 27)⟩,
    ⟨(some 29), none, .load none (.t 28)⟩,
    ⟨(some 30), none, .call 25 [(.t 29)]⟩,
    ⟨(some 31), none, .un .not (.t 30)⟩])
  (.cond (.t 31)
   (.seq (.reg [⟨(some 2), none, .mov (.c (.kb true))⟩])
   .ret)
   .skip))
  (.seq (.reg [⟨(some 6), none, .mov (.c (.kb true))⟩])
  (.seq (.seq (.reg [⟨(some 7), none, .mov (.c (.raw (.int .i64 0)))⟩])
  (.block 2 (.loop (.seq (.seq (.reg [⟨(some 32), none, .mov (.t 7)⟩,
     ⟨(some 33), none, .mov (.t 5)⟩,
     ⟨(some 34), none, .bin .lss .no (.t 32) (.t 33)⟩])
   (.cond (.t 34)
    .skip
    (.exit 2)))
   (.seq (.block 3 (.draw [⟨(some 37), none, .mov (.t 6)⟩,
     ⟨(some 38), none, .mov (.t 37)⟩,
     ⟨(some 39), (some (38, true)), .mov (.t 0)⟩,
     ⟨(some 40), (some (38, true)), .mov (.t 7)⟩,
     ⟨(some 41), (some (38, true)), .iaddr 1 none (.t 39) (.t 40)⟩,
     ⟨(some 42), (some (38, true)), .load none (.t 41)⟩,
     ⟨(some 43), (some (38, true)), .call 26 [(.t 42)]⟩,
     ⟨(some 44), (some (38, true)), .mov (.t 0)⟩,
     ⟨(some 45), (some (38, true)), .mov (.t 5)⟩,
     ⟨(some 46), (some (38, true)), .iaddr 1 none (.t 44) (.t 45)⟩,
     ⟨(some 47), (some (38, true)), .load none (.t 46)⟩,
     ⟨(some 48), (some (38, true)), .call 26 [(.t 47)]⟩,
     ⟨(some 49), (some (38, true)), .bin .neq .no (.t 43) (.t 48)⟩,
     ⟨(some 50), none, .pick (.t 38) (.t 49) (.c (.kb false))⟩,
     ⟨(some 6), none, .mov (.t 50)⟩]
     (.fl 0 (.fl 1 (.fl 2 (.fl 3 (.fr 4 (.fr 5 (.fl 7 (.fl 8 (.fr 9 (.fr 10 (.st 6 [9, 10] (.st 11 [] (.fl 12 (.fl 13 (.fl 14 .done)))))))))))))))))
   (.reg [⟨(some 35), none, .mov (.t 7)⟩,
     ⟨(some 36), none, .bin .add .no (.t 35) (.c (.raw (.int .i64 1)))⟩,
     ⟨(some 7), none, .mov (.t 36)⟩]))))))
  (.seq (.reg [⟨(some 52), none, .mov (.t 3)⟩,
    ⟨(some 53), none, .mov (.t 5)⟩,
    ⟨(some 54), none, .bin .add .no (.t 53) (.c (.raw (.int .i64 1)))⟩,
    ⟨(some 55), none, .build [(.int .i64 0), (.int .i64 0)] [(1, 1, (.t 54))]⟩,
    ⟨(some 56), none, .mov (.t 0)⟩,
    ⟨(some 57), none, .mov (.t 5)⟩,
    ⟨(some 58), none, .iaddr 1 none (.t 56) (.t 57)⟩,
    ⟨(some 59), none, .load none (.t 58)⟩,
    ⟨(some 60), none, .build [(.int .i64 0), (.int .i64 0), (.int .i64 0), (.int .i64 0), (.int .i64 0), (.int .i64 0), (.int .i64 0), (.int .i64 0), (.int .i64 0), (.int .i64 0), (.int .i64 0), (.string (ByteArray.mk #[])), (.string (ByteArray.mk #[])), (.int .i64 0), (.int .i64 0), (.int .i64 0), (.int .i64 0), (.int .i64 0), (.int .i64 0)] [(0, 1, (.c (.raw (.int .i64 5)))), (1, 2, (.t 55)), (12, 1, (.t 59))]⟩,
    ⟨(some 61), none, .call 14 [(.t 52), (.t 60)]⟩,
    ⟨(some 51), none, .mov (.t 61)⟩,
    ⟨(some 62), none, .extr (.t 51) 0⟩,
    ⟨(some 63), none, .extr (.t 51) 1⟩,
    ⟨(some 8), none, .mov (.t 62)⟩,
    ⟨(some 9), none, .mov (.t 63)⟩])
  (.seq (.seq (.reg [⟨(some 64), none, .mov (.t 9)⟩,
    ⟨(some 65), none, .bin .neq .no (.t 64) (.c (.raw (.int .i64 0)))⟩,
    ⟨(some 66), none, .mov (.t 65)⟩,
    ⟨(some 67), (some (66, false)), .mov (.t 8)⟩,
    ⟨(some 68), (some (66, false)), .mov (.t 6)⟩,
    ⟨(some 69), (some (66, false)), .bin .neq .b (.t 67) (.t 68)⟩,
    ⟨(some 70), none, .pick (.t 66) (.c (.kb true)) (.t 69)⟩])
  (.cond (.t 70)
   (.seq (.reg [⟨(some 2), none, .mov (.c (.kb false))⟩])
   .ret)
   .skip))
  (.seq (.reg [⟨(some 71), none, .mov (.t 8)⟩])
  (.cond (.t 71)
   (.reg [⟨(some 72), none, .mov (.t 4)⟩,
     ⟨(some 73), none, .bin .add .no (.t 72) (.c (.raw (.int .i64 1)))⟩,
     ⟨(some 4), none, .mov (.t 73)⟩])
   .skip))))))))
  (.reg [⟨(some 24), none, .mov (.t 5)⟩,
    ⟨(some 25), none, .bin .add .no (.t 24) (.c (.raw (.int .i64 1)))⟩,
    ⟨(some 5), none, .mov (.t 25)⟩]))))))
 (.seq (.reg [⟨(some 74), none, .mov (.t 3)⟩,
   ⟨(some 75), none, .call 27 [(.t 74)]⟩,
   ⟨(some 10), none, .mov (.t 75)⟩])
 (.seq (.seq (.reg [⟨(some 11), none, .mov (.c (.raw (.int .i64 1)))⟩])
 (.block 4 (.loop (.seq (.seq (.reg [⟨(some 76), none, .mov (.t 11)⟩,
    ⟨(some 77), none, .mov (.t 10)⟩,
    ⟨(some 78), none, .len .sl (.t 77)⟩,
    ⟨(some 79), none, .bin .lss .no (.t 76) (.t 78)⟩])
  (.cond (.t 79)
   .skip
   (.exit 4)))
  (.seq (.block 5 (.seq (.draw [⟨(some 82), none, .mov (.t 10)⟩,
    ⟨(some 83), none, .mov (.t 11)⟩,
    ⟨(some 84), none, .bin .sub .no (.t 83) (.c (.raw (.int .i64 1)))⟩,
    ⟨(some 85), none, .iaddr 1 none (.t 82) (.t 84)⟩,
    ⟨(some 86), none, .load none (.t 85)⟩,
    ⟨(some 87), none, .mov (.t 10)⟩,
    ⟨(some 88), none, .mov (.t 11)⟩,
    ⟨(some 89), none, .iaddr 1 none (.t 87) (.t 88)⟩,
    ⟨(some 90), none, .load none (.t 89)⟩,
    ⟨(some 91), none, .bin .geq .no (.t 86) (.t 90)⟩]
    (.fl 0 (.fl 1 (.fl 2 (.fr 3 (.fr 4 (.fl 5 (.fl 6 (.fr 7 (.fr 8 (.fl 9 .done)))))))))))
  (.cond (.t 91)
   (.seq (.reg [⟨(some 2), none, .mov (.c (.kb false))⟩])
   .ret)
   .skip)))
  (.reg [⟨(some 80), none, .mov (.t 11)⟩,
    ⟨(some 81), none, .bin .add .no (.t 80) (.c (.raw (.int .i64 1)))⟩,
    ⟨(some 11), none, .mov (.t 81)⟩]))))))
 (.seq (.reg [⟨(some 92), none, .mov (.t 10)⟩,
   ⟨(some 93), none, .len .sl (.t 92)⟩,
   ⟨(some 94), none, .mov (.t 4)⟩,
   ⟨(some 95), none, .bin .eql .no (.t 93) (.t 94)⟩,
   ⟨(some 96), none, .mov (.t 95)⟩,
   ⟨(some 97), (some (96, true)), .mov (.t 3)⟩,
   ⟨(some 98), (some (96, true)), .call 23 [(.t 97)]⟩,
   ⟨(some 99), (some (96, true)), .mov (.t 0)⟩,
   ⟨(some 100), (some (96, true)), .len .sl (.t 99)⟩,
   ⟨(some 101), (some (96, true)), .bin .eql .no (.t 98) (.t 100)⟩,
   ⟨(some 102), none, .pick (.t 96) (.t 101) (.c (.kb false))⟩,
   ⟨(some 2), none, .mov (.t 102)⟩])
 .ret))))))))))
theorem i_rostrumlaw24_AuctUsers : Is Tryd.prog 7 103 [.t 2] c_rostrumlaw24_AuctUsers := ⟨Tryd.f7, _, p_rostrumlaw24_AuctUsers, rfl, rfl, by kernel_rfl, by kernel_rfl, rfl⟩
def p_rostrumlaw24_AuctMoney : List (Nat × Pl) := [(14, (.fl 0 (.fr 1 (.fl 2 (.fl 3 (.fl 4 (.fr 5 (.fl 6 (.fl 7 (.fr 8 (.st 9 [5] (.fl 10 (.fl 11 .done))))))))))))), (30, (.fl 0 (.fl 1 (.fl 2 (.fr 3 (.fr 4 (.fr 5 (.fl 6 (.fl 7 (.fr 8 (.st 9 [] .done)))))))))))]
def c_rostrumlaw24_AuctMoney : VCode :=
 (.seq (.reg [⟨(some 2), none, .mov (.c (.kb false))⟩])
 (.seq (.seq (.reg [⟨(some 16), none, .call 9 []⟩,
   ⟨(some 17), none, .un .not (.t 16)⟩])
 (.cond (.t 17)
  (.seq (.reg [⟨(some 2), none, .mov (.c (.kb false))⟩])
  .ret)
  .skip))
 (.seq (.seq (.reg [⟨(some 18), none, .mov (.t 0)⟩,
   ⟨(some 19), none, .len .sl (.t 18)⟩,
   ⟨(some 20), none, .bin .gtr .no (.t 19) (.c (.raw (.int .i64 40)))⟩])
 (.cond (.t 20)
  (.seq (.reg [⟨(some 2), none, .mov (.c (.kb true))⟩])
  .ret)
  .skip))
 (.seq (.reg [⟨(some 21), none, .call 10 []⟩,
   ⟨(some 3), none, .mov (.t 21)⟩])
 (.seq (.reg [⟨(some 22), none, .mkmap⟩,
   ⟨(some 4), none, .mov (.t 22)⟩])
 (.seq (.reg [⟨(some 5), none, .mov (.c (.raw (.int .i64 0)))⟩])
 (.seq (.seq (.reg [⟨(some 6), none, .mov (.c (.raw (.int .i64 0)))⟩])
 (.block 0 (.loop (.seq (.seq (.reg [⟨(some 23), none, .mov (.t 6)⟩,
    ⟨(some 24), none, .mov (.t 0)⟩,
    ⟨(some 25), none, .len .sl (.t 24)⟩,
    ⟨(some 26), none, .bin .lss .no (.t 23) (.t 25)⟩])
  (.cond (.t 26)
   .skip
   (.exit 0)))
  (.seq (.block 1 (.seq (.reg [⟨(some 29), none, .mov (.t 0)⟩,
    ⟨(some 30), none, .mov (.t 6)⟩,
    ⟨(some 31), none, .iaddr 19 none (.t 29) (.t 30)⟩,
    ⟨(some 32), none, .load (some 19) (.t 31)⟩,
    ⟨(some 7), none, .new 34 [(.int .i64 0), (.int .i64 0), (.int .i64 0), (.int .i64 0), (.int .i64 0), (.int .i64 0), (.int .i64 0), (.int .i64 0), (.int .i64 0), (.int .i64 0), (.int .i64 0), (.string (ByteArray.mk #[])), (.string (ByteArray.mk #[])), (.int .i64 0), (.int .i64 0), (.int .i64 0), (.int .i64 0), (.int .i64 0), (.int .i64 0)]⟩,
    ⟨none, none, .store (some 19) (.t 7) (.t 32)⟩])
  (.seq (.seq (.reg [⟨(some 33), none, .load (some 19) (.t 7)⟩,
    ⟨(some 34), none, .call 20 [(.t 33)]⟩])
  (.cond (.t 34)
   (.seq (.reg [⟨(some 2), none, .mov (.c (.kb true))⟩])
   .ret)
   .skip))
  (.seq (.seq (.draw [⟨(some 35), none, .faddr 0 (.t 7)⟩,
    ⟨(some 36), none, .load none (.t 35)⟩,
    ⟨(some 37), none, .bin .eql .no (.t 36) (.c (.raw (.int .i64 6)))⟩,
    ⟨(some 38), none, .mov (.t 37)⟩,
    ⟨(some 39), (some (38, true)), .faddr 18 (.t 7)⟩,
    ⟨(some 40), (some (38, true)), .load none (.t 39)⟩,
    ⟨(some 41), (some (38, true)), .mov (.t 3)⟩,
    ⟨(some 42), (some (38, true)), .faddr 12 (.t 7)⟩,
    ⟨(some 43), (some (38, true)), .load none (.t 42)⟩,
    ⟨(some 44), (some (38, true)), .call 28 [(.t 41), (.t 43)]⟩,
    ⟨(some 45), (some (38, true)), .bin .gtr .no (.t 40) (.t 44)⟩,
    ⟨(some 46), none, .pick (.t 38) (.t 45) (.c (.kb false))⟩]
    (.fl 0 (.fr 1 (.fl 2 (.fl 3 (.fl 4 (.fr 5 (.fl 6 (.fl 7 (.fr 8 (.st 9 [5] (.fl 10 (.fl 11 .done)))))))))))))
  (.cond (.t 46)
   (.exit 1)
   .skip))
  (.seq (.seq (.reg [⟨(some 47), none, .load (some 19) (.t 7)⟩,
    ⟨(some 48), none, .call 18 [(.t 47)]⟩])
  (.cond (.t 48)
   (.reg [⟨(some 49), none, .mov (.t 3)⟩,
     ⟨(some 50), none, .load (some 19) (.t 7)⟩,
     ⟨(some 51), none, .call 14 [(.t 49), (.t 50)]⟩])
   (.reg [⟨(some 52), none, .mov (.t 3)⟩,
     ⟨(some 53), none, .load (some 19) (.t 7)⟩,
     ⟨(some 54), none, .call 11 [(.t 52), (.t 53)]⟩])))
  (.seq (.seq (.reg [⟨(some 55), none, .mov (.t 3)⟩,
    ⟨(some 56), none, .faddr 12 (.t 7)⟩,
    ⟨(some 57), none, .load none (.t 56)⟩,
    ⟨(some 58), none, .call 17 [(.t 55), (.t 57)]⟩,
    ⟨(some 59), none, .bin .lss .no (.t 58) (.c (.raw (.int .i64 0)))⟩,
    ⟨(some 60), none, .mov (.t 59)⟩,
    ⟨(some 61), (some (60, false)), .mov (.t 3)⟩,
    ⟨(some 62), (some (60, false)), .call 27 [(.t 61)]⟩,
    ⟨(some 63), (some (60, false)), .len .sl (.t 62)⟩,
    ⟨(some 64), (some (60, false)), .mov (.t 5)⟩,
    ⟨(some 65), (some (60, false)), .bin .lss .no (.t 63) (.t 64)⟩,
    ⟨(some 66), none, .pick (.t 60) (.c (.kb true)) (.t 65)⟩])
  (.cond (.t 66)
   (.seq (.reg [⟨(some 2), none, .mov (.c (.kb false))⟩])
   .ret)
   .skip))
  (.seq (.reg [⟨(some 67), none, .mov (.t 3)⟩,
    ⟨(some 68), none, .call 27 [(.t 67)]⟩,
    ⟨(some 69), none, .len .sl (.t 68)⟩,
    ⟨(some 5), none, .mov (.t 69)⟩])
  (.seq (.reg [⟨(some 70), none, .mov (.t 3)⟩,
    ⟨(some 71), none, .call 29 [(.t 70)]⟩,
    ⟨(some 8), none, .mov (.t 71)⟩])
  (.seq (.reg [⟨(some 9), none, .mov (.c (.raw (.int .i64 0)))⟩])
  (.block 2 (.loop (.seq (.seq (.reg [⟨(some 72), none, .mov (.t 9)⟩,
     ⟨(some 73), none, .mov (.t 8)⟩,
     ⟨(some 74), none, .len .sl (.t 73)⟩,
     ⟨(some 75), none, .bin .lss .no (.t 72) (.t 74)⟩])
   (.cond (.t 75)
    .skip
    (.exit 2)))
   (.seq (.block 3 (.seq (.reg [⟨(some 79), none, .mov (.t 3)⟩,
     ⟨(some 80), none, .mov (.t 8)⟩,
     ⟨(some 81), none, .mov (.t 9)⟩,
     ⟨(some 82), none, .iaddr 2 none (.t 80) (.t 81)⟩,
     ⟨(some 83), none, .load (some 2) (.t 82)⟩,
     ⟨(some 84), none, .call 15 [(.t 79), (.t 83)]⟩,
     ⟨(some 78), none, .mov (.t 84)⟩,
     ⟨(some 85), none, .extr (.t 78) 0⟩,
     ⟨(some 86), none, .extr (.t 78) 1⟩,
     ⟨(some 87), none, .extr (.t 78) 2⟩,
     ⟨(some 88), none, .extr (.t 78) 3⟩,
     ⟨(some 10), none, .new 28 [(.int .i64 0), (.int .i64 0)]⟩,
     ⟨none, none, .store (some 2) (.t 10) (.t 85)⟩,
     ⟨(some 11), none, .mov (.t 86)⟩,
     ⟨(some 12), none, .mov (.t 87)⟩,
     ⟨(some 13), none, .mov (.t 88)⟩])
   (.seq (.reg [⟨(some 90), none, .mov (.t 4)⟩,
     ⟨(some 91), none, .mov (.t 8)⟩,
     ⟨(some 92), none, .mov (.t 9)⟩,
     ⟨(some 93), none, .iaddr 2 none (.t 91) (.t 92)⟩,
     ⟨(some 94), none, .load (some 2) (.t 93)⟩,
     ⟨(some 95), none, .lookup 59 true (.t 90) (.t 94)⟩,
     ⟨(some 89), none, .mov (.t 95)⟩,
     ⟨(some 96), none, .extr (.t 89) 0⟩,
     ⟨(some 97), none, .extr (.t 89) 1⟩,
     ⟨(some 14), none, .new 62 [(.int .i64 0), (.int .i64 0), (.string (ByteArray.mk #[])), (.int .i64 0)]⟩,
     ⟨none, none, .store (some 4) (.t 14) (.t 96)⟩,
     ⟨(some 15), none, .mov (.t 97)⟩])
   (.seq (.seq (.reg [⟨(some 98), none, .mov (.t 15)⟩,
     ⟨(some 99), none, .mov (.t 98)⟩,
     ⟨(some 100), (some (99, true)), .mov (.t 13)⟩,
     ⟨(some 101), (some (99, true)), .un .not (.t 100)⟩,
     ⟨(some 102), (some (99, true)), .mov (.t 101)⟩,
     ⟨(some 103), (some (102, false)), .load (some 4) (.t 14)⟩,
     ⟨(some 104), (some (102, false)), .load (some 2) (.t 10)⟩,
     ⟨(some 105), (some (102, false)), .mov (.t 11)⟩,
     ⟨(some 106), (some (102, false)), .mov (.t 12)⟩,
     ⟨(some 107), (some (102, false)), .build [(.int .i64 0), (.int .i64 0), (.string (ByteArray.mk #[])), (.int .i64 0)] [(0, 2, (.t 104)), (2, 1, (.t 105)), (3, 1, (.t 106))]⟩,
     ⟨(some 108), (some (102, false)), .bin .neq (.agg [.i, .i, .s, .i]) (.t 103) (.t 107)⟩,
     ⟨(some 109), (some (99, true)), .pick (.t 102) (.c (.kb true)) (.t 108)⟩,
     ⟨(some 110), none, .pick (.t 99) (.t 109) (.c (.kb false))⟩,
     ⟨(some 111), none, .mov (.t 110)⟩,
     ⟨(some 112), (some (111, false)), .mov (.t 13)⟩,
     ⟨(some 113), (some (111, false)), .mov (.t 3)⟩,
     ⟨(some 114), (some (111, false)), .mov (.t 8)⟩,
     ⟨(some 115), (some (111, false)), .mov (.t 9)⟩,
     ⟨(some 116), (some (111, false)), .iaddr 2 none (.t 114) (.t 115)⟩,
     ⟨(some 117), (some (111, false)), .load (some 2) (.t 116)⟩,
     ⟨(some 118), (some (111, false)), .call 30 [(.t 113), (.t 117)]⟩,
     ⟨(some 119), (some (111, false)), .bin .eql .b (.t 112) (.t 118)⟩,
     ⟨(some 120), none, .pick (.t 111) (.c (.kb true)) (.t 119)⟩])
   (.cond (.t 120)
    (.seq (.reg [⟨(some 2), none, .mov (.c (.kb false))⟩])
    .ret)
    .skip))
   (.seq (.reg [⟨(some 121), none, .mov (.t 13)⟩])
   (.cond (.t 121)
    (.draw [⟨(some 122), none, .mov (.t 4)⟩,
      ⟨(some 123), none, .mov (.t 8)⟩,
      ⟨(some 124), none, .mov (.t 9)⟩,
      ⟨(some 125), none, .iaddr 2 none (.t 123) (.t 124)⟩,
      ⟨(some 126), none, .load (some 2) (.t 125)⟩,
      ⟨(some 127), none, .load (some 2) (.t 10)⟩,
      ⟨(some 128), none, .mov (.t 11)⟩,
      ⟨(some 129), none, .mov (.t 12)⟩,
      ⟨(some 130), none, .build [(.int .i64 0), (.int .i64 0), (.string (ByteArray.mk #[])), (.int .i64 0)] [(0, 2, (.t 127)), (2, 1, (.t 128)), (3, 1, (.t 129))]⟩,
      ⟨none, none, .mapup 59 (.t 122) (.t 126) (.t 130)⟩]
      (.fl 0 (.fl 1 (.fl 2 (.fr 3 (.fr 4 (.fr 5 (.fl 6 (.fl 7 (.fr 8 (.st 9 [] .done)))))))))))
    .skip))))))
   (.reg [⟨(some 76), none, .mov (.t 9)⟩,
     ⟨(some 77), none, .bin .add .no (.t 76) (.c (.raw (.int .i64 1)))⟩,
     ⟨(some 9), none, .mov (.t 77)⟩]))))))))))))))
  (.reg [⟨(some 27), none, .mov (.t 6)⟩,
    ⟨(some 28), none, .bin .add .no (.t 27) (.c (.raw (.int .i64 1)))⟩,
    ⟨(some 6), none, .mov (.t 28)⟩]))))))
 (.seq (.reg [⟨(some 2), none, .mov (.c (.kb true))⟩])
 .ret))))))))
theorem i_rostrumlaw24_AuctMoney : Is Tryd.prog 8 131 [.t 2] c_rostrumlaw24_AuctMoney := ⟨Tryd.f8, _, p_rostrumlaw24_AuctMoney, rfl, rfl, by kernel_rfl, by kernel_rfl, rfl⟩
def p_rostrumlaw24_awake : List (Nat × Pl) := []
def c_rostrumlaw24_awake : VCode :=
 (.seq (.reg [⟨(some 0), none, .mov (.c (.kb false))⟩])
 (.seq (.reg [⟨(some 10), none, .call 16 []⟩,
   ⟨(some 1), none, .mov (.t 10)⟩])
 (.seq (.seq (.reg [⟨(some 11), none, .mov (.t 1)⟩,
   ⟨(some 12), none, .bin .eql .p (.t 11) (.c (.raw (.pointer none)))⟩])
 (.cond (.t 12)
  (.seq (.reg [⟨(some 0), none, .mov (.c (.kb false))⟩])
  .ret)
  .skip))
 (.seq (.reg [⟨(some 14), none, .mov (.t 1)⟩,
   ⟨(some 15), none, .build [(.int .i64 0), (.int .i64 0)] [(1, 1, (.c (.raw (.int .i64 1))))]⟩,
   ⟨(some 16), none, .call 12 [(.t 14), (.t 15)]⟩,
   ⟨(some 13), none, .mov (.t 16)⟩,
   ⟨(some 17), none, .extr (.t 13) 0⟩,
   ⟨(some 18), none, .extr (.t 13) 1⟩,
   ⟨(some 2), none, .new 28 [(.int .i64 0), (.int .i64 0)]⟩,
   ⟨none, none, .store (some 2) (.t 2) (.t 17)⟩,
   ⟨(some 3), none, .mov (.t 18)⟩])
 (.seq (.reg [⟨(some 20), none, .mov (.t 1)⟩,
   ⟨(some 21), none, .build [(.int .i64 0), (.int .i64 0)] [(1, 1, (.c (.raw (.int .i64 2))))]⟩,
   ⟨(some 22), none, .build [(.int .i64 0), (.int .i64 0), (.int .i64 0), (.int .i64 0), (.int .i64 0), (.int .i64 0), (.int .i64 0)] [(0, 1, (.c (.raw (.int .i64 3))))]⟩,
   ⟨(some 23), none, .build [(.int .i64 0), (.int .i64 0)] [(1, 1, (.c (.raw (.int .i64 1))))]⟩,
   ⟨(some 24), none, .build [(.int .i64 0), (.int .i64 0), (.int .i64 0), (.int .i64 0), (.int .i64 0), (.int .i64 0), (.int .i64 0), (.int .i64 0), (.int .i64 0), (.int .i64 0), (.int .i64 0), (.string (ByteArray.mk #[])), (.string (ByteArray.mk #[])), (.int .i64 0), (.int .i64 0), (.int .i64 0), (.int .i64 0), (.int .i64 0), (.int .i64 0)] [(0, 1, (.c (.raw (.int .i64 7)))), (1, 2, (.t 21)), (3, 7, (.t 22)), (10, 1, (.c (.raw (.int .i64 1)))), (13, 2, (.t 23))]⟩,
   ⟨(some 25), none, .call 14 [(.t 20), (.t 24)]⟩,
   ⟨(some 19), none, .mov (.t 25)⟩,
   ⟨(some 26), none, .extr (.t 19) 0⟩,
   ⟨(some 27), none, .extr (.t 19) 1⟩,
   ⟨(some 4), none, .mov (.t 26)⟩,
   ⟨(some 5), none, .mov (.t 27)⟩])
 (.seq (.reg [⟨(some 29), none, .mov (.t 1)⟩,
   ⟨(some 30), none, .build [(.int .i64 0), (.int .i64 0)] [(1, 1, (.c (.raw (.int .i64 1))))]⟩,
   ⟨(some 31), none, .call 15 [(.t 29), (.t 30)]⟩,
   ⟨(some 28), none, .mov (.t 31)⟩,
   ⟨(some 32), none, .extr (.t 28) 0⟩,
   ⟨(some 33), none, .extr (.t 28) 1⟩,
   ⟨(some 34), none, .extr (.t 28) 2⟩,
   ⟨(some 35), none, .extr (.t 28) 3⟩,
   ⟨(some 6), none, .new 28 [(.int .i64 0), (.int .i64 0)]⟩,
   ⟨none, none, .store (some 2) (.t 6) (.t 32)⟩,
   ⟨(some 7), none, .mov (.t 33)⟩,
   ⟨(some 8), none, .mov (.t 34)⟩,
   ⟨(some 9), none, .mov (.t 35)⟩])
 (.seq (.reg [⟨(some 36), none, .mov (.t 3)⟩,
   ⟨(some 37), none, .mov (.t 36)⟩,
   ⟨(some 38), (some (37, true)), .load (some 2) (.t 2)⟩,
   ⟨(some 39), (some (37, true)), .build [(.int .i64 0), (.int .i64 0)] [(1, 1, (.c (.raw (.int .i64 3))))]⟩,
   ⟨(some 40), (some (37, true)), .bin .eql (.agg [.i, .i]) (.t 38) (.t 39)⟩,
   ⟨(some 41), none, .pick (.t 37) (.t 40) (.c (.kb false))⟩,
   ⟨(some 42), none, .mov (.t 41)⟩,
   ⟨(some 43), (some (42, true)), .mov (.t 4)⟩,
   ⟨(some 44), none, .pick (.t 42) (.t 43) (.c (.kb false))⟩,
   ⟨(some 45), none, .mov (.t 44)⟩,
   ⟨(some 46), (some (45, true)), .mov (.t 5)⟩,
   ⟨(some 47), (some (45, true)), .bin .eql .no (.t 46) (.c (.raw (.int .i64 0)))⟩,
   ⟨(some 48), none, .pick (.t 45) (.t 47) (.c (.kb false))⟩,
   ⟨(some 49), none, .mov (.t 48)⟩,
   ⟨(some 50), (some (49, true)), .mov (.t 9)⟩,
   ⟨(some 51), none, .pick (.t 49) (.t 50) (.c (.kb false))⟩,
   ⟨(some 52), none, .mov (.t 51)⟩,
   ⟨(some 53), (some (52, true)), .load (some 2) (.t 6)⟩,
   ⟨(some 54), (some (52, true)), .load (some 2) (.t 2)⟩,
   ⟨(some 55), (some (52, true)), .bin .eql (.agg [.i, .i]) (.t 53) (.t 54)⟩,
   ⟨(some 56), none, .pick (.t 52) (.t 55) (.c (.kb false))⟩,
   ⟨(some 57), none, .mov (.t 56)⟩,
   ⟨(some 58), (some (57, true)), .mov (.t 7)⟩,
   ⟨(some 59), (some (57, true)), .bin .eql .no (.t 58) (.c (.raw (.string (ByteArray.mk #[97, 110, 110]))))⟩,
   ⟨(some 60), none, .pick (.t 57) (.t 59) (.c (.kb false))⟩,
   ⟨(some 61), none, .mov (.t 60)⟩,
   ⟨(some 62), (some (61, true)), .mov (.t 8)⟩,
   ⟨(some 63), (some (61, true)), .bin .eql .no (.t 62) (.c (.raw (.int .i64 7)))⟩,
   ⟨(some 64), none, .pick (.t 61) (.t 63) (.c (.kb false))⟩,
   ⟨(some 65), none, .mov (.t 64)⟩,
   ⟨(some 66), (some (65, true)), .mov (.t 1)⟩,
   ⟨(some 67), (some (65, true)), .load (some 2) (.t 2)⟩,
   ⟨(some 68), (some (65, true)), .call 30 [(.t 66), (.t 67)]⟩,
   ⟨(some 69), (some (65, true)), .un .not (.t 68)⟩,
   ⟨(some 70), none, .pick (.t 65) (.t 69) (.c (.kb false))⟩,
   ⟨(some 71), none, .mov (.t 70)⟩,
   ⟨(some 72), (some (71, true)), .mov (.t 1)⟩,
   ⟨(some 73), (some (71, true)), .call 23 [(.t 72)]⟩,
   ⟨(some 74), (some (71, true)), .bin .eql .no (.t 73) (.c (.raw (.int .i64 2)))⟩,
   ⟨(some 75), none, .pick (.t 71) (.t 74) (.c (.kb false))⟩,
   ⟨(some 0), none, .mov (.t 75)⟩])
 .ret)))))))
theorem i_rostrumlaw24_awake : Is Tryd.prog 9 76 [.t 0] c_rostrumlaw24_awake := ⟨Tryd.f9, _, p_rostrumlaw24_awake, rfl, rfl, by kernel_rfl, by kernel_rfl, rfl⟩
def p_auct_New : List (Nat × Pl) := []
def c_auct_New : VCode :=
 (.seq (.reg [⟨(some 0), none, .mov (.c (.raw (.pointer none)))⟩])
 (.seq (.reg [⟨(some 1), none, .mkmap⟩,
   ⟨(some 2), none, .mkmap⟩,
   ⟨(some 3), none, .mkmap⟩,
   ⟨(some 4), none, .mkmap⟩,
   ⟨(some 5), none, .build [(.int .i64 0), (.int .i64 0), (.int .i64 0), (.int .i64 0), (.int .i64 0), (.int .i64 0), (.int .i64 0), (.map none), (.slice none 0 0), (.map none), (.map none), (.map none)] [(7, 1, (.t 1)), (9, 1, (.t 2)), (10, 1, (.t 3)), (11, 1, (.t 4))]⟩,
   ⟨(some 6), none, .box 71 (.t 5)⟩,
   ⟨(some 0), none, .mov (.t 6)⟩])
 .ret))
theorem i_auct_New : Is Tryd.prog 10 7 [.t 0] c_auct_New := ⟨Tryd.f10, _, p_auct_New, rfl, rfl, by kernel_rfl, by kernel_rfl, rfl⟩
def p_auct_House_Blue : List (Nat × Pl) := [(3, (.fl 0 (.fr 1 (.fl 2 (.fr 3 (.fl 4 (.fr 5 (.st 6 [] (.fl 7 .done))))))))), (5, (.fl 0 (.fl 1 (.fr 2 (.fl 3 (.fl 4 (.fl 5 (.fr 6 (.fr 7 (.fl 8 (.fr 9 (.fr 10 (.fl 11 (.fl 12 (.fl 13 (.fl 14 (.fr 15 (.fl 16 (.fr 17 (.fl 18 (.fr 19 (.st 20 [] (.fl 21 (.fl 22 (.fl 23 (.fl 24 (.fr 25 (.fl 26 (.fr 27 (.fl 28 (.fr 29 (.fl 30 (.fl 31 (.fl 32 (.fl 33 .done))))))))))))))))))))))))))))))))))), (7, (.fl 0 (.fl 1 (.fl 2 (.fr 3 (.fr 4 (.fl 5 (.fr 6 (.fr 7 (.fl 8 (.fr 9 (.fl 10 (.fr 11 (.st 12 [] .done)))))))))))))), (8, (.fl 0 (.fr 1 (.fl 2 (.fr 3 (.fl 4 (.fr 5 (.fr 6 (.st 7 [] .done)))))))))]
def c_auct_House_Blue : VCode :=
 (.seq (.reg [⟨(some 3), none, .box 34 (.t 1)⟩,
   ⟨(some 4), none, .mov (.c (.raw (.int .i64 0)))⟩])
 (.seq (.block 0 (.seq (.reg [⟨(some 6), none, .load (some 19) (.t 3)⟩,
   ⟨(some 7), none, .call 19 [(.t 6)]⟩,
   ⟨(some 8), none, .un .not (.t 7)⟩,
   ⟨(some 9), none, .mov (.t 8)⟩,
   ⟨(some 10), (some (9, false)), .load (some 19) (.t 3)⟩,
   ⟨(some 11), (some (9, false)), .call 18 [(.t 10)]⟩,
   ⟨(some 12), none, .pick (.t 9) (.c (.kb true)) (.t 11)⟩,
   ⟨(some 5), none, .mov (.t 12)⟩])
 (.cond (.t 5)
  (.seq (.reg [⟨(some 4), none, .mov (.c (.raw (.int .i64 1)))⟩])
  .ret)
  (.seq (.draw [⟨(some 14), none, .mov (.t 0)⟩,
    ⟨(some 15), none, .nilck (.t 14)⟩,
    ⟨(some 16), none, .faddr 0 (.t 15)⟩,
    ⟨(some 17), none, .load (some 7) (.t 16)⟩,
    ⟨(some 18), none, .faddr 1 (.t 3)⟩,
    ⟨(some 19), none, .load (some 2) (.t 18)⟩,
    ⟨(some 20), none, .call 31 [(.t 17), (.t 19)]⟩,
    ⟨(some 13), none, .mov (.t 20)⟩]
    (.fl 0 (.fr 1 (.fl 2 (.fr 3 (.fl 4 (.fr 5 (.st 6 [] (.fl 7 .done)))))))))
  (.cond (.t 13)
   (.seq (.reg [⟨(some 4), none, .mov (.c (.raw (.int .i64 5)))⟩])
   .ret)
   (.seq (.draw [⟨(some 22), none, .faddr 1 (.t 3)⟩,
     ⟨(some 23), none, .faddr 1 (.t 22)⟩,
     ⟨(some 24), none, .load none (.t 23)⟩,
     ⟨(some 25), none, .mov (.t 0)⟩,
     ⟨(some 26), none, .faddr 1 (.t 3)⟩,
     ⟨(some 27), none, .faddr 0 (.t 26)⟩,
     ⟨(some 28), none, .load none (.t 27)⟩,
     ⟨(some 29), none, .nilck (.t 25)⟩,
     ⟨(some 30), none, .faddr 0 (.t 29)⟩,
     ⟨(some 31), none, .iaddr 1 (some 7) (.t 30) (.t 28)⟩,
     ⟨(some 32), none, .load none (.t 31)⟩,
     ⟨(some 33), none, .bin .add .no (.t 32) (.c (.raw (.int .i64 1)))⟩,
     ⟨(some 34), none, .bin .neq .no (.t 24) (.t 33)⟩,
     ⟨(some 35), none, .mov (.t 34)⟩,
     ⟨(some 36), (some (35, false)), .faddr 3 (.t 3)⟩,
     ⟨(some 37), (some (35, false)), .load (some 7) (.t 36)⟩,
     ⟨(some 38), (some (35, false)), .mov (.t 0)⟩,
     ⟨(some 39), (some (35, false)), .nilck (.t 38)⟩,
     ⟨(some 40), (some (35, false)), .faddr 0 (.t 39)⟩,
     ⟨(some 41), (some (35, false)), .load (some 7) (.t 40)⟩,
     ⟨(some 42), (some (35, false)), .call 32 [(.t 37), (.t 41)]⟩,
     ⟨(some 43), (some (35, false)), .un .not (.t 42)⟩,
     ⟨(some 44), none, .pick (.t 35) (.c (.kb true)) (.t 43)⟩,
     ⟨(some 45), none, .mov (.t 44)⟩,
     ⟨(some 46), (some (45, false)), .faddr 10 (.t 3)⟩,
     ⟨(some 47), (some (45, false)), .load none (.t 46)⟩,
     ⟨(some 48), (some (45, false)), .mov (.t 0)⟩,
     ⟨(some 49), (some (45, false)), .nilck (.t 48)⟩,
     ⟨(some 50), (some (45, false)), .faddr 8 (.t 49)⟩,
     ⟨(some 51), (some (45, false)), .load none (.t 50)⟩,
     ⟨(some 52), (some (45, false)), .len .sl (.t 51)⟩,
     ⟨(some 53), (some (45, false)), .bin .gtr .no (.t 47) (.t 52)⟩,
     ⟨(some 54), none, .pick (.t 45) (.c (.kb true)) (.t 53)⟩,
     ⟨(some 21), none, .mov (.t 54)⟩]
     (.fl 0 (.fl 1 (.fr 2 (.fl 3 (.fl 4 (.fl 5 (.fr 6 (.fr 7 (.fl 8 (.fr 9 (.fr 10 (.fl 11 (.fl 12 (.fl 13 (.fl 14 (.fr 15 (.fl 16 (.fr 17 (.fl 18 (.fr 19 (.st 20 [] (.fl 21 (.fl 22 (.fl 23 (.fl 24 (.fr 25 (.fl 26 (.fr 27 (.fl 28 (.fr 29 (.fl 30 (.fl 31 (.fl 32 (.fl 33 .done)))))))))))))))))))))))))))))))))))
   (.cond (.t 21)
    (.seq (.reg [⟨(some 4), none, .mov (.c (.raw (.int .i64 8)))⟩])
    .ret)
    .skip)))))))
 (.seq (.draw [⟨(some 55), none, .mov (.t 0)⟩,
   ⟨(some 56), none, .faddr 1 (.t 3)⟩,
   ⟨(some 57), none, .faddr 0 (.t 56)⟩,
   ⟨(some 58), none, .load none (.t 57)⟩,
   ⟨(some 59), none, .nilck (.t 55)⟩,
   ⟨(some 60), none, .faddr 0 (.t 59)⟩,
   ⟨(some 61), none, .iaddr 1 (some 7) (.t 60) (.t 58)⟩,
   ⟨(some 62), none, .load none (.t 61)⟩,
   ⟨(some 63), none, .bin .add .no (.t 62) (.c (.raw (.int .i64 1)))⟩,
   ⟨(some 64), none, .nilck (.t 55)⟩,
   ⟨(some 65), none, .faddr 0 (.t 64)⟩,
   ⟨(some 66), none, .iaddr 1 (some 7) (.t 65) (.t 58)⟩,
   ⟨none, none, .store none (.t 66) (.t 63)⟩]
   (.fl 0 (.fl 1 (.fl 2 (.fr 3 (.fr 4 (.fl 5 (.fr 6 (.fr 7 (.fl 8 (.fr 9 (.fl 10 (.fr 11 (.st 12 [] .done))))))))))))))
 (.seq (.draw [⟨(some 67), none, .mov (.t 0)⟩,
   ⟨(some 68), none, .nilck (.t 67)⟩,
   ⟨(some 69), none, .faddr 7 (.t 68)⟩,
   ⟨(some 70), none, .load none (.t 69)⟩,
   ⟨(some 71), none, .faddr 1 (.t 3)⟩,
   ⟨(some 72), none, .load (some 2) (.t 71)⟩,
   ⟨(some 73), none, .load (some 19) (.t 3)⟩,
   ⟨none, none, .mapup 66 (.t 70) (.t 72) (.t 73)⟩]
   (.fl 0 (.fr 1 (.fl 2 (.fr 3 (.fl 4 (.fr 5 (.fr 6 (.st 7 [] .done)))))))))
 (.seq (.reg [⟨(some 4), none, .mov (.c (.raw (.int .i64 0)))⟩])
 .ret)))))
theorem i_auct_House_Blue : Is Tryd.prog 11 74 [.t 4] c_auct_House_Blue := ⟨Tryd.f11, _, p_auct_House_Blue, rfl, rfl, by kernel_rfl, by kernel_rfl, rfl⟩
def p_auct_House_Best : List (Nat × Pl) := []
def c_auct_House_Best : VCode :=
 (.seq (.reg [⟨(some 3), none, .box 28 (.t 1)⟩,
   ⟨(some 4), none, .new 28 [(.int .i64 0), (.int .i64 0)]⟩,
   ⟨(some 5), none, .mov (.c (.kb false))⟩])
 (.seq (.reg [⟨(some 6), none, .mov (.t 0)⟩,
   ⟨(some 7), none, .mov (.t 0)⟩,
   ⟨(some 8), none, .load (some 2) (.t 3)⟩,
   ⟨(some 9), none, .call 13 [(.t 7), (.t 8)]⟩,
   ⟨(some 10), none, .call 33 [(.t 6), (.t 9)]⟩,
   ⟨(some 11), none, .extr (.t 10) 0⟩,
   ⟨(some 12), none, .extr (.t 10) 1⟩,
   ⟨none, none, .store (some 2) (.t 4) (.t 11)⟩,
   ⟨(some 5), none, .mov (.t 12)⟩])
 .ret))
theorem i_auct_House_Best : Is Tryd.prog 12 13 [.cell 4 (some 2), .t 5] c_auct_House_Best := ⟨Tryd.f12, _, p_auct_House_Best, rfl, rfl, by kernel_rfl, by kernel_rfl, rfl⟩
def p_auct_House_Bids : List (Nat × Pl) := [(1, (.fl 0 (.fr 1 (.fl 2 (.fr 3 (.fl 4 (.fr 5 (.st 6 [] (.fl 7 .done)))))))))]
def c_auct_House_Bids : VCode :=
 (.seq (.reg [⟨(some 3), none, .box 28 (.t 1)⟩,
   ⟨(some 4), none, .mov (.c (.raw (.slice none 0 0)))⟩])
 (.seq (.draw [⟨(some 5), none, .mov (.t 0)⟩,
   ⟨(some 6), none, .load (some 2) (.t 3)⟩,
   ⟨(some 7), none, .mov (.t 0)⟩,
   ⟨(some 8), none, .nilck (.t 7)⟩,
   ⟨(some 9), none, .faddr 0 (.t 8)⟩,
   ⟨(some 10), none, .load (some 7) (.t 9)⟩,
   ⟨(some 11), none, .call 34 [(.t 5), (.t 6), (.t 10)]⟩,
   ⟨(some 4), none, .mov (.t 11)⟩]
   (.fl 0 (.fr 1 (.fl 2 (.fr 3 (.fl 4 (.fr 5 (.st 6 [] (.fl 7 .done)))))))))
 .ret))
theorem i_auct_House_Bids : Is Tryd.prog 13 12 [.t 4] c_auct_House_Bids := ⟨Tryd.f13, _, p_auct_House_Bids, rfl, rfl, by kernel_rfl, by kernel_rfl, rfl⟩
def p_auct_House_Do : List (Nat × Pl) := [(3, (.fl 0 (.fr 1 (.fl 2 (.fr 3 (.fl 4 (.fr 5 (.st 6 [] (.fl 7 (.fl 8 (.fl 9 (.fr 10 (.fl 11 (.fr 12 (.fl 13 (.fr 14 (.fl 15 (.fl 16 (.fl 17 (.fl 18 .done)))))))))))))))))))), (5, (.fl 0 (.fl 1 (.fr 2 (.fl 3 (.fr 4 (.fr 5 (.st 6 [2, 4] (.st 7 [] (.fr 8 (.fl 9 (.st 10 [] .done)))))))))))), (13, (.fl 0 (.fr 1 (.fl 2 (.fr 3 (.fl 4 (.fr 5 (.fl 6 (.fr 7 (.fl 8 (.fr 9 (.fl 10 (.fl 11 .done))))))))))))), (15, (.fl 0 (.fr 1 (.fl 2 (.fr 3 (.fl 4 (.fr 5 (.fl 6 (.fr 7 (.fl 8 (.st 9 [] .done))))))))))), (17, (.fl 0 (.fr 1 (.fl 2 (.fr 3 (.fl 4 (.fr 5 (.fr 6 (.fl 7 (.fl 8 (.fl 9 (.st 10 [1, 3, 5, 6] (.st 11 [] (.fl 12 .done)))))))))))))), (18, (.fl 0 (.fl 1 (.fl 2 (.fr 3 (.fl 4 (.fr 5 (.st 6 [] (.fl 7 (.fl 8 (.fl 9 (.fl 10 (.fr 11 (.fl 12 (.fr 13 (.fl 14 (.fr 15 (.fr 16 (.fl 17 (.fl 18 (.fl 19 .done))))))))))))))))))))), (20, (.fl 0 (.fr 1 (.fl 2 (.fr 3 (.fl 4 (.fr 5 (.fl 6 (.fr 7 (.st 8 [1, 3, 5] (.st 9 [] .done)))))))))))]
def c_auct_House_Do : VCode :=
 (.seq (.reg [⟨(some 3), none, .box 34 (.t 1)⟩,
   ⟨(some 4), none, .mov (.c (.kb false))⟩,
   ⟨(some 5), none, .mov (.c (.raw (.int .i64 0)))⟩])
 (.seq (.block 0 (.seq (.reg [⟨(some 11), none, .load (some 19) (.t 3)⟩,
   ⟨(some 12), none, .call 19 [(.t 11)]⟩,
   ⟨(some 13), none, .un .not (.t 12)⟩,
   ⟨(some 14), none, .mov (.t 13)⟩,
   ⟨(some 15), (some (14, false)), .load (some 19) (.t 3)⟩,
   ⟨(some 16), (some (14, false)), .call 18 [(.t 15)]⟩,
   ⟨(some 17), (some (14, false)), .un .not (.t 16)⟩,
   ⟨(some 18), none, .pick (.t 14) (.c (.kb true)) (.t 17)⟩,
   ⟨(some 10), none, .mov (.t 18)⟩])
 (.cond (.t 10)
  (.seq (.reg [⟨(some 4), none, .mov (.c (.kb false))⟩,
    ⟨(some 5), none, .mov (.c (.raw (.int .i64 1)))⟩])
  .ret)
  (.seq (.draw [⟨(some 20), none, .faddr 3 (.t 3)⟩,
    ⟨(some 21), none, .load (some 7) (.t 20)⟩,
    ⟨(some 22), none, .mov (.t 0)⟩,
    ⟨(some 23), none, .nilck (.t 22)⟩,
    ⟨(some 24), none, .faddr 0 (.t 23)⟩,
    ⟨(some 25), none, .load (some 7) (.t 24)⟩,
    ⟨(some 26), none, .call 32 [(.t 21), (.t 25)]⟩,
    ⟨(some 27), none, .un .not (.t 26)⟩,
    ⟨(some 28), none, .mov (.t 27)⟩,
    ⟨(some 29), (some (28, false)), .faddr 10 (.t 3)⟩,
    ⟨(some 30), (some (28, false)), .load none (.t 29)⟩,
    ⟨(some 31), (some (28, false)), .mov (.t 0)⟩,
    ⟨(some 32), (some (28, false)), .nilck (.t 31)⟩,
    ⟨(some 33), (some (28, false)), .faddr 8 (.t 32)⟩,
    ⟨(some 34), (some (28, false)), .load none (.t 33)⟩,
    ⟨(some 35), (some (28, false)), .len .sl (.t 34)⟩,
    ⟨(some 36), (some (28, false)), .bin .gtr .no (.t 30) (.t 35)⟩,
    ⟨(some 37), none, .pick (.t 28) (.c (.kb true)) (.t 36)⟩,
    ⟨(some 19), none, .mov (.t 37)⟩]
    (.fl 0 (.fr 1 (.fl 2 (.fr 3 (.fl 4 (.fr 5 (.st 6 [] (.fl 7 (.fl 8 (.fl 9 (.fr 10 (.fl 11 (.fr 12 (.fl 13 (.fr 14 (.fl 15 (.fl 16 (.fl 17 (.fl 18 .done))))))))))))))))))))
  (.cond (.t 19)
   (.seq (.reg [⟨(some 4), none, .mov (.c (.kb false))⟩,
     ⟨(some 5), none, .mov (.c (.raw (.int .i64 8)))⟩])
   .ret)
   .skip)))))
 (.seq (.draw [⟨(some 38), none, .mov (.t 0)⟩,
   ⟨(some 39), none, .mov (.t 0)⟩,
   ⟨(some 40), none, .nilck (.t 39)⟩,
   ⟨(some 41), none, .faddr 8 (.t 40)⟩,
   ⟨(some 42), none, .load none (.t 41)⟩,
   ⟨(some 43), none, .load (some 19) (.t 3)⟩,
   ⟨(some 44), none, .bslice 34 1 [(.int .i64 0), (.int .i64 0), (.int .i64 0), (.int .i64 0), (.int .i64 0), (.int .i64 0), (.int .i64 0), (.int .i64 0), (.int .i64 0), (.int .i64 0), (.int .i64 0), (.string (ByteArray.mk #[])), (.string (ByteArray.mk #[])), (.int .i64 0), (.int .i64 0), (.int .i64 0), (.int .i64 0), (.int .i64 0), (.int .i64 0)] [(0, 19, (.t 43))]⟩,
   ⟨(some 45), none, .append 34 19 168 [(.int .i64 0), (.int .i64 0), (.int .i64 0), (.int .i64 0), (.int .i64 0), (.int .i64 0), (.int .i64 0), (.int .i64 0), (.int .i64 0), (.int .i64 0), (.int .i64 0), (.string (ByteArray.mk #[])), (.string (ByteArray.mk #[])), (.int .i64 0), (.int .i64 0), (.int .i64 0), (.int .i64 0), (.int .i64 0), (.int .i64 0)] (.t 42) (.t 44)⟩,
   ⟨(some 46), none, .nilck (.t 38)⟩,
   ⟨(some 47), none, .faddr 8 (.t 46)⟩,
   ⟨none, none, .store none (.t 47) (.t 45)⟩]
   (.fl 0 (.fl 1 (.fr 2 (.fl 3 (.fr 4 (.fr 5 (.st 6 [2, 4] (.st 7 [] (.fr 8 (.fl 9 (.st 10 [] .done))))))))))))
 (.seq (.reg [⟨(some 48), none, .faddr 12 (.t 3)⟩,
   ⟨(some 49), none, .load none (.t 48)⟩,
   ⟨(some 50), none, .call 35 [(.t 49)]⟩,
   ⟨(some 6), none, .mov (.t 50)⟩])
 (.seq (.seq (.reg [⟨(some 51), none, .faddr 0 (.t 3)⟩,
   ⟨(some 52), none, .load none (.t 51)⟩])
 (.block 1 (.seq (.reg [⟨(some 54), none, .bin .eql .no (.t 52) (.c (.raw (.int .i64 5)))⟩,
   ⟨(some 53), none, .mov (.t 54)⟩])
 (.cond (.t 53)
  (.seq (.reg [⟨(some 55), none, .mov (.t 0)⟩,
    ⟨(some 56), none, .nilck (.t 55)⟩,
    ⟨(some 57), none, .faddr 9 (.t 56)⟩,
    ⟨(some 58), none, .load none (.t 57)⟩,
    ⟨(some 59), none, .mov (.t 6)⟩,
    ⟨(some 60), none, .lookup 67 false (.t 58) (.t 59)⟩,
    ⟨(some 7), none, .mov (.t 60)⟩])
  (.seq (.reg [⟨(some 61), none, .mov (.t 0)⟩,
    ⟨(some 62), none, .nilck (.t 61)⟩,
    ⟨(some 63), none, .faddr 9 (.t 62)⟩,
    ⟨(some 64), none, .load none (.t 63)⟩,
    ⟨(some 65), none, .mov (.t 6)⟩,
    ⟨none, none, .mapup 67 (.t 64) (.t 65) (.c (.kb true))⟩])
  (.seq (.reg [⟨(some 66), none, .mov (.t 7)⟩,
    ⟨(some 67), none, .un .not (.t 66)⟩,
    ⟨(some 4), none, .mov (.t 67)⟩,
    ⟨(some 5), none, .mov (.c (.raw (.int .i64 0)))⟩])
  .ret)))
  (.seq (.reg [⟨(some 69), none, .bin .eql .no (.t 52) (.c (.raw (.int .i64 6)))⟩,
    ⟨(some 68), none, .mov (.t 69)⟩])
  (.cond (.t 68)
   (.seq (.seq (.draw [⟨(some 70), none, .faddr 17 (.t 3)⟩,
     ⟨(some 71), none, .load none (.t 70)⟩,
     ⟨(some 72), none, .faddr 18 (.t 3)⟩,
     ⟨(some 73), none, .load none (.t 72)⟩,
     ⟨(some 74), none, .mov (.t 0)⟩,
     ⟨(some 75), none, .nilck (.t 74)⟩,
     ⟨(some 76), none, .faddr 10 (.t 75)⟩,
     ⟨(some 77), none, .load none (.t 76)⟩,
     ⟨(some 78), none, .mov (.t 6)⟩,
     ⟨(some 79), none, .lookup 68 false (.t 77) (.t 78)⟩,
     ⟨(some 80), none, .bin .sub .no (.t 73) (.t 79)⟩,
     ⟨(some 81), none, .bin .gtr .no (.t 71) (.t 80)⟩]
     (.fl 0 (.fr 1 (.fl 2 (.fr 3 (.fl 4 (.fr 5 (.fl 6 (.fr 7 (.fl 8 (.fr 9 (.fl 10 (.fl 11 .done)))))))))))))
   (.cond (.t 81)
    (.seq (.reg [⟨(some 4), none, .mov (.c (.kb false))⟩,
      ⟨(some 5), none, .mov (.c (.raw (.int .i64 0)))⟩])
    .ret)
    .skip))
   (.seq (.draw [⟨(some 82), none, .mov (.t 0)⟩,
     ⟨(some 83), none, .nilck (.t 82)⟩,
     ⟨(some 84), none, .faddr 10 (.t 83)⟩,
     ⟨(some 85), none, .load none (.t 84)⟩,
     ⟨(some 86), none, .mov (.t 6)⟩,
     ⟨(some 87), none, .lookup 68 false (.t 85) (.t 86)⟩,
     ⟨(some 88), none, .faddr 17 (.t 3)⟩,
     ⟨(some 89), none, .load none (.t 88)⟩,
     ⟨(some 90), none, .bin .add .no (.t 87) (.t 89)⟩,
     ⟨none, none, .mapup 68 (.t 85) (.t 86) (.t 90)⟩]
     (.fl 0 (.fr 1 (.fl 2 (.fr 3 (.fl 4 (.fr 5 (.fl 6 (.fr 7 (.fl 8 (.st 9 [] .done)))))))))))
   (.seq (.reg [⟨(some 4), none, .mov (.c (.kb true))⟩,
     ⟨(some 5), none, .mov (.c (.raw (.int .i64 0)))⟩])
   .ret)))
   .skip))))))
 (.seq (.draw [⟨(some 92), none, .mov (.t 0)⟩,
   ⟨(some 93), none, .nilck (.t 92)⟩,
   ⟨(some 94), none, .faddr 11 (.t 93)⟩,
   ⟨(some 95), none, .load none (.t 94)⟩,
   ⟨(some 96), none, .faddr 13 (.t 3)⟩,
   ⟨(some 97), none, .load (some 2) (.t 96)⟩,
   ⟨(some 98), none, .lookup 69 true (.t 95) (.t 97)⟩,
   ⟨(some 91), none, .mov (.t 98)⟩,
   ⟨(some 99), none, .extr (.t 91) 0⟩,
   ⟨(some 100), none, .extr (.t 91) 1⟩,
   ⟨(some 8), none, .new 77 [(.int .i64 0), (.int .i64 0), (.string (ByteArray.mk #[])), (.int .i64 0)]⟩,
   ⟨none, none, .store (some 4) (.t 8) (.t 99)⟩,
   ⟨(some 9), none, .mov (.t 100)⟩]
   (.fl 0 (.fr 1 (.fl 2 (.fr 3 (.fl 4 (.fr 5 (.fr 6 (.fl 7 (.fl 8 (.fl 9 (.st 10 [1, 3, 5, 6] (.st 11 [] (.fl 12 .done))))))))))))))
 (.seq (.seq (.draw [⟨(some 101), none, .mov (.t 9)⟩,
   ⟨(some 102), none, .mov (.t 101)⟩,
   ⟨(some 103), (some (102, false)), .faddr 3 (.t 3)⟩,
   ⟨(some 104), (some (102, false)), .load (some 7) (.t 103)⟩,
   ⟨(some 105), (some (102, false)), .faddr 13 (.t 3)⟩,
   ⟨(some 106), (some (102, false)), .load (some 2) (.t 105)⟩,
   ⟨(some 107), (some (102, false)), .call 31 [(.t 104), (.t 106)]⟩,
   ⟨(some 108), (some (102, false)), .un .not (.t 107)⟩,
   ⟨(some 109), none, .pick (.t 102) (.c (.kb true)) (.t 108)⟩,
   ⟨(some 110), none, .mov (.t 109)⟩,
   ⟨(some 111), (some (110, false)), .mov (.t 0)⟩,
   ⟨(some 112), (some (110, false)), .nilck (.t 111)⟩,
   ⟨(some 113), (some (110, false)), .faddr 7 (.t 112)⟩,
   ⟨(some 114), (some (110, false)), .load none (.t 113)⟩,
   ⟨(some 115), (some (110, false)), .faddr 13 (.t 3)⟩,
   ⟨(some 116), (some (110, false)), .load (some 2) (.t 115)⟩,
   ⟨(some 117), (some (110, false)), .lookup 66 false (.t 114) (.t 116)⟩,
   ⟨(some 118), (some (110, false)), .field 0 none (.t 117)⟩,
   ⟨(some 119), (some (110, false)), .bin .neq .no (.t 118) (.c (.raw (.int .i64 1)))⟩,
   ⟨(some 120), none, .pick (.t 110) (.c (.kb true)) (.t 119)⟩]
   (.fl 0 (.fl 1 (.fl 2 (.fr 3 (.fl 4 (.fr 5 (.st 6 [] (.fl 7 (.fl 8 (.fl 9 (.fl 10 (.fr 11 (.fl 12 (.fr 13 (.fl 14 (.fr 15 (.fr 16 (.fl 17 (.fl 18 (.fl 19 .done)))))))))))))))))))))
 (.cond (.t 120)
  (.seq (.reg [⟨(some 4), none, .mov (.c (.kb false))⟩,
    ⟨(some 5), none, .mov (.c (.raw (.int .i64 0)))⟩])
  .ret)
  .skip))
 (.seq (.draw [⟨(some 121), none, .mov (.t 0)⟩,
   ⟨(some 122), none, .nilck (.t 121)⟩,
   ⟨(some 123), none, .faddr 11 (.t 122)⟩,
   ⟨(some 124), none, .load none (.t 123)⟩,
   ⟨(some 125), none, .faddr 13 (.t 3)⟩,
   ⟨(some 126), none, .load (some 2) (.t 125)⟩,
   ⟨(some 127), none, .mov (.t 0)⟩,
   ⟨(some 128), none, .load (some 19) (.t 3)⟩,
   ⟨(some 129), none, .call 36 [(.t 127), (.t 128)]⟩,
   ⟨none, none, .mapup 69 (.t 124) (.t 126) (.t 129)⟩]
   (.fl 0 (.fr 1 (.fl 2 (.fr 3 (.fl 4 (.fr 5 (.fl 6 (.fr 7 (.st 8 [1, 3, 5] (.st 9 [] .done)))))))))))
 (.seq (.reg [⟨(some 4), none, .mov (.c (.kb true))⟩,
   ⟨(some 5), none, .mov (.c (.raw (.int .i64 0)))⟩])
 .ret)))))))))
theorem i_auct_House_Do : Is Tryd.prog 14 130 [.t 4, .t 5] c_auct_House_Do := ⟨Tryd.f14, _, p_auct_House_Do, rfl, rfl, by kernel_rfl, by kernel_rfl, rfl⟩
def p_auct_House_Winner : List (Nat × Pl) := [(1, (.fl 0 (.fr 1 (.fl 2 (.fr 3 (.fr 4 (.fr 5 (.fl 6 (.fl 7 (.fl 8 (.st 9 [1, 3, 4, 5] (.st 10 [] (.fl 11 .done))))))))))))), (2, (.fl 0 (.fr 1 (.fl 2 (.fr 3 (.fl 4 (.fr 5 (.fl 6 (.st 7 [3, 5] (.fl 8 (.fl 9 (.fl 10 .done))))))))))))]
def c_auct_House_Winner : VCode :=
 (.seq (.reg [⟨(some 3), none, .box 28 (.t 1)⟩,
   ⟨(some 4), none, .new 28 [(.int .i64 0), (.int .i64 0)]⟩,
   ⟨(some 5), none, .mov (.c (.raw (.string (ByteArray.mk #[]))))⟩,
   ⟨(some 6), none, .mov (.c (.raw (.int .i64 0)))⟩,
   ⟨(some 7), none, .mov (.c (.kb false))⟩])
 (.seq (.draw [⟨(some 10), none, .mov (.t 0)⟩,
   ⟨(some 11), none, .nilck (.t 10)⟩,
   ⟨(some 12), none, .faddr 11 (.t 11)⟩,
   ⟨(some 13), none, .load none (.t 12)⟩,
   ⟨(some 14), none, .load (some 2) (.t 3)⟩,
   ⟨(some 15), none, .lookup 69 true (.t 13) (.t 14)⟩,
   ⟨(some 9), none, .mov (.t 15)⟩,
   ⟨(some 16), none, .extr (.t 9) 0⟩,
   ⟨(some 17), none, .extr (.t 9) 1⟩,
   ⟨(some 8), none, .new 77 [(.int .i64 0), (.int .i64 0), (.string (ByteArray.mk #[])), (.int .i64 0)]⟩,
   ⟨none, none, .store (some 4) (.t 8) (.t 16)⟩,
   ⟨(some 7), none, .mov (.t 17)⟩]
   (.fl 0 (.fr 1 (.fl 2 (.fr 3 (.fr 4 (.fr 5 (.fl 6 (.fl 7 (.fl 8 (.st 9 [1, 3, 4, 5] (.st 10 [] (.fl 11 .done)))))))))))))
 (.seq (.draw [⟨(some 18), none, .faddr 0 (.t 8)⟩,
   ⟨(some 19), none, .load (some 2) (.t 18)⟩,
   ⟨(some 20), none, .faddr 2 (.t 8)⟩,
   ⟨(some 21), none, .load none (.t 20)⟩,
   ⟨(some 22), none, .faddr 3 (.t 8)⟩,
   ⟨(some 23), none, .load none (.t 22)⟩,
   ⟨(some 24), none, .mov (.t 7)⟩,
   ⟨none, none, .store (some 2) (.t 4) (.t 19)⟩,
   ⟨(some 5), none, .mov (.t 21)⟩,
   ⟨(some 6), none, .mov (.t 23)⟩,
   ⟨(some 7), none, .mov (.t 24)⟩]
   (.fl 0 (.fr 1 (.fl 2 (.fr 3 (.fl 4 (.fr 5 (.fl 6 (.st 7 [3, 5] (.fl 8 (.fl 9 (.fl 10 .done))))))))))))
 .ret)))
theorem i_auct_House_Winner : Is Tryd.prog 15 25 [.cell 4 (some 2), .t 5, .t 6, .t 7] c_auct_House_Winner := ⟨Tryd.f15, _, p_auct_House_Winner, rfl, rfl, by kernel_rfl, by kernel_rfl, rfl⟩
def p_rostrumlaw24_some : List (Nat × Pl) := []
def c_rostrumlaw24_some : VCode :=
 (.seq (.reg [⟨(some 0), none, .mov (.c (.raw (.pointer none)))⟩])
 (.seq (.reg [⟨(some 7), none, .call 10 []⟩,
   ⟨(some 1), none, .mov (.t 7)⟩])
 (.seq (.seq (.reg [⟨(some 8), none, .mov (.t 1)⟩,
   ⟨(some 9), none, .bin .eql .p (.t 8) (.c (.raw (.pointer none)))⟩])
 (.cond (.t 9)
  (.seq (.reg [⟨(some 0), none, .mov (.c (.raw (.pointer none)))⟩])
  .ret)
  .skip))
 (.seq (.reg [⟨(some 11), none, .mov (.t 1)⟩,
   ⟨(some 12), none, .build [(.int .i64 0), (.int .i64 0)] [(1, 1, (.c (.raw (.int .i64 1))))]⟩,
   ⟨(some 13), none, .build [(.int .i64 0), (.int .i64 0), (.int .i64 0), (.int .i64 0), (.int .i64 0), (.int .i64 0), (.int .i64 0), (.int .i64 0), (.int .i64 0), (.int .i64 0), (.int .i64 0), (.string (ByteArray.mk #[])), (.string (ByteArray.mk #[])), (.int .i64 0), (.int .i64 0), (.int .i64 0), (.int .i64 0), (.int .i64 0), (.int .i64 0)] [(0, 1, (.c (.raw (.int .i64 5)))), (1, 2, (.t 12)), (12, 1, (.c (.raw (.string (ByteArray.mk #[65, 110, 110])))))]⟩,
   ⟨(some 14), none, .call 14 [(.t 11), (.t 13)]⟩,
   ⟨(some 10), none, .mov (.t 14)⟩,
   ⟨(some 15), none, .extr (.t 10) 0⟩,
   ⟨(some 16), none, .extr (.t 10) 1⟩,
   ⟨(some 2), none, .mov (.t 15)⟩,
   ⟨(some 3), none, .mov (.t 16)⟩])
 (.seq (.reg [⟨(some 17), none, .mov (.t 1)⟩,
   ⟨(some 18), none, .build [(.int .i64 0), (.int .i64 0)] [(1, 1, (.c (.raw (.int .i64 1))))]⟩,
   ⟨(some 19), none, .build [(.int .i64 0), (.int .i64 0), (.int .i64 0), (.int .i64 0), (.int .i64 0), (.int .i64 0), (.int .i64 0), (.int .i64 0), (.int .i64 0), (.int .i64 0), (.int .i64 0), (.string (ByteArray.mk #[])), (.string (ByteArray.mk #[])), (.int .i64 0), (.int .i64 0), (.int .i64 0), (.int .i64 0), (.int .i64 0), (.int .i64 0)] [(0, 1, (.c (.raw (.int .i64 1)))), (1, 2, (.t 18)), (10, 1, (.c (.raw (.int .i64 1)))), (11, 1, (.c (.raw (.string (ByteArray.mk #[118, 97, 115, 101])))))]⟩,
   ⟨(some 20), none, .call 11 [(.t 17), (.t 19)]⟩,
   ⟨(some 4), none, .mov (.t 20)⟩])
 (.seq (.reg [⟨(some 21), none, .mov (.t 1)⟩,
   ⟨(some 22), none, .build [(.int .i64 0), (.int .i64 0)] [(1, 1, (.c (.raw (.int .i64 2))))]⟩,
   ⟨(some 23), none, .build [(.int .i64 0), (.int .i64 0), (.int .i64 0), (.int .i64 0), (.int .i64 0), (.int .i64 0), (.int .i64 0)] [(0, 1, (.c (.raw (.int .i64 1))))]⟩,
   ⟨(some 24), none, .build [(.int .i64 0), (.int .i64 0)] [(1, 1, (.c (.raw (.int .i64 1))))]⟩,
   ⟨(some 25), none, .build [(.int .i64 0), (.int .i64 0), (.int .i64 0), (.int .i64 0), (.int .i64 0), (.int .i64 0), (.int .i64 0), (.int .i64 0), (.int .i64 0), (.int .i64 0), (.int .i64 0), (.string (ByteArray.mk #[])), (.string (ByteArray.mk #[])), (.int .i64 0), (.int .i64 0), (.int .i64 0), (.int .i64 0), (.int .i64 0), (.int .i64 0)] [(0, 1, (.c (.raw (.int .i64 2)))), (1, 2, (.t 22)), (3, 7, (.t 23)), (10, 1, (.c (.raw (.int .i64 1)))), (13, 2, (.t 24)), (12, 1, (.c (.raw (.string (ByteArray.mk #[97, 110, 110]))))), (17, 1, (.c (.raw (.int .i64 5))))]⟩,
   ⟨(some 26), none, .call 11 [(.t 21), (.t 25)]⟩,
   ⟨(some 5), none, .mov (.t 26)⟩])
 (.seq (.reg [⟨(some 27), none, .mov (.t 1)⟩,
   ⟨(some 28), none, .build [(.int .i64 0), (.int .i64 0)] [(1, 1, (.c (.raw (.int .i64 3))))]⟩,
   ⟨(some 29), none, .build [(.int .i64 0), (.int .i64 0), (.int .i64 0), (.int .i64 0), (.int .i64 0), (.int .i64 0), (.int .i64 0)] [(0, 1, (.c (.raw (.int .i64 2))))]⟩,
   ⟨(some 30), none, .build [(.int .i64 0), (.int .i64 0)] [(1, 1, (.c (.raw (.int .i64 1))))]⟩,
   ⟨(some 31), none, .build [(.int .i64 0), (.int .i64 0), (.int .i64 0), (.int .i64 0), (.int .i64 0), (.int .i64 0), (.int .i64 0), (.int .i64 0), (.int .i64 0), (.int .i64 0), (.int .i64 0), (.string (ByteArray.mk #[])), (.string (ByteArray.mk #[])), (.int .i64 0), (.int .i64 0), (.int .i64 0), (.int .i64 0), (.int .i64 0), (.int .i64 0)] [(0, 1, (.c (.raw (.int .i64 2)))), (1, 2, (.t 28)), (3, 7, (.t 29)), (10, 1, (.c (.raw (.int .i64 1)))), (13, 2, (.t 30)), (12, 1, (.c (.raw (.string (ByteArray.mk #[97, 110, 110]))))), (17, 1, (.c (.raw (.int .i64 7))))]⟩,
   ⟨(some 32), none, .call 11 [(.t 27), (.t 31)]⟩,
   ⟨(some 6), none, .mov (.t 32)⟩])
 (.seq (.seq (.reg [⟨(some 33), none, .mov (.t 2)⟩,
   ⟨(some 34), none, .un .not (.t 33)⟩,
   ⟨(some 35), none, .mov (.t 34)⟩,
   ⟨(some 36), (some (35, false)), .mov (.t 3)⟩,
   ⟨(some 37), (some (35, false)), .bin .neq .no (.t 36) (.c (.raw (.int .i64 0)))⟩,
   ⟨(some 38), none, .pick (.t 35) (.c (.kb true)) (.t 37)⟩,
   ⟨(some 39), none, .mov (.t 38)⟩,
   ⟨(some 40), (some (39, false)), .mov (.t 4)⟩,
   ⟨(some 41), (some (39, false)), .bin .neq .no (.t 40) (.c (.raw (.int .i64 0)))⟩,
   ⟨(some 42), none, .pick (.t 39) (.c (.kb true)) (.t 41)⟩,
   ⟨(some 43), none, .mov (.t 42)⟩,
   ⟨(some 44), (some (43, false)), .mov (.t 5)⟩,
   ⟨(some 45), (some (43, false)), .bin .neq .no (.t 44) (.c (.raw (.int .i64 0)))⟩,
   ⟨(some 46), none, .pick (.t 43) (.c (.kb true)) (.t 45)⟩,
   ⟨(some 47), none, .mov (.t 46)⟩,
   ⟨(some 48), (some (47, false)), .mov (.t 6)⟩,
   ⟨(some 49), (some (47, false)), .bin .neq .no (.t 48) (.c (.raw (.int .i64 0)))⟩,
   ⟨(some 50), none, .pick (.t 47) (.c (.kb true)) (.t 49)⟩])
 (.cond (.t 50)
  (.seq (.reg [⟨(some 0), none, .mov (.c (.raw (.pointer none)))⟩])
  .ret)
  .skip))
 (.seq (.reg [⟨(some 51), none, .mov (.t 1)⟩,
   ⟨(some 0), none, .mov (.t 51)⟩])
 .ret)))))))))
theorem i_rostrumlaw24_some : Is Tryd.prog 16 52 [.t 0] c_rostrumlaw24_some := ⟨Tryd.f16, _, p_rostrumlaw24_some, rfl, rfl, by kernel_rfl, by kernel_rfl, rfl⟩
def p_auct_House_Balance : List (Nat × Pl) := [(1, (.fl 0 (.fl 1 (.fl 3 (.fr 4 (.fl 5 (.fr 6 (.fl 7 (.st 2 [4, 6] (.st 8 [4, 6] (.fr 9 (.fl 10 (.fl 11 .done)))))))))))))]
def c_auct_House_Balance : VCode :=
 (.seq (.reg [⟨(some 4), none, .mov (.c (.raw (.int .i64 0)))⟩])
 (.seq (.draw [⟨(some 5), none, .mov (.t 0)⟩,
   ⟨(some 6), none, .mov (.t 1)⟩,
   ⟨(some 7), none, .call 28 [(.t 5), (.t 6)]⟩,
   ⟨(some 8), none, .mov (.t 0)⟩,
   ⟨(some 9), none, .nilck (.t 8)⟩,
   ⟨(some 10), none, .faddr 10 (.t 9)⟩,
   ⟨(some 11), none, .load none (.t 10)⟩,
   ⟨(some 12), none, .mov (.t 1)⟩,
   ⟨(some 13), none, .call 35 [(.t 12)]⟩,
   ⟨(some 14), none, .lookup 68 false (.t 11) (.t 13)⟩,
   ⟨(some 15), none, .bin .sub .no (.t 7) (.t 14)⟩,
   ⟨(some 4), none, .mov (.t 15)⟩]
   (.fl 0 (.fl 1 (.fl 3 (.fr 4 (.fl 5 (.fr 6 (.fl 7 (.st 2 [4, 6] (.st 8 [4, 6] (.fr 9 (.fl 10 (.fl 11 .done)))))))))))))
 .ret))
theorem i_auct_House_Balance : Is Tryd.prog 17 16 [.t 4] c_auct_House_Balance := ⟨Tryd.f17, _, p_auct_House_Balance, rfl, rfl, by kernel_rfl, by kernel_rfl, rfl⟩
def p_auct_Red : List (Nat × Pl) := []
def c_auct_Red : VCode :=
 (.seq (.reg [⟨(some 1), none, .box 34 (.t 0)⟩,
   ⟨(some 2), none, .mov (.c (.kb false))⟩])
 (.seq (.reg [⟨(some 3), none, .faddr 0 (.t 1)⟩,
   ⟨(some 4), none, .load none (.t 3)⟩,
   ⟨(some 5), none, .bin .geq .no (.t 4) (.c (.raw (.int .i64 5)))⟩,
   ⟨(some 6), none, .mov (.t 5)⟩,
   ⟨(some 7), (some (6, true)), .faddr 0 (.t 1)⟩,
   ⟨(some 8), (some (6, true)), .load none (.t 7)⟩,
   ⟨(some 9), (some (6, true)), .bin .leq .no (.t 8) (.c (.raw (.int .i64 7)))⟩,
   ⟨(some 10), none, .pick (.t 6) (.t 9) (.c (.kb false))⟩,
   ⟨(some 2), none, .mov (.t 10)⟩])
 .ret))
theorem i_auct_Red : Is Tryd.prog 18 11 [.t 2] c_auct_Red := ⟨Tryd.f18, _, p_auct_Red, rfl, rfl, by kernel_rfl, by kernel_rfl, rfl⟩
def p_auct_Good : List (Nat × Pl) := [(3, (.fr 0 (.st 1 [] (.fl 2 (.fl 3 (.fl 4 (.fl 5 (.fr 6 (.fl 7 (.fr 8 (.fr 9 (.fl 10 (.fl 11 (.fr 12 (.fl 13 (.fl 14 (.fl 15 .done)))))))))))))))))]
def c_auct_Good : VCode :=
 (.seq (.reg [⟨(some 1), none, .box 34 (.t 0)⟩,
   ⟨(some 2), none, .mov (.c (.kb false))⟩])
 (.seq (.seq (.reg [⟨(some 9), none, .faddr 0 (.t 1)⟩,
   ⟨(some 10), none, .load none (.t 9)⟩,
   ⟨(some 11), none, .bin .lss .no (.t 10) (.c (.raw (.int .i64 1)))⟩,
   ⟨(some 12), none, .mov (.t 11)⟩,
   ⟨(some 13), (some (12, false)), .faddr 0 (.t 1)⟩,
   ⟨(some 14), (some (12, false)), .load none (.t 13)⟩,
   ⟨(some 15), (some (12, false)), .bin .gtr .no (.t 14) (.c (.raw (.int .i64 7)))⟩,
   ⟨(some 16), none, .pick (.t 12) (.c (.kb true)) (.t 15)⟩,
   ⟨(some 17), none, .mov (.t 16)⟩,
   ⟨(some 18), (some (17, false)), .faddr 1 (.t 1)⟩,
   ⟨(some 19), (some (17, false)), .load (some 2) (.t 18)⟩,
   ⟨(some 20), (some (17, false)), .call 37 [(.t 19)]⟩,
   ⟨(some 21), (some (17, false)), .un .not (.t 20)⟩,
   ⟨(some 22), none, .pick (.t 17) (.c (.kb true)) (.t 21)⟩,
   ⟨(some 23), none, .mov (.t 22)⟩,
   ⟨(some 24), (some (23, false)), .faddr 3 (.t 1)⟩,
   ⟨(some 25), (some (23, false)), .load (some 7) (.t 24)⟩,
   ⟨(some 26), (some (23, false)), .call 38 [(.t 25)]⟩,
   ⟨(some 27), (some (23, false)), .un .not (.t 26)⟩,
   ⟨(some 28), none, .pick (.t 23) (.c (.kb true)) (.t 27)⟩,
   ⟨(some 29), none, .mov (.t 28)⟩,
   ⟨(some 30), (some (29, false)), .faddr 10 (.t 1)⟩,
   ⟨(some 31), (some (29, false)), .load none (.t 30)⟩,
   ⟨(some 32), (some (29, false)), .bin .lss .no (.t 31) (.c (.raw (.int .i64 0)))⟩,
   ⟨(some 33), none, .pick (.t 29) (.c (.kb true)) (.t 32)⟩,
   ⟨(some 34), none, .mov (.t 33)⟩,
   ⟨(some 35), (some (34, false)), .faddr 10 (.t 1)⟩,
   ⟨(some 36), (some (34, false)), .load none (.t 35)⟩,
   ⟨(some 37), (some (34, false)), .bin .gtr .no (.t 36) (.c (.raw (.int .i64 1000)))⟩,
   ⟨(some 38), none, .pick (.t 34) (.c (.kb true)) (.t 37)⟩])
 (.cond (.t 38)
  (.seq (.reg [⟨(some 2), none, .mov (.c (.kb false))⟩])
  .ret)
  .skip))
 (.seq (.seq (.draw [⟨(some 39), none, .load (some 19) (.t 1)⟩,
   ⟨(some 40), none, .call 18 [(.t 39)]⟩,
   ⟨(some 41), none, .un .not (.t 40)⟩,
   ⟨(some 42), none, .mov (.t 41)⟩,
   ⟨(some 43), (some (42, true)), .faddr 1 (.t 1)⟩,
   ⟨(some 44), (some (42, true)), .faddr 0 (.t 43)⟩,
   ⟨(some 45), (some (42, true)), .load none (.t 44)⟩,
   ⟨(some 46), (some (42, true)), .faddr 3 (.t 1)⟩,
   ⟨(some 47), (some (42, true)), .iaddr 1 (some 7) (.t 46) (.t 45)⟩,
   ⟨(some 48), (some (42, true)), .load none (.t 47)⟩,
   ⟨(some 49), (some (42, true)), .faddr 1 (.t 1)⟩,
   ⟨(some 50), (some (42, true)), .faddr 1 (.t 49)⟩,
   ⟨(some 51), (some (42, true)), .load none (.t 50)⟩,
   ⟨(some 52), (some (42, true)), .bin .sub .no (.t 51) (.c (.raw (.int .i64 1)))⟩,
   ⟨(some 53), (some (42, true)), .bin .neq .no (.t 48) (.t 52)⟩,
   ⟨(some 54), none, .pick (.t 42) (.t 53) (.c (.kb false))⟩]
   (.fr 0 (.st 1 [] (.fl 2 (.fl 3 (.fl 4 (.fl 5 (.fr 6 (.fl 7 (.fr 8 (.fr 9 (.fl 10 (.fl 11 (.fr 12 (.fl 13 (.fl 14 (.fl 15 .done)))))))))))))))))
 (.cond (.t 54)
  (.seq (.reg [⟨(some 2), none, .mov (.c (.kb false))⟩])
  .ret)
  .skip))
 (.seq (.reg [⟨(some 56), none, .faddr 0 (.t 1)⟩,
   ⟨(some 57), none, .load none (.t 56)⟩,
   ⟨(some 58), none, .call 39 [(.t 57)]⟩,
   ⟨(some 55), none, .mov (.t 58)⟩,
   ⟨(some 59), none, .extr (.t 55) 0⟩,
   ⟨(some 60), none, .extr (.t 55) 1⟩,
   ⟨(some 61), none, .extr (.t 55) 2⟩,
   ⟨(some 62), none, .extr (.t 55) 3⟩,
   ⟨(some 63), none, .extr (.t 55) 4⟩,
   ⟨(some 64), none, .extr (.t 55) 5⟩,
   ⟨(some 3), none, .mov (.t 59)⟩,
   ⟨(some 4), none, .mov (.t 60)⟩,
   ⟨(some 5), none, .mov (.t 61)⟩,
   ⟨(some 6), none, .mov (.t 62)⟩,
   ⟨(some 7), none, .mov (.t 63)⟩,
   ⟨(some 8), none, .mov (.t 64)⟩])
 (.seq (.reg [⟨(some 65), none, .faddr 11 (.t 1)⟩,
   ⟨(some 66), none, .load none (.t 65)⟩,
   ⟨(some 67), none, .mov (.t 3)⟩,
   ⟨(some 68), none, .call 40 [(.t 66), (.t 67)]⟩,
   ⟨(some 69), none, .mov (.t 68)⟩,
   ⟨(some 70), (some (69, true)), .faddr 12 (.t 1)⟩,
   ⟨(some 71), (some (69, true)), .load none (.t 70)⟩,
   ⟨(some 72), (some (69, true)), .mov (.t 4)⟩,
   ⟨(some 73), (some (69, true)), .call 40 [(.t 71), (.t 72)]⟩,
   ⟨(some 74), none, .pick (.t 69) (.t 73) (.c (.kb false))⟩,
   ⟨(some 75), none, .mov (.t 74)⟩,
   ⟨(some 76), (some (75, true)), .faddr 13 (.t 1)⟩,
   ⟨(some 77), (some (75, true)), .load (some 2) (.t 76)⟩,
   ⟨(some 78), (some (75, true)), .mov (.t 5)⟩,
   ⟨(some 79), (some (75, true)), .call 41 [(.t 77), (.t 78)]⟩,
   ⟨(some 80), none, .pick (.t 75) (.t 79) (.c (.kb false))⟩,
   ⟨(some 81), none, .mov (.t 80)⟩,
   ⟨(some 82), (some (81, true)), .faddr 15 (.t 1)⟩,
   ⟨(some 83), (some (81, true)), .load (some 2) (.t 82)⟩,
   ⟨(some 84), (some (81, true)), .mov (.t 6)⟩,
   ⟨(some 85), (some (81, true)), .call 41 [(.t 83), (.t 84)]⟩,
   ⟨(some 86), none, .pick (.t 81) (.t 85) (.c (.kb false))⟩,
   ⟨(some 87), none, .mov (.t 86)⟩,
   ⟨(some 88), (some (87, true)), .faddr 17 (.t 1)⟩,
   ⟨(some 89), (some (87, true)), .load none (.t 88)⟩,
   ⟨(some 90), (some (87, true)), .mov (.t 7)⟩,
   ⟨(some 91), (some (87, true)), .call 42 [(.t 89), (.c (.raw (.int .i64 1))), (.c (.raw (.int .i64 1000000000))), (.t 90)]⟩,
   ⟨(some 92), none, .pick (.t 87) (.t 91) (.c (.kb false))⟩,
   ⟨(some 93), none, .mov (.t 92)⟩,
   ⟨(some 94), (some (93, true)), .faddr 18 (.t 1)⟩,
   ⟨(some 95), (some (93, true)), .load none (.t 94)⟩,
   ⟨(some 96), (some (93, true)), .mov (.t 8)⟩,
   ⟨(some 97), (some (93, true)), .call 42 [(.t 95), (.c (.raw (.int .i64 0))), (.c (.raw (.int .i64 1125899906842624))), (.t 96)]⟩,
   ⟨(some 98), none, .pick (.t 93) (.t 97) (.c (.kb false))⟩,
   ⟨(some 2), none, .mov (.t 98)⟩])
 .ret)))))
theorem i_auct_Good : Is Tryd.prog 19 99 [.t 2] c_auct_Good := ⟨Tryd.f19, _, p_auct_Good, rfl, rfl, by kernel_rfl, by kernel_rfl, rfl⟩
def p_rostrumlaw24_long : List (Nat × Pl) := []
def c_rostrumlaw24_long : VCode :=
 (.seq (.reg [⟨(some 1), none, .box 34 (.t 0)⟩,
   ⟨(some 2), none, .mov (.c (.kb false))⟩])
 (.seq (.reg [⟨(some 3), none, .faddr 11 (.t 1)⟩,
   ⟨(some 4), none, .load none (.t 3)⟩,
   ⟨(some 5), none, .len .str (.t 4)⟩,
   ⟨(some 6), none, .bin .gtr .no (.t 5) (.c (.raw (.int .i64 100)))⟩,
   ⟨(some 7), none, .mov (.t 6)⟩,
   ⟨(some 8), (some (7, false)), .faddr 12 (.t 1)⟩,
   ⟨(some 9), (some (7, false)), .load none (.t 8)⟩,
   ⟨(some 10), (some (7, false)), .len .str (.t 9)⟩,
   ⟨(some 11), (some (7, false)), .bin .gtr .no (.t 10) (.c (.raw (.int .i64 100)))⟩,
   ⟨(some 12), none, .pick (.t 7) (.c (.kb true)) (.t 11)⟩,
   ⟨(some 2), none, .mov (.t 12)⟩])
 .ret))
theorem i_rostrumlaw24_long : Is Tryd.prog 20 13 [.t 2] c_rostrumlaw24_long := ⟨Tryd.f20, _, p_rostrumlaw24_long, rfl, rfl, by kernel_rfl, by kernel_rfl, rfl⟩
def p_rostrumlaw24_settle : List (Nat × Pl) := []
def c_rostrumlaw24_settle : VCode :=
 (.seq (.reg [⟨(some 8), none, .mov (.c (.raw (.int .i64 0)))⟩])
 (.seq (.reg [⟨(some 9), none, .mov (.c (.raw (.int .i64 0)))⟩])
 (.block 0 (.loop (.seq (.seq (.reg [⟨(some 15), none, .mov (.t 9)⟩,
    ⟨(some 16), none, .mov (.t 1)⟩,
    ⟨(some 17), none, .len .sl (.t 16)⟩,
    ⟨(some 18), none, .mov (.t 2)⟩,
    ⟨(some 19), none, .len .sl (.t 18)⟩,
    ⟨(some 20), none, .bin .add .no (.t 17) (.t 19)⟩,
    ⟨(some 21), none, .bin .leq .no (.t 15) (.t 20)⟩])
  (.cond (.t 21)
   .skip
   (.exit 0)))
  (.seq (.block 1 (.seq (.seq (.reg [⟨(some 10), none, .mov (.c (.raw (.int .i64 0)))⟩])
  (.block 2 (.loop (.seq (.seq (.reg [⟨(some 24), none, .mov (.t 10)⟩,
     ⟨(some 25), none, .mov (.t 3)⟩,
     ⟨(some 26), none, .len .sl (.t 25)⟩,
     ⟨(some 27), none, .bin .lss .no (.t 24) (.t 26)⟩,
     ⟨(some 28), none, .mov (.t 27)⟩,
     ⟨(some 29), (some (28, true)), .mov (.t 1)⟩,
     ⟨(some 30), (some (28, true)), .len .sl (.t 29)⟩,
     ⟨(some 31), (some (28, true)), .bin .gtr .no (.t 30) (.c (.raw (.int .i64 0)))⟩,
     ⟨(some 32), none, .pick (.t 28) (.t 31) (.c (.kb false))⟩,
     ⟨(some 33), none, .mov (.t 32)⟩,
     ⟨(some 34), (some (33, true)), .mov (.t 9)⟩,
     ⟨(some 35), (some (33, true)), .bin .eql .no (.t 34) (.c (.raw (.int .i64 0)))⟩,
     ⟨(some 36), none, .pick (.t 33) (.t 35) (.c (.kb false))⟩])
   (.cond (.t 36)
    .skip
    (.exit 2)))
   (.seq (.block 3 (.seq (.reg [⟨(some 39), none, .mov (.t 3)⟩,
     ⟨(some 40), none, .mov (.t 10)⟩,
     ⟨(some 41), none, .iaddr 1 none (.t 39) (.t 40)⟩,
     ⟨(some 42), none, .load none (.t 41)⟩,
     ⟨(some 43), none, .bin .geq .no (.t 42) (.c (.raw (.int .i64 0)))⟩])
   (.cond (.t 43)
    (.reg [⟨(some 44), none, .mov (.t 0)⟩,
      ⟨(some 45), none, .mov (.t 1)⟩,
      ⟨(some 46), none, .mov (.t 3)⟩,
      ⟨(some 47), none, .mov (.t 10)⟩,
      ⟨(some 48), none, .iaddr 1 none (.t 46) (.t 47)⟩,
      ⟨(some 49), none, .load none (.t 48)⟩,
      ⟨(some 50), none, .mov (.t 1)⟩,
      ⟨(some 51), none, .len .sl (.t 50)⟩,
      ⟨(some 52), none, .bin .rem .no (.t 49) (.t 51)⟩,
      ⟨(some 53), none, .iaddr 19 none (.t 45) (.t 52)⟩,
      ⟨(some 54), none, .load (some 19) (.t 53)⟩,
      ⟨(some 55), none, .call 11 [(.t 44), (.t 54)]⟩])
    .skip)))
   (.reg [⟨(some 37), none, .mov (.t 10)⟩,
     ⟨(some 38), none, .bin .add .no (.t 37) (.c (.raw (.int .i64 1)))⟩,
     ⟨(some 10), none, .mov (.t 38)⟩]))))))
  (.seq (.seq (.reg [⟨(some 11), none, .mov (.c (.raw (.int .i64 0)))⟩])
  (.block 4 (.loop (.seq (.seq (.reg [⟨(some 56), none, .mov (.t 11)⟩,
     ⟨(some 57), none, .mov (.t 1)⟩,
     ⟨(some 58), none, .len .sl (.t 57)⟩,
     ⟨(some 59), none, .bin .lss .no (.t 56) (.t 58)⟩])
   (.cond (.t 59)
    .skip
    (.exit 4)))
   (.seq (.block 5 (.seq (.reg [⟨(some 62), none, .mov (.t 11)⟩,
     ⟨(some 12), none, .mov (.t 62)⟩])
   (.seq (.seq (.reg [⟨(some 63), none, .mov (.t 3)⟩,
     ⟨(some 64), none, .bin .neq .sl (.t 63) (.c (.raw (.slice none 0 0)))⟩])
   (.cond (.t 64)
    (.reg [⟨(some 65), none, .mov (.t 1)⟩,
      ⟨(some 66), none, .len .sl (.t 65)⟩,
      ⟨(some 67), none, .bin .sub .no (.t 66) (.c (.raw (.int .i64 1)))⟩,
      ⟨(some 68), none, .mov (.t 11)⟩,
      ⟨(some 69), none, .bin .sub .no (.t 67) (.t 68)⟩,
      ⟨(some 12), none, .mov (.t 69)⟩])
    .skip))
   (.reg [⟨(some 70), none, .mov (.t 0)⟩,
     ⟨(some 71), none, .mov (.t 1)⟩,
     ⟨(some 72), none, .mov (.t 12)⟩,
     ⟨(some 73), none, .iaddr 19 none (.t 71) (.t 72)⟩,
     ⟨(some 74), none, .load (some 19) (.t 73)⟩,
     ⟨(some 75), none, .call 11 [(.t 70), (.t 74)]⟩]))))
   (.reg [⟨(some 60), none, .mov (.t 11)⟩,
     ⟨(some 61), none, .bin .add .no (.t 60) (.c (.raw (.int .i64 1)))⟩,
     ⟨(some 11), none, .mov (.t 61)⟩]))))))
  (.block 6 (.loop (.seq (.seq (.reg [⟨(some 76), none, .mov (.t 8)⟩,
     ⟨(some 77), none, .mov (.t 2)⟩,
     ⟨(some 78), none, .len .sl (.t 77)⟩,
     ⟨(some 79), none, .bin .lss .no (.t 76) (.t 78)⟩])
   (.cond (.t 79)
    .skip
    (.exit 6)))
   (.block 7 (.seq (.reg [⟨(some 81), none, .mov (.t 0)⟩,
     ⟨(some 82), none, .mov (.t 2)⟩,
     ⟨(some 83), none, .mov (.t 8)⟩,
     ⟨(some 84), none, .iaddr 19 none (.t 82) (.t 83)⟩,
     ⟨(some 85), none, .load (some 19) (.t 84)⟩,
     ⟨(some 86), none, .call 14 [(.t 81), (.t 85)]⟩,
     ⟨(some 80), none, .mov (.t 86)⟩,
     ⟨(some 87), none, .extr (.t 80) 0⟩,
     ⟨(some 88), none, .extr (.t 80) 1⟩,
     ⟨(some 13), none, .mov (.t 87)⟩,
     ⟨(some 14), none, .mov (.t 88)⟩])
   (.seq (.seq (.reg [⟨(some 89), none, .mov (.t 14)⟩,
     ⟨(some 90), none, .bin .eql .no (.t 89) (.c (.raw (.int .i64 8)))⟩])
   (.cond (.t 90)
    (.exit 6)
    .skip))
   (.reg [⟨(some 91), none, .mov (.t 8)⟩,
     ⟨(some 92), none, .bin .add .no (.t 91) (.c (.raw (.int .i64 1)))⟩,
     ⟨(some 8), none, .mov (.t 92)⟩]))))))))))
  (.reg [⟨(some 22), none, .mov (.t 9)⟩,
    ⟨(some 23), none, .bin .add .no (.t 22) (.c (.raw (.int .i64 1)))⟩,
    ⟨(some 9), none, .mov (.t 23)⟩])))))))
theorem i_rostrumlaw24_settle : Is Tryd.prog 21 93 [] c_rostrumlaw24_settle := ⟨Tryd.f21, _, p_rostrumlaw24_settle, rfl, rfl, by kernel_rfl, by kernel_rfl, rfl⟩
def p_auct_Same : List (Nat × Pl) := []
def c_auct_Same : VCode :=
 (.seq (.reg [⟨(some 4), none, .mov (.c (.kb false))⟩])
 (.seq (.reg [⟨(some 5), none, .mov (.t 0)⟩,
   ⟨(some 6), none, .call 44 [(.t 5)]⟩,
   ⟨(some 7), none, .mov (.t 1)⟩,
   ⟨(some 8), none, .call 44 [(.t 7)]⟩,
   ⟨(some 9), none, .call 43 [(.t 6), (.t 8)]⟩,
   ⟨(some 4), none, .mov (.t 9)⟩])
 .ret))
theorem i_auct_Same : Is Tryd.prog 22 10 [.t 4] c_auct_Same := ⟨Tryd.f22, _, p_auct_Same, rfl, rfl, by kernel_rfl, by kernel_rfl, rfl⟩
def p_auct_House_Reds : List (Nat × Pl) := []
def c_auct_House_Reds : VCode :=
 (.seq (.reg [⟨(some 2), none, .mov (.c (.raw (.int .i64 0)))⟩])
 (.seq (.reg [⟨(some 3), none, .mov (.t 0)⟩,
   ⟨(some 4), none, .nilck (.t 3)⟩,
   ⟨(some 5), none, .faddr 8 (.t 4)⟩,
   ⟨(some 6), none, .load none (.t 5)⟩,
   ⟨(some 7), none, .len .sl (.t 6)⟩,
   ⟨(some 2), none, .mov (.t 7)⟩])
 .ret))
theorem i_auct_House_Reds : Is Tryd.prog 23 8 [.t 2] c_auct_House_Reds := ⟨Tryd.f23, _, p_auct_House_Reds, rfl, rfl, by kernel_rfl, by kernel_rfl, rfl⟩
def p_auct_House_Have : List (Nat × Pl) := []
def c_auct_House_Have : VCode :=
 (.seq (.reg [⟨(some 2), none, .new 32 [(.int .i64 0), (.int .i64 0), (.int .i64 0), (.int .i64 0), (.int .i64 0), (.int .i64 0), (.int .i64 0)]⟩])
 (.seq (.reg [⟨(some 3), none, .mov (.t 0)⟩,
   ⟨(some 4), none, .nilck (.t 3)⟩,
   ⟨(some 5), none, .faddr 0 (.t 4)⟩,
   ⟨(some 6), none, .load (some 7) (.t 5)⟩,
   ⟨none, none, .store (some 7) (.t 2) (.t 6)⟩])
 .ret))
theorem i_auct_House_Have : Is Tryd.prog 24 7 [.cell 2 (some 7)] c_auct_House_Have := ⟨Tryd.f24, _, p_auct_House_Have, rfl, rfl, by kernel_rfl, by kernel_rfl, rfl⟩
def p_rostrumref1_GoodName : List (Nat × Pl) := []
def c_rostrumref1_GoodName : VCode :=
 (.seq (.reg [⟨(some 2), none, .mov (.c (.kb false))⟩])
 (.seq (.reg [⟨(some 7), none, .mov (.t 0)⟩,
   ⟨(some 8), none, .call 45 [(.t 7)]⟩,
   ⟨(some 6), none, .mov (.t 8)⟩,
   ⟨(some 9), none, .extr (.t 6) 0⟩,
   ⟨(some 10), none, .extr (.t 6) 1⟩,
   ⟨(some 3), none, .mov (.t 9)⟩,
   ⟨(some 4), none, .mov (.t 10)⟩])
 (.seq (.seq (.reg [⟨(some 11), none, .mov (.t 3)⟩,
   ⟨(some 12), none, .len .sl (.t 11)⟩,
   ⟨(some 13), none, .bin .lss .no (.t 12) (.c (.raw (.int .i64 1)))⟩,
   ⟨(some 14), none, .mov (.t 13)⟩,
   ⟨(some 15), (some (14, false)), .mov (.t 3)⟩,
   ⟨(some 16), (some (14, false)), .len .sl (.t 15)⟩,
   ⟨(some 17), (some (14, false)), .bin .gtr .no (.t 16) (.c (.raw (.int .i64 20)))⟩,
   ⟨(some 18), none, .pick (.t 14) (.c (.kb true)) (.t 17)⟩,
   ⟨(some 19), none, .mov (.t 18)⟩,
   ⟨(some 20), (some (19, false)), .mov (.t 3)⟩,
   ⟨(some 21), (some (19, false)), .iaddr 1 none (.t 20) (.c (.raw (.int .i64 0)))⟩,
   ⟨(some 22), (some (19, false)), .load none (.t 21)⟩,
   ⟨(some 23), (some (19, false)), .call 46 [(.t 22)]⟩,
   ⟨(some 24), (some (19, false)), .un .not (.t 23)⟩,
   ⟨(some 25), none, .pick (.t 19) (.c (.kb true)) (.t 24)⟩])
 (.cond (.t 25)
  (.seq (.reg [⟨(some 2), none, .mov (.c (.kb false))⟩])
  .ret)
  .skip))
 (.seq (.seq (.reg [⟨(some 5), none, .mov (.c (.raw (.int .i64 0)))⟩])
 (.block 0 (.loop (.seq (.seq (.reg [⟨(some 26), none, .mov (.t 5)⟩,
    ⟨(some 27), none, .mov (.t 3)⟩,
    ⟨(some 28), none, .len .sl (.t 27)⟩,
    ⟨(some 29), none, .bin .lss .no (.t 26) (.t 28)⟩])
  (.cond (.t 29)
   .skip
   (.exit 0)))
  (.seq (.block 1 (.seq (.reg [⟨(some 32), none, .mov (.t 0)⟩,
    ⟨(some 33), none, .mov (.t 3)⟩,
    ⟨(some 34), none, .mov (.t 4)⟩,
    ⟨(some 35), none, .mov (.t 5)⟩,
    ⟨(some 36), none, .call 47 [(.t 32), (.t 33), (.t 34), (.t 35)]⟩,
    ⟨(some 37), none, .mov (.t 36)⟩,
    ⟨(some 38), (some (37, false)), .mov (.t 3)⟩,
    ⟨(some 39), (some (37, false)), .mov (.t 5)⟩,
    ⟨(some 40), (some (37, false)), .iaddr 1 none (.t 38) (.t 39)⟩,
    ⟨(some 41), (some (37, false)), .load none (.t 40)⟩,
    ⟨(some 42), (some (37, false)), .call 46 [(.t 41)]⟩,
    ⟨(some 43), (some (37, false)), .un .not (.t 42)⟩,
    ⟨(some 44), (some (37, false)), .mov (.t 43)⟩,
    ⟨(some 45), (some (44, true)), .mov (.t 3)⟩,
    ⟨(some 46), (some (44, true)), .mov (.t 5)⟩,
    ⟨(some 47), (some (44, true)), .iaddr 1 none (.t 45) (.t 46)⟩,
    ⟨(some 48), (some (44, true)), .load none (.t 47)⟩,
    ⟨(some 49), (some (44, true)), .call 48 [(.t 48)]⟩,
    ⟨(some 50), (some (44, true)), .un .not (.t 49)⟩,
    ⟨(some 51), (some (37, false)), .pick (.t 44) (.t 50) (.c (.kb false))⟩,
    ⟨(some 52), (some (37, false)), .mov (.t 51)⟩,
    ⟨(some 53), (some (52, true)), .mov (.t 3)⟩,
    ⟨(some 54), (some (52, true)), .mov (.t 5)⟩,
    ⟨(some 55), (some (52, true)), .iaddr 1 none (.t 53) (.t 54)⟩,
    ⟨(some 56), (some (52, true)), .load none (.t 55)⟩,
    ⟨(some 57), (some (52, true)), .bin .neq .no (.t 56) (.c (.raw (.int .i32 45)))⟩,
    ⟨(some 58), (some (37, false)), .pick (.t 52) (.t 57) (.c (.kb false))⟩,
    ⟨(some 59), none, .pick (.t 37) (.c (.kb true)) (.t 58)⟩])
  (.cond (.t 59)
   (.seq (.reg [⟨(some 2), none, .mov (.c (.kb false))⟩])
   .ret)
   .skip)))
  (.reg [⟨(some 30), none, .mov (.t 5)⟩,
    ⟨(some 31), none, .bin .add .no (.t 30) (.c (.raw (.int .i64 1)))⟩,
    ⟨(some 5), none, .mov (.t 31)⟩]))))))
 (.seq (.reg [⟨(some 2), none, .mov (.c (.kb true))⟩])
 .ret)))))
theorem i_rostrumref1_GoodName : Is Tryd.prog 25 60 [.t 2] c_rostrumref1_GoodName := ⟨Tryd.f25, _, p_rostrumref1_GoodName, rfl, rfl, by kernel_rfl, by kernel_rfl, rfl⟩
def p_rostrumref1_Fold : List (Nat × Pl) := []
def c_rostrumref1_Fold : VCode :=
 (.seq (.reg [⟨(some 2), none, .mov (.c (.raw (.string (ByteArray.mk #[]))))⟩])
 (.seq (.reg [⟨(some 7), none, .mov (.t 0)⟩,
   ⟨(some 8), none, .call 45 [(.t 7)]⟩,
   ⟨(some 6), none, .mov (.t 8)⟩,
   ⟨(some 9), none, .extr (.t 6) 0⟩,
   ⟨(some 10), none, .extr (.t 6) 1⟩,
   ⟨(some 3), none, .mov (.t 9)⟩,
   ⟨(some 4), none, .mov (.t 10)⟩])
 (.seq (.seq (.reg [⟨(some 5), none, .mov (.c (.raw (.int .i64 0)))⟩])
 (.block 0 (.loop (.seq (.seq (.reg [⟨(some 11), none, .mov (.t 5)⟩,
    ⟨(some 12), none, .mov (.t 3)⟩,
    ⟨(some 13), none, .len .sl (.t 12)⟩,
    ⟨(some 14), none, .bin .lss .no (.t 11) (.t 13)⟩])
  (.cond (.t 14)
   .skip
   (.exit 0)))
  (.seq (.block 1 (.reg [⟨(some 17), none, .mov (.t 3)⟩,
    ⟨(some 18), none, .mov (.t 5)⟩,
    ⟨(some 19), none, .mov (.t 3)⟩,
    ⟨(some 20), none, .mov (.t 5)⟩,
    ⟨(some 21), none, .iaddr 1 none (.t 19) (.t 20)⟩,
    ⟨(some 22), none, .load none (.t 21)⟩,
    ⟨(some 23), none, .call 49 [(.t 22)]⟩,
    ⟨(some 24), none, .iaddr 1 none (.t 17) (.t 18)⟩,
    ⟨none, none, .store none (.t 24) (.t 23)⟩]))
  (.reg [⟨(some 15), none, .mov (.t 5)⟩,
    ⟨(some 16), none, .bin .add .no (.t 15) (.c (.raw (.int .i64 1)))⟩,
    ⟨(some 5), none, .mov (.t 16)⟩]))))))
 (.seq (.reg [⟨(some 25), none, .mov (.t 3)⟩,
   ⟨(some 26), none, .conv .r2s (.t 25)⟩,
   ⟨(some 2), none, .mov (.t 26)⟩])
 .ret))))
theorem i_rostrumref1_Fold : Is Tryd.prog 26 27 [.t 2] c_rostrumref1_Fold := ⟨Tryd.f26, _, p_rostrumref1_Fold, rfl, rfl, by kernel_rfl, by kernel_rfl, rfl⟩
def p_auct_House_Users : List (Nat × Pl) := []
def c_auct_House_Users : VCode :=
 (.seq (.reg [⟨(some 2), none, .mov (.c (.raw (.slice none 0 0)))⟩])
 (.seq (.reg [⟨(some 3), none, .mov (.c (.raw (.slice none 0 0)))⟩])
 (.seq (.seq (.reg [⟨(some 5), none, .mov (.t 0)⟩,
   ⟨(some 6), none, .nilck (.t 5)⟩,
   ⟨(some 7), none, .faddr 9 (.t 6)⟩,
   ⟨(some 8), none, .load none (.t 7)⟩,
   ⟨(some 9), none, .range false (.t 8)⟩])
 (.block 0 (.loop (.seq (.reg [⟨(some 10), none, .next false (.t 9)⟩,
    ⟨(some 11), none, .extr (.t 10) 0⟩])
  (.seq (.cond (.t 11)
   .skip
   (.exit 0))
  (.block 1 (.seq (.reg [⟨(some 12), none, .entry (.t 9)⟩,
    ⟨(some 13), none, .extr (.t 12) 0⟩,
    ⟨(some 4), none, .mov (.t 13)⟩])
  (.reg [⟨(some 14), none, .mov (.t 3)⟩,
    ⟨(some 15), none, .mov (.t 4)⟩,
    ⟨(some 16), none, .bslice 9 1 [(.string (ByteArray.mk #[]))] [(0, 1, (.t 15))]⟩,
    ⟨(some 17), none, .append 9 1 16 [(.string (ByteArray.mk #[]))] (.t 14) (.t 16)⟩,
    ⟨(some 3), none, .mov (.t 17)⟩]))))))))
 (.seq (.reg [⟨(some 18), none, .mov (.t 3)⟩,
   ⟨(some 19), none, .call 50 [(.t 18)]⟩])
 (.seq (.reg [⟨(some 20), none, .mov (.t 3)⟩,
   ⟨(some 2), none, .mov (.t 20)⟩])
 .ret)))))
theorem i_auct_House_Users : Is Tryd.prog 27 21 [.t 2] c_auct_House_Users := ⟨Tryd.f27, _, p_auct_House_Users, rfl, rfl, by kernel_rfl, by kernel_rfl, rfl⟩
def p_auct_House_Deposited : List (Nat × Pl) := []
def c_auct_House_Deposited : VCode :=
 (.seq (.reg [⟨(some 4), none, .mov (.c (.raw (.int .i64 0)))⟩])
 (.seq (.reg [⟨(some 5), none, .mov (.c (.raw (.int .i64 0)))⟩])
 (.seq (.seq (.reg [⟨(some 8), none, .mov (.t 0)⟩,
   ⟨(some 9), none, .nilck (.t 8)⟩,
   ⟨(some 10), none, .faddr 7 (.t 9)⟩,
   ⟨(some 11), none, .load none (.t 10)⟩,
   ⟨(some 12), none, .range false (.t 11)⟩])
 (.block 0 (.loop (.seq (.reg [⟨(some 13), none, .next false (.t 12)⟩,
    ⟨(some 14), none, .extr (.t 13) 0⟩])
  (.seq (.cond (.t 14)
   .skip
   (.exit 0))
  (.block 1 (.seq (.reg [⟨(some 15), none, .entry (.t 12)⟩,
    ⟨(some 16), none, .extr (.t 15) 1⟩,
    ⟨(some 7), none, .new 34 [(.int .i64 0), (.int .i64 0), (.int .i64 0), (.int .i64 0), (.int .i64 0), (.int .i64 0), (.int .i64 0), (.int .i64 0), (.int .i64 0), (.int .i64 0), (.int .i64 0), (.string (ByteArray.mk #[])), (.string (ByteArray.mk #[])), (.int .i64 0), (.int .i64 0), (.int .i64 0), (.int .i64 0), (.int .i64 0), (.int .i64 0)]⟩,
    ⟨none, none, .store (some 19) (.t 7) (.t 16)⟩])
  (.seq (.reg [⟨(some 17), none, .faddr 0 (.t 7)⟩,
    ⟨(some 18), none, .load none (.t 17)⟩,
    ⟨(some 19), none, .bin .eql .no (.t 18) (.c (.raw (.int .i64 4)))⟩,
    ⟨(some 20), none, .mov (.t 19)⟩,
    ⟨(some 21), (some (20, true)), .faddr 12 (.t 7)⟩,
    ⟨(some 22), (some (20, true)), .load none (.t 21)⟩,
    ⟨(some 23), (some (20, true)), .call 35 [(.t 22)]⟩,
    ⟨(some 24), (some (20, true)), .mov (.t 1)⟩,
    ⟨(some 25), (some (20, true)), .call 35 [(.t 24)]⟩,
    ⟨(some 26), (some (20, true)), .bin .eql .no (.t 23) (.t 25)⟩,
    ⟨(some 27), none, .pick (.t 20) (.t 26) (.c (.kb false))⟩])
  (.cond (.t 27)
   (.reg [⟨(some 28), none, .mov (.t 5)⟩,
     ⟨(some 29), none, .faddr 17 (.t 7)⟩,
     ⟨(some 30), none, .load none (.t 29)⟩,
     ⟨(some 31), none, .bin .add .no (.t 28) (.t 30)⟩,
     ⟨(some 32), none, .min (.t 31) (.c (.raw (.int .i64 1125899906842624)))⟩,
     ⟨(some 5), none, .mov (.t 32)⟩])
   .skip)))))))))
 (.seq (.reg [⟨(some 33), none, .mov (.t 5)⟩,
   ⟨(some 4), none, .mov (.t 33)⟩])
 .ret))))
theorem i_auct_House_Deposited : Is Tryd.prog 28 34 [.t 4] c_auct_House_Deposited := ⟨Tryd.f28, _, p_auct_House_Deposited, rfl, rfl, by kernel_rfl, by kernel_rfl, rfl⟩
def p_auct_House_Auctions : List (Nat × Pl) := []
def c_auct_House_Auctions : VCode :=
 (.seq (.reg [⟨(some 2), none, .mov (.c (.raw (.slice none 0 0)))⟩])
 (.seq (.reg [⟨(some 3), none, .mov (.c (.raw (.slice none 0 0)))⟩])
 (.seq (.seq (.reg [⟨(some 6), none, .mov (.t 0)⟩,
   ⟨(some 7), none, .nilck (.t 6)⟩,
   ⟨(some 8), none, .faddr 7 (.t 7)⟩,
   ⟨(some 9), none, .load none (.t 8)⟩,
   ⟨(some 10), none, .range false (.t 9)⟩])
 (.block 0 (.loop (.seq (.reg [⟨(some 11), none, .next false (.t 10)⟩,
    ⟨(some 12), none, .extr (.t 11) 0⟩])
  (.seq (.cond (.t 12)
   .skip
   (.exit 0))
  (.block 1 (.seq (.reg [⟨(some 13), none, .entry (.t 10)⟩,
    ⟨(some 14), none, .extr (.t 13) 0⟩,
    ⟨(some 15), none, .extr (.t 13) 1⟩,
    ⟨(some 4), none, .new 28 [(.int .i64 0), (.int .i64 0)]⟩,
    ⟨(some 5), none, .new 34 [(.int .i64 0), (.int .i64 0), (.int .i64 0), (.int .i64 0), (.int .i64 0), (.int .i64 0), (.int .i64 0), (.int .i64 0), (.int .i64 0), (.int .i64 0), (.int .i64 0), (.string (ByteArray.mk #[])), (.string (ByteArray.mk #[])), (.int .i64 0), (.int .i64 0), (.int .i64 0), (.int .i64 0), (.int .i64 0), (.int .i64 0)]⟩,
    ⟨none, none, .store (some 2) (.t 4) (.t 14)⟩,
    ⟨none, none, .store (some 19) (.t 5) (.t 15)⟩])
  (.seq (.reg [⟨(some 16), none, .faddr 0 (.t 5)⟩,
    ⟨(some 17), none, .load none (.t 16)⟩,
    ⟨(some 18), none, .bin .eql .no (.t 17) (.c (.raw (.int .i64 1)))⟩])
  (.cond (.t 18)
   (.reg [⟨(some 19), none, .mov (.t 3)⟩,
     ⟨(some 20), none, .load (some 2) (.t 4)⟩,
     ⟨(some 21), none, .bslice 28 1 [(.int .i64 0), (.int .i64 0)] [(0, 2, (.t 20))]⟩,
     ⟨(some 22), none, .append 28 2 16 [(.int .i64 0), (.int .i64 0)] (.t 19) (.t 21)⟩,
     ⟨(some 3), none, .mov (.t 22)⟩])
   .skip)))))))))
 (.seq (.reg [⟨(some 23), none, .mov (.t 3)⟩,
   ⟨(some 24), none, .call 51 [(.t 23), (.c (.fn 52 []))]⟩])
 (.seq (.reg [⟨(some 25), none, .mov (.t 3)⟩,
   ⟨(some 2), none, .mov (.t 25)⟩])
 .ret)))))
theorem i_auct_House_Auctions : Is Tryd.prog 29 26 [.t 2] c_auct_House_Auctions := ⟨Tryd.f29, _, p_auct_House_Auctions, rfl, rfl, by kernel_rfl, by kernel_rfl, rfl⟩
def p_auct_House_Open : List (Nat × Pl) := [(1, (.fl 0 (.fr 1 (.fl 2 (.fr 3 (.fr 4 (.fr 5 (.fl 6 (.fl 7 (.fl 8 (.st 9 [1, 3, 4, 5] (.st 10 [] (.fl 11 .done))))))))))))), (2, (.fl 0 (.fr 1 (.fl 2 (.fr 3 (.fr 4 (.fr 5 (.fl 6 (.fl 7 (.fl 8 (.fl 9 (.fl 10 (.fl 11 (.fl 12 .done))))))))))))))]
def c_auct_House_Open : VCode :=
 (.seq (.reg [⟨(some 3), none, .box 28 (.t 1)⟩,
   ⟨(some 4), none, .mov (.c (.kb false))⟩])
 (.seq (.draw [⟨(some 8), none, .mov (.t 0)⟩,
   ⟨(some 9), none, .nilck (.t 8)⟩,
   ⟨(some 10), none, .faddr 11 (.t 9)⟩,
   ⟨(some 11), none, .load none (.t 10)⟩,
   ⟨(some 12), none, .load (some 2) (.t 3)⟩,
   ⟨(some 13), none, .lookup 69 true (.t 11) (.t 12)⟩,
   ⟨(some 7), none, .mov (.t 13)⟩,
   ⟨(some 14), none, .extr (.t 7) 0⟩,
   ⟨(some 15), none, .extr (.t 7) 1⟩,
   ⟨(some 5), none, .new 77 [(.int .i64 0), (.int .i64 0), (.string (ByteArray.mk #[])), (.int .i64 0)]⟩,
   ⟨none, none, .store (some 4) (.t 5) (.t 14)⟩,
   ⟨(some 6), none, .mov (.t 15)⟩]
   (.fl 0 (.fr 1 (.fl 2 (.fr 3 (.fr 4 (.fr 5 (.fl 6 (.fl 7 (.fl 8 (.st 9 [1, 3, 4, 5] (.st 10 [] (.fl 11 .done)))))))))))))
 (.seq (.draw [⟨(some 16), none, .mov (.t 0)⟩,
   ⟨(some 17), none, .nilck (.t 16)⟩,
   ⟨(some 18), none, .faddr 7 (.t 17)⟩,
   ⟨(some 19), none, .load none (.t 18)⟩,
   ⟨(some 20), none, .load (some 2) (.t 3)⟩,
   ⟨(some 21), none, .lookup 66 false (.t 19) (.t 20)⟩,
   ⟨(some 22), none, .field 0 none (.t 21)⟩,
   ⟨(some 23), none, .bin .eql .no (.t 22) (.c (.raw (.int .i64 1)))⟩,
   ⟨(some 24), none, .mov (.t 23)⟩,
   ⟨(some 25), (some (24, true)), .mov (.t 6)⟩,
   ⟨(some 26), (some (24, true)), .un .not (.t 25)⟩,
   ⟨(some 27), none, .pick (.t 24) (.t 26) (.c (.kb false))⟩,
   ⟨(some 4), none, .mov (.t 27)⟩]
   (.fl 0 (.fr 1 (.fl 2 (.fr 3 (.fr 4 (.fr 5 (.fl 6 (.fl 7 (.fl 8 (.fl 9 (.fl 10 (.fl 11 (.fl 12 .done))))))))))))))
 .ret)))
theorem i_auct_House_Open : Is Tryd.prog 30 28 [.t 4] c_auct_House_Open := ⟨Tryd.f30, _, p_auct_House_Open, rfl, rfl, by kernel_rfl, by kernel_rfl, rfl⟩
def p_vec_Has : List (Nat × Pl) := [(1, (.fl 0 (.fr 1 (.st 2 [] (.fl 3 (.fl 4 (.fr 5 (.fl 6 (.fl 7 (.fl 8 (.fl 9 (.fr 10 (.fl 11 (.fr 12 (.fr 13 (.fr 14 (.fl 15 (.fl 16 (.fl 17 .done)))))))))))))))))))]
def c_vec_Has : VCode :=
 (.seq (.reg [⟨(some 2), none, .box 32 (.t 0)⟩,
   ⟨(some 3), none, .box 28 (.t 1)⟩,
   ⟨(some 4), none, .mov (.c (.kb false))⟩])
 (.seq (.draw [⟨(some 5), none, .faddr 0 (.t 3)⟩,
   ⟨(some 6), none, .load none (.t 5)⟩,
   ⟨(some 7), none, .call 53 [(.t 6)]⟩,
   ⟨(some 8), none, .mov (.t 7)⟩,
   ⟨(some 9), (some (8, true)), .faddr 1 (.t 3)⟩,
   ⟨(some 10), (some (8, true)), .load none (.t 9)⟩,
   ⟨(some 11), (some (8, true)), .bin .geq .no (.t 10) (.c (.raw (.int .i64 1)))⟩,
   ⟨(some 12), none, .pick (.t 8) (.t 11) (.c (.kb false))⟩,
   ⟨(some 13), none, .mov (.t 12)⟩,
   ⟨(some 14), (some (13, true)), .faddr 1 (.t 3)⟩,
   ⟨(some 15), (some (13, true)), .load none (.t 14)⟩,
   ⟨(some 16), (some (13, true)), .faddr 0 (.t 3)⟩,
   ⟨(some 17), (some (13, true)), .load none (.t 16)⟩,
   ⟨(some 18), (some (13, true)), .iaddr 1 (some 7) (.t 2) (.t 17)⟩,
   ⟨(some 19), (some (13, true)), .load none (.t 18)⟩,
   ⟨(some 20), (some (13, true)), .bin .leq .no (.t 15) (.t 19)⟩,
   ⟨(some 21), none, .pick (.t 13) (.t 20) (.c (.kb false))⟩,
   ⟨(some 4), none, .mov (.t 21)⟩]
   (.fl 0 (.fr 1 (.st 2 [] (.fl 3 (.fl 4 (.fr 5 (.fl 6 (.fl 7 (.fl 8 (.fl 9 (.fr 10 (.fl 11 (.fr 12 (.fr 13 (.fr 14 (.fl 15 (.fl 16 (.fl 17 .done)))))))))))))))))))
 .ret))
theorem i_vec_Has : Is Tryd.prog 31 22 [.t 4] c_vec_Has := ⟨Tryd.f31, _, p_vec_Has, rfl, rfl, by kernel_rfl, by kernel_rfl, rfl⟩
def p_vec_Le : List (Nat × Pl) := [(4, (.fl 0 (.fr 1 (.fr 2 (.fl 3 (.fr 4 (.fr 5 (.fl 6 .done))))))))]
def c_vec_Le : VCode :=
 (.seq (.reg [⟨(some 2), none, .box 32 (.t 0)⟩,
   ⟨(some 3), none, .box 32 (.t 1)⟩,
   ⟨(some 4), none, .mov (.c (.kb false))⟩])
 (.seq (.seq (.reg [⟨(some 6), none, .mov (.c (.raw (.int .i64 0)))⟩])
 (.block 0 (.loop (.seq (.reg [⟨(some 7), none, .bin .lss .no (.t 6) (.c (.raw (.int .i64 7)))⟩])
  (.seq (.cond (.t 7)
   .skip
   (.exit 0))
  (.seq (.block 1 (.seq (.reg [⟨(some 8), none, .mov (.t 6)⟩,
    ⟨(some 5), none, .mov (.t 8)⟩])
  (.seq (.draw [⟨(some 9), none, .mov (.t 5)⟩,
    ⟨(some 10), none, .iaddr 1 (some 7) (.t 2) (.t 9)⟩,
    ⟨(some 11), none, .load none (.t 10)⟩,
    ⟨(some 12), none, .mov (.t 5)⟩,
    ⟨(some 13), none, .iaddr 1 (some 7) (.t 3) (.t 12)⟩,
    ⟨(some 14), none, .load none (.t 13)⟩,
    ⟨(some 15), none, .bin .gtr .no (.t 11) (.t 14)⟩]
    (.fl 0 (.fr 1 (.fr 2 (.fl 3 (.fr 4 (.fr 5 (.fl 6 .done))))))))
  (.cond (.t 15)
   (.seq (.reg [⟨(some 4), none, .mov (.c (.kb false))⟩])
   .ret)
   .skip))))
  (.reg [⟨(some 16), none, .bin .add .no (.t 6) (.c (.raw (.int .i64 1)))⟩,
    ⟨(some 6), none, .mov (.t 16)⟩])))))))
 (.seq (.reg [⟨(some 4), none, .mov (.c (.kb true))⟩])
 .ret)))
theorem i_vec_Le : Is Tryd.prog 32 17 [.t 4] c_vec_Le := ⟨Tryd.f32, _, p_vec_Le, rfl, rfl, by kernel_rfl, by kernel_rfl, rfl⟩
def p_auct_House_best : List (Nat × Pl) := []
def c_auct_House_best : VCode :=
 (.seq (.reg [⟨(some 2), none, .box 25 (.t 0)⟩,
   ⟨(some 4), none, .new 28 [(.int .i64 0), (.int .i64 0)]⟩,
   ⟨(some 5), none, .mov (.c (.kb false))⟩])
 (.seq (.seq (.reg [⟨(some 6), none, .mov (.t 1)⟩,
   ⟨(some 7), none, .len .sl (.t 6)⟩,
   ⟨(some 8), none, .bin .eql .no (.t 7) (.c (.raw (.int .i64 0)))⟩])
 (.cond (.t 8)
  (.seq (.reg [⟨(some 9), none, .build [(.int .i64 0), (.int .i64 0)] []⟩,
    ⟨none, none, .store (some 2) (.t 4) (.t 9)⟩,
    ⟨(some 5), none, .mov (.c (.kb false))⟩])
  .ret)
  .skip))
 (.seq (.reg [⟨(some 10), none, .mov (.t 1)⟩,
   ⟨(some 11), none, .mkfn 55 [(.t 2)]⟩,
   ⟨(some 12), none, .call 54 [(.t 10), (.t 11)]⟩,
   ⟨none, none, .store (some 2) (.t 4) (.t 12)⟩,
   ⟨(some 5), none, .mov (.c (.kb true))⟩])
 .ret)))
theorem i_auct_House_best : Is Tryd.prog 33 13 [.cell 4 (some 2), .t 5] c_auct_House_best := ⟨Tryd.f33, _, p_auct_House_best, rfl, rfl, by kernel_rfl, by kernel_rfl, rfl⟩
def p_auct_House_bids : List (Nat × Pl) := []
def c_auct_House_bids : VCode :=
 (.seq (.reg [⟨(some 4), none, .box 28 (.t 1)⟩,
   ⟨(some 5), none, .box 32 (.t 2)⟩,
   ⟨(some 6), none, .mov (.c (.raw (.slice none 0 0)))⟩])
 (.seq (.reg [⟨(some 11), none, .mkmap⟩,
   ⟨(some 7), none, .new 102 [(.map none)]⟩,
   ⟨none, none, .store none (.t 7) (.t 11)⟩])
 (.seq (.reg [⟨(some 8), none, .mov (.c (.raw (.slice none 0 0)))⟩])
 (.seq (.seq (.reg [⟨(some 12), none, .mov (.t 0)⟩,
   ⟨(some 13), none, .nilck (.t 12)⟩,
   ⟨(some 14), none, .faddr 7 (.t 13)⟩,
   ⟨(some 15), none, .load none (.t 14)⟩,
   ⟨(some 16), none, .range false (.t 15)⟩])
 (.block 0 (.loop (.seq (.reg [⟨(some 17), none, .next false (.t 16)⟩,
    ⟨(some 18), none, .extr (.t 17) 0⟩])
  (.seq (.cond (.t 18)
   .skip
   (.exit 0))
  (.block 1 (.seq (.reg [⟨(some 19), none, .entry (.t 16)⟩,
    ⟨(some 20), none, .extr (.t 19) 0⟩,
    ⟨(some 21), none, .extr (.t 19) 1⟩,
    ⟨(some 9), none, .new 28 [(.int .i64 0), (.int .i64 0)]⟩,
    ⟨(some 10), none, .new 34 [(.int .i64 0), (.int .i64 0), (.int .i64 0), (.int .i64 0), (.int .i64 0), (.int .i64 0), (.int .i64 0), (.int .i64 0), (.int .i64 0), (.int .i64 0), (.int .i64 0), (.string (ByteArray.mk #[])), (.string (ByteArray.mk #[])), (.int .i64 0), (.int .i64 0), (.int .i64 0), (.int .i64 0), (.int .i64 0), (.int .i64 0)]⟩,
    ⟨none, none, .store (some 2) (.t 9) (.t 20)⟩,
    ⟨none, none, .store (some 19) (.t 10) (.t 21)⟩])
  (.block 2 (.seq (.reg [⟨(some 23), none, .load (some 7) (.t 5)⟩,
    ⟨(some 24), none, .load (some 2) (.t 9)⟩,
    ⟨(some 25), none, .call 31 [(.t 23), (.t 24)]⟩,
    ⟨(some 26), none, .un .not (.t 25)⟩,
    ⟨(some 22), none, .mov (.t 26)⟩])
  (.cond (.t 22)
   .skip
   (.seq (.reg [⟨(some 28), none, .faddr 0 (.t 10)⟩,
     ⟨(some 29), none, .load none (.t 28)⟩,
     ⟨(some 30), none, .bin .eql .no (.t 29) (.c (.raw (.int .i64 3)))⟩,
     ⟨(some 27), none, .mov (.t 30)⟩])
   (.cond (.t 27)
    (.reg [⟨(some 31), none, .load none (.t 7)⟩,
      ⟨(some 32), none, .faddr 15 (.t 10)⟩,
      ⟨(some 33), none, .load (some 2) (.t 32)⟩,
      ⟨none, none, .mapup 102 (.t 31) (.t 33) (.c (.kb true))⟩])
    (.seq (.reg [⟨(some 35), none, .faddr 0 (.t 10)⟩,
      ⟨(some 36), none, .load none (.t 35)⟩,
      ⟨(some 37), none, .bin .eql .no (.t 36) (.c (.raw (.int .i64 2)))⟩,
      ⟨(some 38), none, .mov (.t 37)⟩,
      ⟨(some 39), (some (38, true)), .faddr 13 (.t 10)⟩,
      ⟨(some 40), (some (38, true)), .load (some 2) (.t 39)⟩,
      ⟨(some 41), (some (38, true)), .load (some 2) (.t 4)⟩,
      ⟨(some 42), (some (38, true)), .bin .eql (.agg [.i, .i]) (.t 40) (.t 41)⟩,
      ⟨(some 43), none, .pick (.t 38) (.t 42) (.c (.kb false))⟩,
      ⟨(some 34), none, .mov (.t 43)⟩])
    (.cond (.t 34)
     (.reg [⟨(some 44), none, .mov (.t 8)⟩,
       ⟨(some 45), none, .load (some 2) (.t 9)⟩,
       ⟨(some 46), none, .bslice 28 1 [(.int .i64 0), (.int .i64 0)] [(0, 2, (.t 45))]⟩,
       ⟨(some 47), none, .append 28 2 16 [(.int .i64 0), (.int .i64 0)] (.t 44) (.t 46)⟩,
       ⟨(some 8), none, .mov (.t 47)⟩])
     .skip))))))))))))))
 (.seq (.reg [⟨(some 48), none, .mov (.t 8)⟩,
   ⟨(some 49), none, .call 51 [(.t 48), (.c (.fn 52 []))]⟩])
 (.seq (.reg [⟨(some 50), none, .mov (.t 8)⟩,
   ⟨(some 51), none, .mkfn 59 [(.t 7)]⟩,
   ⟨(some 52), none, .call 58 [(.t 50), (.t 51)]⟩,
   ⟨(some 6), none, .mov (.t 52)⟩])
 .ret))))))
theorem i_auct_House_bids : Is Tryd.prog 34 53 [.t 6] c_auct_House_bids := ⟨Tryd.f34, _, p_auct_House_bids, rfl, rfl, by kernel_rfl, by kernel_rfl, rfl⟩
def p_name_Fold : List (Nat × Pl) := []
def c_name_Fold : VCode :=
 (.seq (.reg [⟨(some 2), none, .mov (.c (.raw (.string (ByteArray.mk #[]))))⟩])
 (.seq (.reg [⟨(some 3), none, .new 106 [(.pointer none), (.slice none 0 0)]⟩])
 (.seq (.seq (.reg [⟨(some 6), none, .mov (.t 0)⟩,
   ⟨(some 7), none, .range true (.t 6)⟩])
 (.block 0 (.loop (.seq (.reg [⟨(some 8), none, .next true (.t 7)⟩,
    ⟨(some 9), none, .extr (.t 8) 0⟩])
  (.seq (.cond (.t 9)
   .skip
   (.exit 0))
  (.block 1 (.seq (.reg [⟨(some 10), none, .extr (.t 8) 2⟩,
    ⟨(some 5), none, .mov (.t 10)⟩])
  (.reg [⟨(some 11), none, .mov (.t 5)⟩,
    ⟨(some 12), none, .call 49 [(.t 11)]⟩,
    ⟨(some 13), none, .call 60 [(.t 3), (.t 12)]⟩]))))))))
 (.seq (.reg [⟨(some 14), none, .call 61 [(.t 3)]⟩,
   ⟨(some 2), none, .mov (.t 14)⟩])
 .ret))))
theorem i_name_Fold : Is Tryd.prog 35 15 [.t 2] c_name_Fold := ⟨Tryd.f35, _, p_name_Fold, rfl, rfl, by kernel_rfl, by kernel_rfl, rfl⟩
def p_auct_House_ends : List (Nat × Pl) := [(5, (.fr 0 (.fr 1 (.fr 2 (.fl 3 (.fr 4 (.fr 5 (.fr 6 (.fl 7 (.fr 8 (.fr 9 (.fl 10 (.fr 11 (.fr 12 (.fr 13 (.fl 14 (.fr 15 (.st 16 [] .done))))))))))))))))))]
def c_auct_House_ends : VCode :=
 (.seq (.reg [⟨(some 2), none, .box 25 (.t 0)⟩,
   ⟨(some 3), none, .box 34 (.t 1)⟩,
   ⟨(some 4), none, .new 77 [(.int .i64 0), (.int .i64 0), (.string (ByteArray.mk #[])), (.int .i64 0)]⟩])
 (.seq (.reg [⟨(some 8), none, .load none (.t 2)⟩,
   ⟨(some 9), none, .faddr 13 (.t 3)⟩,
   ⟨(some 10), none, .load (some 2) (.t 9)⟩,
   ⟨(some 11), none, .faddr 3 (.t 3)⟩,
   ⟨(some 12), none, .load (some 7) (.t 11)⟩,
   ⟨(some 13), none, .call 34 [(.t 8), (.t 10), (.t 12)]⟩,
   ⟨(some 14), none, .mkfn 62 [(.t 2)]⟩,
   ⟨(some 15), none, .call 58 [(.t 13), (.t 14)]⟩,
   ⟨(some 5), none, .mov (.t 15)⟩])
 (.seq (.reg [⟨(some 17), none, .load none (.t 2)⟩,
   ⟨(some 18), none, .mov (.t 5)⟩,
   ⟨(some 19), none, .call 33 [(.t 17), (.t 18)]⟩,
   ⟨(some 16), none, .mov (.t 19)⟩,
   ⟨(some 20), none, .extr (.t 16) 0⟩,
   ⟨(some 21), none, .extr (.t 16) 1⟩,
   ⟨(some 6), none, .new 28 [(.int .i64 0), (.int .i64 0)]⟩,
   ⟨none, none, .store (some 2) (.t 6) (.t 20)⟩,
   ⟨(some 7), none, .mov (.t 21)⟩])
 (.seq (.seq (.reg [⟨(some 22), none, .mov (.t 7)⟩,
   ⟨(some 23), none, .un .not (.t 22)⟩])
 (.cond (.t 23)
  (.seq (.reg [⟨(some 24), none, .build [(.int .i64 0), (.int .i64 0), (.string (ByteArray.mk #[])), (.int .i64 0)] []⟩,
    ⟨none, none, .store (some 4) (.t 4) (.t 24)⟩])
  .ret)
  .skip))
 (.seq (.draw [⟨(some 25), none, .load (some 2) (.t 6)⟩,
   ⟨(some 26), none, .load none (.t 2)⟩,
   ⟨(some 27), none, .nilck (.t 26)⟩,
   ⟨(some 28), none, .faddr 7 (.t 27)⟩,
   ⟨(some 29), none, .load none (.t 28)⟩,
   ⟨(some 30), none, .load (some 2) (.t 6)⟩,
   ⟨(some 31), none, .lookup 66 false (.t 29) (.t 30)⟩,
   ⟨(some 32), none, .field 12 none (.t 31)⟩,
   ⟨(some 33), none, .load none (.t 2)⟩,
   ⟨(some 34), none, .nilck (.t 33)⟩,
   ⟨(some 35), none, .faddr 7 (.t 34)⟩,
   ⟨(some 36), none, .load none (.t 35)⟩,
   ⟨(some 37), none, .load (some 2) (.t 6)⟩,
   ⟨(some 38), none, .lookup 66 false (.t 36) (.t 37)⟩,
   ⟨(some 39), none, .field 17 none (.t 38)⟩,
   ⟨(some 40), none, .build [(.int .i64 0), (.int .i64 0), (.string (ByteArray.mk #[])), (.int .i64 0)] [(0, 2, (.t 25)), (2, 1, (.t 32)), (3, 1, (.t 39))]⟩,
   ⟨none, none, .store (some 4) (.t 4) (.t 40)⟩]
   (.fr 0 (.fr 1 (.fr 2 (.fl 3 (.fr 4 (.fr 5 (.fr 6 (.fl 7 (.fr 8 (.fr 9 (.fl 10 (.fr 11 (.fr 12 (.fr 13 (.fl 14 (.fr 15 (.st 16 [] .done))))))))))))))))))
 .ret)))))
theorem i_auct_House_ends : Is Tryd.prog 36 41 [.cell 4 (some 4)] c_auct_House_ends := ⟨Tryd.f36, _, p_auct_House_ends, rfl, rfl, by kernel_rfl, by kernel_rfl, rfl⟩
def p_vec_Dot : List (Nat × Pl) := []
def c_vec_Dot : VCode :=
 (.seq (.reg [⟨(some 1), none, .box 28 (.t 0)⟩,
   ⟨(some 2), none, .mov (.c (.kb false))⟩])
 (.seq (.reg [⟨(some 3), none, .faddr 0 (.t 1)⟩,
   ⟨(some 4), none, .load none (.t 3)⟩,
   ⟨(some 5), none, .call 53 [(.t 4)]⟩,
   ⟨(some 6), none, .mov (.t 5)⟩,
   ⟨(some 7), (some (6, true)), .faddr 1 (.t 1)⟩,
   ⟨(some 8), (some (6, true)), .load none (.t 7)⟩,
   ⟨(some 9), (some (6, true)), .bin .geq .no (.t 8) (.c (.raw (.int .i64 1)))⟩,
   ⟨(some 10), none, .pick (.t 6) (.t 9) (.c (.kb false))⟩,
   ⟨(some 11), none, .mov (.t 10)⟩,
   ⟨(some 12), (some (11, true)), .faddr 1 (.t 1)⟩,
   ⟨(some 13), (some (11, true)), .load none (.t 12)⟩,
   ⟨(some 14), (some (11, true)), .bin .leq .no (.t 13) (.c (.raw (.int .i64 1099511627776)))⟩,
   ⟨(some 15), none, .pick (.t 11) (.t 14) (.c (.kb false))⟩,
   ⟨(some 2), none, .mov (.t 15)⟩])
 .ret))
theorem i_vec_Dot : Is Tryd.prog 37 16 [.t 2] c_vec_Dot := ⟨Tryd.f37, _, p_vec_Dot, rfl, rfl, by kernel_rfl, by kernel_rfl, rfl⟩
def p_vec_Good : List (Nat × Pl) := []
def c_vec_Good : VCode :=
 (.seq (.reg [⟨(some 1), none, .box 32 (.t 0)⟩,
   ⟨(some 2), none, .mov (.c (.kb false))⟩])
 (.seq (.seq (.reg [⟨(some 5), none, .load (some 7) (.t 1)⟩,
   ⟨(some 6), none, .mov (.c (.raw (.int .i64 0)))⟩])
 (.block 0 (.loop (.seq (.reg [⟨(some 7), none, .bin .lss .no (.t 6) (.c (.raw (.int .i64 7)))⟩])
  (.seq (.cond (.t 7)
   .skip
   (.exit 0))
  (.seq (.block 1 (.seq (.reg [⟨(some 8), none, .aindex 7 1 false (.t 5) (.t 6)⟩,
    ⟨(some 4), none, .mov (.t 8)⟩])
  (.seq (.reg [⟨(some 9), none, .mov (.t 4)⟩,
    ⟨(some 10), none, .bin .lss .no (.t 9) (.c (.raw (.int .i64 0)))⟩,
    ⟨(some 11), none, .mov (.t 10)⟩,
    ⟨(some 12), (some (11, false)), .mov (.t 4)⟩,
    ⟨(some 13), (some (11, false)), .bin .gtr .no (.t 12) (.c (.raw (.int .i64 1099511627776)))⟩,
    ⟨(some 14), none, .pick (.t 11) (.c (.kb true)) (.t 13)⟩])
  (.cond (.t 14)
   (.seq (.reg [⟨(some 2), none, .mov (.c (.kb false))⟩])
   .ret)
   .skip))))
  (.reg [⟨(some 15), none, .bin .add .no (.t 6) (.c (.raw (.int .i64 1)))⟩,
    ⟨(some 6), none, .mov (.t 15)⟩])))))))
 (.seq (.reg [⟨(some 2), none, .mov (.c (.kb true))⟩])
 .ret)))
theorem i_vec_Good : Is Tryd.prog 38 16 [.t 2] c_vec_Good := ⟨Tryd.f38, _, p_vec_Good, rfl, rfl, by kernel_rfl, by kernel_rfl, rfl⟩
def p_auct_needs : List (Nat × Pl) := []
def c_auct_needs : VCode :=
 (.seq (.reg [⟨(some 2), none, .mov (.c (.kb false))⟩,
   ⟨(some 3), none, .mov (.c (.kb false))⟩,
   ⟨(some 4), none, .mov (.c (.kb false))⟩,
   ⟨(some 5), none, .mov (.c (.kb false))⟩,
   ⟨(some 6), none, .mov (.c (.kb false))⟩,
   ⟨(some 7), none, .mov (.c (.kb false))⟩])
 (.seq (.reg [⟨(some 8), none, .mov (.t 0)⟩,
   ⟨(some 9), none, .bin .eql .no (.t 8) (.c (.raw (.int .i64 1)))⟩,
   ⟨(some 2), none, .mov (.t 9)⟩])
 (.seq (.reg [⟨(some 10), none, .mov (.t 0)⟩,
   ⟨(some 11), none, .bin .eql .no (.t 10) (.c (.raw (.int .i64 2)))⟩,
   ⟨(some 12), none, .mov (.t 11)⟩,
   ⟨(some 13), (some (12, false)), .mov (.t 0)⟩,
   ⟨(some 14), (some (12, false)), .bin .eql .no (.t 13) (.c (.raw (.int .i64 4)))⟩,
   ⟨(some 15), none, .pick (.t 12) (.c (.kb true)) (.t 14)⟩,
   ⟨(some 16), none, .mov (.t 15)⟩,
   ⟨(some 17), (some (16, false)), .mov (.t 0)⟩,
   ⟨(some 18), (some (16, false)), .bin .eql .no (.t 17) (.c (.raw (.int .i64 5)))⟩,
   ⟨(some 19), none, .pick (.t 16) (.c (.kb true)) (.t 18)⟩,
   ⟨(some 20), none, .mov (.t 19)⟩,
   ⟨(some 21), (some (20, false)), .mov (.t 0)⟩,
   ⟨(some 22), (some (20, false)), .bin .eql .no (.t 21) (.c (.raw (.int .i64 6)))⟩,
   ⟨(some 23), none, .pick (.t 20) (.c (.kb true)) (.t 22)⟩,
   ⟨(some 3), none, .mov (.t 23)⟩])
 (.seq (.reg [⟨(some 24), none, .mov (.t 0)⟩,
   ⟨(some 25), none, .bin .eql .no (.t 24) (.c (.raw (.int .i64 2)))⟩,
   ⟨(some 26), none, .mov (.t 25)⟩,
   ⟨(some 27), (some (26, false)), .mov (.t 0)⟩,
   ⟨(some 28), (some (26, false)), .bin .eql .no (.t 27) (.c (.raw (.int .i64 7)))⟩,
   ⟨(some 29), none, .pick (.t 26) (.c (.kb true)) (.t 28)⟩,
   ⟨(some 4), none, .mov (.t 29)⟩])
 (.seq (.reg [⟨(some 30), none, .mov (.t 0)⟩,
   ⟨(some 31), none, .bin .eql .no (.t 30) (.c (.raw (.int .i64 3)))⟩,
   ⟨(some 5), none, .mov (.t 31)⟩])
 (.seq (.reg [⟨(some 32), none, .mov (.t 0)⟩,
   ⟨(some 33), none, .bin .eql .no (.t 32) (.c (.raw (.int .i64 2)))⟩,
   ⟨(some 34), none, .mov (.t 33)⟩,
   ⟨(some 35), (some (34, false)), .mov (.t 0)⟩,
   ⟨(some 36), (some (34, false)), .bin .eql .no (.t 35) (.c (.raw (.int .i64 4)))⟩,
   ⟨(some 37), none, .pick (.t 34) (.c (.kb true)) (.t 36)⟩,
   ⟨(some 38), none, .mov (.t 37)⟩,
   ⟨(some 39), (some (38, false)), .mov (.t 0)⟩,
   ⟨(some 40), (some (38, false)), .bin .eql .no (.t 39) (.c (.raw (.int .i64 6)))⟩,
   ⟨(some 41), none, .pick (.t 38) (.c (.kb true)) (.t 40)⟩,
   ⟨(some 6), none, .mov (.t 41)⟩])
 (.seq (.reg [⟨(some 42), none, .mov (.t 0)⟩,
   ⟨(some 43), none, .bin .eql .no (.t 42) (.c (.raw (.int .i64 6)))⟩,
   ⟨(some 7), none, .mov (.t 43)⟩])
 (.seq (.reg [⟨(some 44), none, .mov (.t 2)⟩,
   ⟨(some 45), none, .mov (.t 3)⟩,
   ⟨(some 46), none, .mov (.t 4)⟩,
   ⟨(some 47), none, .mov (.t 5)⟩,
   ⟨(some 48), none, .mov (.t 6)⟩,
   ⟨(some 49), none, .mov (.t 7)⟩,
   ⟨(some 2), none, .mov (.t 44)⟩,
   ⟨(some 3), none, .mov (.t 45)⟩,
   ⟨(some 4), none, .mov (.t 46)⟩,
   ⟨(some 5), none, .mov (.t 47)⟩,
   ⟨(some 6), none, .mov (.t 48)⟩,
   ⟨(some 7), none, .mov (.t 49)⟩])
 .ret))))))))
theorem i_auct_needs : Is Tryd.prog 39 50 [.t 2, .t 3, .t 4, .t 5, .t 6, .t 7] c_auct_needs := ⟨Tryd.f39, _, p_auct_needs, rfl, rfl, by kernel_rfl, by kernel_rfl, rfl⟩
def p_auct_word : List (Nat × Pl) := []
def c_auct_word : VCode :=
 (.seq (.reg [⟨(some 4), none, .mov (.c (.kb false))⟩])
 (.seq (.reg [⟨(some 5), none, .mov (.t 1)⟩,
   ⟨(some 6), none, .mov (.t 5)⟩,
   ⟨(some 7), (some (6, true)), .mov (.t 0)⟩,
   ⟨(some 8), (some (6, true)), .call 63 [(.t 7)]⟩,
   ⟨(some 9), none, .pick (.t 6) (.t 8) (.c (.kb false))⟩,
   ⟨(some 10), none, .mov (.t 9)⟩,
   ⟨(some 11), (some (10, false)), .mov (.t 1)⟩,
   ⟨(some 12), (some (10, false)), .un .not (.t 11)⟩,
   ⟨(some 13), (some (10, false)), .mov (.t 12)⟩,
   ⟨(some 14), (some (13, true)), .mov (.t 0)⟩,
   ⟨(some 15), (some (13, true)), .bin .eql .no (.t 14) (.c (.raw (.string (ByteArray.mk #[]))))⟩,
   ⟨(some 16), (some (10, false)), .pick (.t 13) (.t 15) (.c (.kb false))⟩,
   ⟨(some 17), none, .pick (.t 10) (.c (.kb true)) (.t 16)⟩,
   ⟨(some 4), none, .mov (.t 17)⟩])
 .ret))
theorem i_auct_word : Is Tryd.prog 40 18 [.t 4] c_auct_word := ⟨Tryd.f40, _, p_auct_word, rfl, rfl, by kernel_rfl, by kernel_rfl, rfl⟩
def p_auct_point : List (Nat × Pl) := []
def c_auct_point : VCode :=
 (.seq (.reg [⟨(some 2), none, .box 28 (.t 0)⟩,
   ⟨(some 4), none, .mov (.c (.kb false))⟩])
 (.seq (.reg [⟨(some 5), none, .mov (.t 1)⟩,
   ⟨(some 6), none, .mov (.t 5)⟩,
   ⟨(some 7), (some (6, true)), .load (some 2) (.t 2)⟩,
   ⟨(some 8), (some (6, true)), .call 37 [(.t 7)]⟩,
   ⟨(some 9), none, .pick (.t 6) (.t 8) (.c (.kb false))⟩,
   ⟨(some 10), none, .mov (.t 9)⟩,
   ⟨(some 11), (some (10, false)), .mov (.t 1)⟩,
   ⟨(some 12), (some (10, false)), .un .not (.t 11)⟩,
   ⟨(some 13), (some (10, false)), .mov (.t 12)⟩,
   ⟨(some 14), (some (13, true)), .load (some 2) (.t 2)⟩,
   ⟨(some 15), (some (13, true)), .build [(.int .i64 0), (.int .i64 0)] []⟩,
   ⟨(some 16), (some (13, true)), .bin .eql (.agg [.i, .i]) (.t 14) (.t 15)⟩,
   ⟨(some 17), (some (10, false)), .pick (.t 13) (.t 16) (.c (.kb false))⟩,
   ⟨(some 18), none, .pick (.t 10) (.c (.kb true)) (.t 17)⟩,
   ⟨(some 4), none, .mov (.t 18)⟩])
 .ret))
theorem i_auct_point : Is Tryd.prog 41 19 [.t 4] c_auct_point := ⟨Tryd.f41, _, p_auct_point, rfl, rfl, by kernel_rfl, by kernel_rfl, rfl⟩
def p_auct_number : List (Nat × Pl) := []
def c_auct_number : VCode :=
 (.seq (.reg [⟨(some 8), none, .mov (.c (.kb false))⟩])
 (.seq (.reg [⟨(some 9), none, .mov (.t 3)⟩,
   ⟨(some 10), none, .mov (.t 9)⟩,
   ⟨(some 11), (some (10, true)), .mov (.t 0)⟩,
   ⟨(some 12), (some (10, true)), .mov (.t 1)⟩,
   ⟨(some 13), (some (10, true)), .bin .geq .no (.t 11) (.t 12)⟩,
   ⟨(some 14), none, .pick (.t 10) (.t 13) (.c (.kb false))⟩,
   ⟨(some 15), none, .mov (.t 14)⟩,
   ⟨(some 16), (some (15, true)), .mov (.t 0)⟩,
   ⟨(some 17), (some (15, true)), .mov (.t 2)⟩,
   ⟨(some 18), (some (15, true)), .bin .leq .no (.t 16) (.t 17)⟩,
   ⟨(some 19), none, .pick (.t 15) (.t 18) (.c (.kb false))⟩,
   ⟨(some 20), none, .mov (.t 19)⟩,
   ⟨(some 21), (some (20, false)), .mov (.t 3)⟩,
   ⟨(some 22), (some (20, false)), .un .not (.t 21)⟩,
   ⟨(some 23), (some (20, false)), .mov (.t 22)⟩,
   ⟨(some 24), (some (23, true)), .mov (.t 0)⟩,
   ⟨(some 25), (some (23, true)), .bin .eql .no (.t 24) (.c (.raw (.int .i64 0)))⟩,
   ⟨(some 26), (some (20, false)), .pick (.t 23) (.t 25) (.c (.kb false))⟩,
   ⟨(some 27), none, .pick (.t 20) (.c (.kb true)) (.t 26)⟩,
   ⟨(some 8), none, .mov (.t 27)⟩])
 .ret))
theorem i_auct_number : Is Tryd.prog 42 28 [.t 8] c_auct_number := ⟨Tryd.f42, _, p_auct_number, rfl, rfl, by kernel_rfl, by kernel_rfl, rfl⟩
def p_bytes_Equal : List (Nat × Pl) := []
def c_bytes_Equal : VCode :=
 (.seq (.reg [⟨(some 4), none, .mov (.c (.kb false))⟩])
 (.seq (.reg [⟨(some 5), none, .mov (.t 0)⟩,
   ⟨(some 6), none, .conv .b2s (.t 5)⟩,
   ⟨(some 7), none, .mov (.t 1)⟩,
   ⟨(some 8), none, .conv .b2s (.t 7)⟩,
   ⟨(some 9), none, .bin .eql .no (.t 6) (.t 8)⟩,
   ⟨(some 4), none, .mov (.t 9)⟩])
 .ret))
theorem i_bytes_Equal : Is Tryd.prog 43 10 [.t 4] c_bytes_Equal := ⟨Tryd.f43, _, p_bytes_Equal, rfl, rfl, by kernel_rfl, by kernel_rfl, rfl⟩
def p_auct_House_Bytes : List (Nat × Pl) := [(11, (.fl 0 (.fl 1 (.fr 2 (.fl 3 (.fr 4 (.fr 5 (.fr 6 (.st 7 [] (.fl 8 .done))))))))))]
def c_auct_House_Bytes : VCode :=
 (.seq (.reg [⟨(some 2), none, .mov (.c (.raw (.slice none 0 0)))⟩])
 (.seq (.reg [⟨(some 3), none, .mov (.c (.raw (.slice none 0 0)))⟩])
 (.seq (.seq (.reg [⟨(some 10), none, .mov (.t 0)⟩,
   ⟨(some 11), none, .nilck (.t 10)⟩,
   ⟨(some 12), none, .faddr 7 (.t 11)⟩,
   ⟨(some 13), none, .load none (.t 12)⟩,
   ⟨(some 14), none, .range false (.t 13)⟩])
 (.block 0 (.loop (.seq (.reg [⟨(some 15), none, .next false (.t 14)⟩,
    ⟨(some 16), none, .extr (.t 15) 0⟩])
  (.seq (.cond (.t 16)
   .skip
   (.exit 0))
  (.block 1 (.seq (.reg [⟨(some 17), none, .entry (.t 14)⟩,
    ⟨(some 18), none, .extr (.t 17) 0⟩,
    ⟨(some 4), none, .new 28 [(.int .i64 0), (.int .i64 0)]⟩,
    ⟨none, none, .store (some 2) (.t 4) (.t 18)⟩])
  (.reg [⟨(some 19), none, .mov (.t 3)⟩,
    ⟨(some 20), none, .load (some 2) (.t 4)⟩,
    ⟨(some 21), none, .bslice 28 1 [(.int .i64 0), (.int .i64 0)] [(0, 2, (.t 20))]⟩,
    ⟨(some 22), none, .append 28 2 16 [(.int .i64 0), (.int .i64 0)] (.t 19) (.t 21)⟩,
    ⟨(some 3), none, .mov (.t 22)⟩]))))))))
 (.seq (.reg [⟨(some 23), none, .mov (.t 3)⟩,
   ⟨(some 24), none, .call 51 [(.t 23), (.c (.fn 52 []))]⟩])
 (.seq (.reg [⟨(some 25), none, .mov (.t 3)⟩,
   ⟨(some 26), none, .len .sl (.t 25)⟩,
   ⟨(some 27), none, .call 64 [(.c (.raw (.slice none 0 0))), (.t 26)]⟩,
   ⟨(some 5), none, .mov (.t 27)⟩])
 (.seq (.seq (.reg [⟨(some 28), none, .mov (.t 3)⟩,
   ⟨(some 29), none, .len .sl (.t 28)⟩,
   ⟨(some 30), none, .mov (.c (.raw (.int .i64 0)))⟩])
 (.block 2 (.loop (.seq (.reg [⟨(some 31), none, .bin .lss .no (.t 30) (.t 29)⟩])
  (.seq (.cond (.t 31)
   .skip
   (.exit 2))
  (.seq (.block 3 (.seq (.reg [⟨(some 32), none, .iaddr 2 none (.t 28) (.t 30)⟩,
    ⟨(some 33), none, .load (some 2) (.t 32)⟩,
    ⟨(some 7), none, .new 28 [(.int .i64 0), (.int .i64 0)]⟩,
    ⟨none, none, .store (some 2) (.t 7) (.t 33)⟩])
  (.draw [⟨(some 34), none, .mov (.t 5)⟩,
    ⟨(some 35), none, .mov (.t 0)⟩,
    ⟨(some 36), none, .nilck (.t 35)⟩,
    ⟨(some 37), none, .faddr 7 (.t 36)⟩,
    ⟨(some 38), none, .load none (.t 37)⟩,
    ⟨(some 39), none, .load (some 2) (.t 7)⟩,
    ⟨(some 40), none, .lookup 66 false (.t 38) (.t 39)⟩,
    ⟨(some 41), none, .call 65 [(.t 34), (.t 40)]⟩,
    ⟨(some 5), none, .mov (.t 41)⟩]
    (.fl 0 (.fl 1 (.fr 2 (.fl 3 (.fr 4 (.fr 5 (.fr 6 (.st 7 [] (.fl 8 .done))))))))))))
  (.reg [⟨(some 42), none, .bin .add .no (.t 30) (.c (.raw (.int .i64 1)))⟩,
    ⟨(some 30), none, .mov (.t 42)⟩])))))))
 (.seq (.reg [⟨(some 43), none, .mov (.t 5)⟩,
   ⟨(some 44), none, .mov (.t 0)⟩,
   ⟨(some 45), none, .nilck (.t 44)⟩,
   ⟨(some 46), none, .faddr 8 (.t 45)⟩,
   ⟨(some 47), none, .load none (.t 46)⟩,
   ⟨(some 48), none, .len .sl (.t 47)⟩,
   ⟨(some 49), none, .call 64 [(.t 43), (.t 48)]⟩,
   ⟨(some 5), none, .mov (.t 49)⟩])
 (.seq (.seq (.reg [⟨(some 50), none, .mov (.t 0)⟩,
   ⟨(some 51), none, .nilck (.t 50)⟩,
   ⟨(some 52), none, .faddr 8 (.t 51)⟩,
   ⟨(some 53), none, .load none (.t 52)⟩,
   ⟨(some 54), none, .len .sl (.t 53)⟩,
   ⟨(some 55), none, .mov (.c (.raw (.int .i64 0)))⟩])
 (.block 4 (.loop (.seq (.reg [⟨(some 56), none, .bin .lss .no (.t 55) (.t 54)⟩])
  (.seq (.cond (.t 56)
   .skip
   (.exit 4))
  (.seq (.block 5 (.seq (.reg [⟨(some 57), none, .iaddr 19 none (.t 53) (.t 55)⟩,
    ⟨(some 58), none, .load (some 19) (.t 57)⟩,
    ⟨(some 9), none, .new 34 [(.int .i64 0), (.int .i64 0), (.int .i64 0), (.int .i64 0), (.int .i64 0), (.int .i64 0), (.int .i64 0), (.int .i64 0), (.int .i64 0), (.int .i64 0), (.int .i64 0), (.string (ByteArray.mk #[])), (.string (ByteArray.mk #[])), (.int .i64 0), (.int .i64 0), (.int .i64 0), (.int .i64 0), (.int .i64 0), (.int .i64 0)]⟩,
    ⟨none, none, .store (some 19) (.t 9) (.t 58)⟩])
  (.reg [⟨(some 59), none, .mov (.t 5)⟩,
    ⟨(some 60), none, .load (some 19) (.t 9)⟩,
    ⟨(some 61), none, .call 65 [(.t 59), (.t 60)]⟩,
    ⟨(some 5), none, .mov (.t 61)⟩])))
  (.reg [⟨(some 62), none, .bin .add .no (.t 55) (.c (.raw (.int .i64 1)))⟩,
    ⟨(some 55), none, .mov (.t 62)⟩])))))))
 (.seq (.reg [⟨(some 63), none, .mov (.t 5)⟩,
   ⟨(some 2), none, .mov (.t 63)⟩])
 .ret)))))))))
theorem i_auct_House_Bytes : Is Tryd.prog 44 64 [.t 2] c_auct_House_Bytes := ⟨Tryd.f44, _, p_auct_House_Bytes, rfl, rfl, by kernel_rfl, by kernel_rfl, rfl⟩
def p_rostrumref1_Runes : List (Nat × Pl) := []
def c_rostrumref1_Runes : VCode :=
 (.seq (.reg [⟨(some 2), none, .mov (.c (.raw (.slice none 0 0)))⟩,
   ⟨(some 3), none, .mov (.c (.raw (.slice none 0 0)))⟩])
 (.seq (.reg [⟨(some 4), none, .mov (.c (.raw (.slice none 0 0)))⟩])
 (.seq (.reg [⟨(some 5), none, .mov (.c (.raw (.slice none 0 0)))⟩])
 (.seq (.seq (.reg [⟨(some 8), none, .mov (.t 0)⟩,
   ⟨(some 9), none, .range true (.t 8)⟩])
 (.block 0 (.loop (.seq (.reg [⟨(some 10), none, .next true (.t 9)⟩,
    ⟨(some 11), none, .extr (.t 10) 0⟩])
  (.seq (.cond (.t 11)
   .skip
   (.exit 0))
  (.block 1 (.seq (.reg [⟨(some 12), none, .extr (.t 10) 1⟩,
    ⟨(some 13), none, .extr (.t 10) 2⟩,
    ⟨(some 6), none, .mov (.t 12)⟩,
    ⟨(some 7), none, .mov (.t 13)⟩])
  (.seq (.reg [⟨(some 14), none, .mov (.t 4)⟩,
    ⟨(some 15), none, .mov (.t 7)⟩,
    ⟨(some 16), none, .bslice 21 1 [(.int .i32 0)] [(0, 1, (.t 15))]⟩,
    ⟨(some 17), none, .append 21 1 4 [(.int .i32 0)] (.t 14) (.t 16)⟩,
    ⟨(some 4), none, .mov (.t 17)⟩])
  (.reg [⟨(some 18), none, .mov (.t 5)⟩,
    ⟨(some 19), none, .mov (.t 6)⟩,
    ⟨(some 20), none, .bslice 3 1 [(.int .i64 0)] [(0, 1, (.t 19))]⟩,
    ⟨(some 21), none, .append 3 1 8 [(.int .i64 0)] (.t 18) (.t 20)⟩,
    ⟨(some 5), none, .mov (.t 21)⟩])))))))))
 (.seq (.reg [⟨(some 22), none, .mov (.t 4)⟩,
   ⟨(some 23), none, .mov (.t 5)⟩,
   ⟨(some 24), none, .mov (.t 0)⟩,
   ⟨(some 25), none, .len .str (.t 24)⟩,
   ⟨(some 26), none, .bslice 3 1 [(.int .i64 0)] [(0, 1, (.t 25))]⟩,
   ⟨(some 27), none, .append 3 1 8 [(.int .i64 0)] (.t 23) (.t 26)⟩,
   ⟨(some 2), none, .mov (.t 22)⟩,
   ⟨(some 3), none, .mov (.t 27)⟩])
 .ret)))))
theorem i_rostrumref1_Runes : Is Tryd.prog 45 28 [.t 2, .t 3] c_rostrumref1_Runes := ⟨Tryd.f45, _, p_rostrumref1_Runes, rfl, rfl, by kernel_rfl, by kernel_rfl, rfl⟩
def p_unicode_IsLetter : List (Nat × Pl) := []
def c_unicode_IsLetter : VCode :=
 (.seq (.reg [⟨(some 2), none, .mov (.c (.kb false))⟩])
 (.seq (.seq (.reg [⟨(some 3), none, .mov (.t 0)⟩,
   ⟨(some 4), none, .conv (.int .u32) (.t 3)⟩,
   ⟨(some 5), none, .bin .leq .no (.t 4) (.c (.raw (.int .u32 255)))⟩])
 (.cond (.t 5)
  (.seq .bad
  .ret)
  .skip))
 (.seq .bad
 .ret)))
theorem i_unicode_IsLetter : Is Tryd.prog 46 15 [.t 2] c_unicode_IsLetter := ⟨Tryd.f46, _, p_unicode_IsLetter, rfl, rfl, by kernel_rfl, by kernel_rfl, rfl⟩
def p_rostrumref1_bad : List (Nat × Pl) := [(1, (.fl 0 (.fl 1 (.fr 2 (.fr 3 (.fl 4 (.fl 5 (.fl 6 (.fl 7 (.fl 8 (.fr 9 (.fr 10 (.fl 11 (.fl 12 (.fr 13 (.fr 14 (.fl 15 (.fl 16 (.fl 17 (.fl 18 .done))))))))))))))))))))]
def c_rostrumref1_bad : VCode :=
 (.seq (.reg [⟨(some 8), none, .mov (.c (.kb false))⟩])
 (.seq (.draw [⟨(some 9), none, .mov (.t 1)⟩,
   ⟨(some 10), none, .mov (.t 3)⟩,
   ⟨(some 11), none, .iaddr 1 none (.t 9) (.t 10)⟩,
   ⟨(some 12), none, .load none (.t 11)⟩,
   ⟨(some 13), none, .bin .eql .no (.t 12) (.c (.raw (.int .i32 65533)))⟩,
   ⟨(some 14), none, .mov (.t 13)⟩,
   ⟨(some 15), (some (14, true)), .mov (.t 2)⟩,
   ⟨(some 16), (some (14, true)), .mov (.t 3)⟩,
   ⟨(some 17), (some (14, true)), .bin .add .no (.t 16) (.c (.raw (.int .i64 1)))⟩,
   ⟨(some 18), (some (14, true)), .iaddr 1 none (.t 15) (.t 17)⟩,
   ⟨(some 19), (some (14, true)), .load none (.t 18)⟩,
   ⟨(some 20), (some (14, true)), .mov (.t 2)⟩,
   ⟨(some 21), (some (14, true)), .mov (.t 3)⟩,
   ⟨(some 22), (some (14, true)), .iaddr 1 none (.t 20) (.t 21)⟩,
   ⟨(some 23), (some (14, true)), .load none (.t 22)⟩,
   ⟨(some 24), (some (14, true)), .bin .sub .no (.t 19) (.t 23)⟩,
   ⟨(some 25), (some (14, true)), .bin .eql .no (.t 24) (.c (.raw (.int .i64 1)))⟩,
   ⟨(some 26), none, .pick (.t 14) (.t 25) (.c (.kb false))⟩,
   ⟨(some 8), none, .mov (.t 26)⟩]
   (.fl 0 (.fl 1 (.fr 2 (.fr 3 (.fl 4 (.fl 5 (.fl 6 (.fl 7 (.fl 8 (.fr 9 (.fr 10 (.fl 11 (.fl 12 (.fr 13 (.fr 14 (.fl 15 (.fl 16 (.fl 17 (.fl 18 .done))))))))))))))))))))
 .ret))
theorem i_rostrumref1_bad : Is Tryd.prog 47 27 [.t 8] c_rostrumref1_bad := ⟨Tryd.f47, _, p_rostrumref1_bad, rfl, rfl, by kernel_rfl, by kernel_rfl, rfl⟩
def p_unicode_IsDigit : List (Nat × Pl) := []
def c_unicode_IsDigit : VCode :=
 (.seq (.reg [⟨(some 2), none, .mov (.c (.kb false))⟩])
 (.seq (.seq (.reg [⟨(some 3), none, .mov (.t 0)⟩,
   ⟨(some 4), none, .bin .leq .no (.t 3) (.c (.raw (.int .i32 255)))⟩])
 (.cond (.t 4)
  (.seq (.reg [⟨(some 5), none, .mov (.t 0)⟩,
    ⟨(some 6), none, .bin .leq .no (.c (.raw (.int .i32 48))) (.t 5)⟩,
    ⟨(some 7), none, .mov (.t 6)⟩,
    ⟨(some 8), (some (7, true)), .mov (.t 0)⟩,
    ⟨(some 9), (some (7, true)), .bin .leq .no (.t 8) (.c (.raw (.int .i32 57)))⟩,
    ⟨(some 10), none, .pick (.t 7) (.t 9) (.c (.kb false))⟩,
    ⟨(some 2), none, .mov (.t 10)⟩])
  .ret)
  .skip))
 (.seq .bad
 .ret)))
theorem i_unicode_IsDigit : Is Tryd.prog 48 14 [.t 2] c_unicode_IsDigit := ⟨Tryd.f48, _, p_unicode_IsDigit, rfl, rfl, by kernel_rfl, by kernel_rfl, rfl⟩
def p_unicode_ToLower : List (Nat × Pl) := []
def c_unicode_ToLower : VCode :=
 (.seq (.reg [⟨(some 2), none, .mov (.c (.raw (.int .i32 0)))⟩])
 (.seq (.seq (.reg [⟨(some 3), none, .mov (.t 0)⟩,
   ⟨(some 4), none, .bin .leq .no (.t 3) (.c (.raw (.int .i32 127)))⟩])
 (.cond (.t 4)
  (.seq (.seq (.reg [⟨(some 5), none, .mov (.t 0)⟩,
    ⟨(some 6), none, .bin .leq .no (.c (.raw (.int .i32 65))) (.t 5)⟩,
    ⟨(some 7), none, .mov (.t 6)⟩,
    ⟨(some 8), (some (7, true)), .mov (.t 0)⟩,
    ⟨(some 9), (some (7, true)), .bin .leq .no (.t 8) (.c (.raw (.int .i32 90)))⟩,
    ⟨(some 10), none, .pick (.t 7) (.t 9) (.c (.kb false))⟩])
  (.cond (.t 10)
   (.reg [⟨(some 11), none, .mov (.t 0)⟩,
     ⟨(some 12), none, .bin .add .no (.t 11) (.c (.raw (.int .i32 32)))⟩,
     ⟨(some 0), none, .mov (.t 12)⟩])
   .skip))
  (.seq (.reg [⟨(some 13), none, .mov (.t 0)⟩,
    ⟨(some 2), none, .mov (.t 13)⟩])
  .ret))
  .skip))
 (.seq (.reg [⟨(some 14), none, .mov (.t 0)⟩,
   ⟨(some 15), none, .call 67 [(.c (.raw (.int .i64 1))), (.t 14)]⟩,
   ⟨(some 2), none, .mov (.t 15)⟩])
 .ret)))
theorem i_unicode_ToLower : Is Tryd.prog 49 16 [.t 2] c_unicode_ToLower := ⟨Tryd.f49, _, p_unicode_ToLower, rfl, rfl, by kernel_rfl, by kernel_rfl, rfl⟩
def p_slices_Sort_sl_string_string : List (Nat × Pl) := []
def c_slices_Sort_sl_string_string : VCode :=
 (.seq (.reg [⟨(some 3), none, .mov (.t 0)⟩,
   ⟨(some 4), none, .len .sl (.t 3)⟩,
   ⟨(some 2), none, .mov (.t 4)⟩])
 (.reg [⟨(some 5), none, .mov (.t 0)⟩,
   ⟨(some 6), none, .mov (.t 2)⟩,
   ⟨(some 7), none, .mov (.t 2)⟩,
   ⟨(some 8), none, .conv (.int .u64) (.t 7)⟩,
   ⟨(some 9), none, .call 69 [(.t 8)]⟩,
   ⟨(some 10), none, .call 68 [(.t 5), (.c (.raw (.int .i64 0))), (.t 6), (.t 9)]⟩]))
theorem i_slices_Sort_sl_string_string : Is Tryd.prog 50 11 [] c_slices_Sort_sl_string_string := ⟨Tryd.f50, _, p_slices_Sort_sl_string_string, rfl, rfl, by kernel_rfl, by kernel_rfl, rfl⟩
def p_slices_SortFunc_sl_api_Dot_api_Dot : List (Nat × Pl) := []
def c_slices_SortFunc_sl_api_Dot_api_Dot : VCode :=
 (.seq (.reg [⟨(some 5), none, .mov (.t 0)⟩,
   ⟨(some 6), none, .len .sl (.t 5)⟩,
   ⟨(some 4), none, .mov (.t 6)⟩])
 (.reg [⟨(some 7), none, .mov (.t 0)⟩,
   ⟨(some 8), none, .mov (.t 4)⟩,
   ⟨(some 9), none, .mov (.t 4)⟩,
   ⟨(some 10), none, .conv (.int .u64) (.t 9)⟩,
   ⟨(some 11), none, .call 69 [(.t 10)]⟩,
   ⟨(some 12), none, .mov (.t 1)⟩,
   ⟨(some 13), none, .call 70 [(.t 7), (.c (.raw (.int .i64 0))), (.t 8), (.t 11), (.t 12)]⟩]))
theorem i_slices_SortFunc_sl_api_Dot_api_Dot : Is Tryd.prog 51 14 [] c_slices_SortFunc_sl_api_Dot_api_Dot := ⟨Tryd.f51, _, p_slices_SortFunc_sl_api_Dot_api_Dot, rfl, rfl, by kernel_rfl, by kernel_rfl, rfl⟩
def p_dots_Order : List (Nat × Pl) := [(1, (.fl 0 (.fr 1 (.fl 2 (.fr 3 (.fl 5 (.fr 6 (.fl 7 (.fr 8 (.st 4 [6, 8] (.st 9 [] (.st 10 [] (.st 11 [] (.fl 12 .done))))))))))))))]
def c_dots_Order : VCode :=
 (.seq (.reg [⟨(some 2), none, .box 28 (.t 0)⟩,
   ⟨(some 3), none, .box 28 (.t 1)⟩,
   ⟨(some 4), none, .mov (.c (.raw (.int .i64 0)))⟩])
 (.seq (.draw [⟨(some 5), none, .faddr 0 (.t 2)⟩,
   ⟨(some 6), none, .load none (.t 5)⟩,
   ⟨(some 7), none, .faddr 0 (.t 3)⟩,
   ⟨(some 8), none, .load none (.t 7)⟩,
   ⟨(some 9), none, .call 71 [(.t 6), (.t 8)]⟩,
   ⟨(some 10), none, .faddr 1 (.t 2)⟩,
   ⟨(some 11), none, .load none (.t 10)⟩,
   ⟨(some 12), none, .faddr 1 (.t 3)⟩,
   ⟨(some 13), none, .load none (.t 12)⟩,
   ⟨(some 14), none, .call 57 [(.t 11), (.t 13)]⟩,
   ⟨(some 15), none, .bslice 3 2 [(.int .i64 0), (.int .i64 0)] [(0, 1, (.t 9)), (1, 1, (.t 14))]⟩,
   ⟨(some 16), none, .call 56 [(.t 15)]⟩,
   ⟨(some 4), none, .mov (.t 16)⟩]
   (.fl 0 (.fr 1 (.fl 2 (.fr 3 (.fl 5 (.fr 6 (.fl 7 (.fr 8 (.st 4 [6, 8] (.st 9 [] (.st 10 [] (.st 11 [] (.fl 12 .done))))))))))))))
 .ret))
theorem i_dots_Order : Is Tryd.prog 52 17 [.t 4] c_dots_Order := ⟨Tryd.f52, _, p_dots_Order, rfl, rfl, by kernel_rfl, by kernel_rfl, rfl⟩
def p_vec_Rep : List (Nat × Pl) := []
def c_vec_Rep : VCode :=
 (.seq (.reg [⟨(some 2), none, .mov (.c (.kb false))⟩])
 (.seq (.reg [⟨(some 3), none, .mov (.t 0)⟩,
   ⟨(some 4), none, .bin .geq .no (.t 3) (.c (.raw (.int .i64 0)))⟩,
   ⟨(some 5), none, .mov (.t 4)⟩,
   ⟨(some 6), (some (5, true)), .mov (.t 0)⟩,
   ⟨(some 7), (some (5, true)), .bin .lss .no (.t 6) (.c (.raw (.int .i64 7)))⟩,
   ⟨(some 8), none, .pick (.t 5) (.t 7) (.c (.kb false))⟩,
   ⟨(some 2), none, .mov (.t 8)⟩])
 .ret))
theorem i_vec_Rep : Is Tryd.prog 53 9 [.t 2] c_vec_Rep := ⟨Tryd.f53, _, p_vec_Rep, rfl, rfl, by kernel_rfl, by kernel_rfl, rfl⟩
def p_slices_MaxFunc_sl_api_Dot_api_Dot : List (Nat × Pl) := [(7, (.fl 0 (.fl 1 (.fl 2 (.fr 3 (.fr 4 (.fr 5 (.st 6 [] (.fl 7 .done)))))))))]
def c_slices_MaxFunc_sl_api_Dot_api_Dot : VCode :=
 (.seq (.reg [⟨(some 4), none, .new 28 [(.int .i64 0), (.int .i64 0)]⟩])
 (.seq (.seq (.reg [⟨(some 7), none, .mov (.t 0)⟩,
   ⟨(some 8), none, .len .sl (.t 7)⟩,
   ⟨(some 9), none, .bin .lss .no (.t 8) (.c (.raw (.int .i64 1)))⟩])
 (.cond (.t 9)
  .bad
  .skip))
 (.seq (.reg [⟨(some 11), none, .mov (.t 0)⟩,
   ⟨(some 12), none, .iaddr 2 none (.t 11) (.c (.raw (.int .i64 0)))⟩,
   ⟨(some 13), none, .load (some 2) (.t 12)⟩,
   ⟨(some 5), none, .new 28 [(.int .i64 0), (.int .i64 0)]⟩,
   ⟨none, none, .store (some 2) (.t 5) (.t 13)⟩])
 (.seq (.seq (.reg [⟨(some 6), none, .mov (.c (.raw (.int .i64 1)))⟩])
 (.block 0 (.loop (.seq (.seq (.reg [⟨(some 14), none, .mov (.t 6)⟩,
    ⟨(some 15), none, .mov (.t 0)⟩,
    ⟨(some 16), none, .len .sl (.t 15)⟩,
    ⟨(some 17), none, .bin .lss .no (.t 14) (.t 16)⟩])
  (.cond (.t 17)
   .skip
   (.exit 0)))
  (.seq (.block 1 (.seq (.draw [⟨(some 20), none, .mov (.t 1)⟩,
    ⟨(some 21), none, .mov (.t 0)⟩,
    ⟨(some 22), none, .mov (.t 6)⟩,
    ⟨(some 23), none, .iaddr 2 none (.t 21) (.t 22)⟩,
    ⟨(some 24), none, .load (some 2) (.t 23)⟩,
    ⟨(some 25), none, .load (some 2) (.t 5)⟩,
    ⟨(some 26), none, .callv (.t 20) [(.t 24), (.t 25)]⟩,
    ⟨(some 27), none, .bin .gtr .no (.t 26) (.c (.raw (.int .i64 0)))⟩]
    (.fl 0 (.fl 1 (.fl 2 (.fr 3 (.fr 4 (.fr 5 (.st 6 [] (.fl 7 .done)))))))))
  (.cond (.t 27)
   (.reg [⟨(some 28), none, .mov (.t 0)⟩,
     ⟨(some 29), none, .mov (.t 6)⟩,
     ⟨(some 30), none, .iaddr 2 none (.t 28) (.t 29)⟩,
     ⟨(some 31), none, .load (some 2) (.t 30)⟩,
     ⟨none, none, .store (some 2) (.t 5) (.t 31)⟩])
   .skip)))
  (.reg [⟨(some 18), none, .mov (.t 6)⟩,
    ⟨(some 19), none, .bin .add .no (.t 18) (.c (.raw (.int .i64 1)))⟩,
    ⟨(some 6), none, .mov (.t 19)⟩]))))))
 (.seq (.reg [⟨(some 32), none, .load (some 2) (.t 5)⟩,
   ⟨none, none, .store (some 2) (.t 4) (.t 32)⟩])
 .ret)))))
theorem i_slices_MaxFunc_sl_api_Dot_api_Dot : Is Tryd.prog 54 33 [.cell 4 (some 2)] c_slices_MaxFunc_sl_api_Dot_api_Dot := ⟨Tryd.f54, _, p_slices_MaxFunc_sl_api_Dot_api_Dot, rfl, rfl, by kernel_rfl, by kernel_rfl, rfl⟩
def p_auct_House_best_1 : List (Nat × Pl) := [(1, (.fr 0 (.fr 1 (.fl 2 (.fr 3 (.fr 4 (.fr 5 (.fl 6 (.fr 7 (.fr 8 (.fl 9 (.fr 10 (.fr 11 (.fr 12 (.fl 13 (.fr 15 (.fr 16 (.st 14 [15, 16] (.st 17 [] (.st 18 [] (.st 19 [] (.fl 20 .done))))))))))))))))))))))]
def c_auct_House_best_1 : VCode :=
 (.seq (.reg [⟨(some 3), none, .box 28 (.t 0)⟩,
   ⟨(some 4), none, .box 28 (.t 1)⟩,
   ⟨(some 5), none, .mov (.c (.raw (.int .i64 0)))⟩])
 (.seq (.draw [⟨(some 6), none, .load none (.t 2)⟩,
   ⟨(some 7), none, .nilck (.t 6)⟩,
   ⟨(some 8), none, .faddr 7 (.t 7)⟩,
   ⟨(some 9), none, .load none (.t 8)⟩,
   ⟨(some 10), none, .load (some 2) (.t 3)⟩,
   ⟨(some 11), none, .lookup 66 false (.t 9) (.t 10)⟩,
   ⟨(some 12), none, .field 17 none (.t 11)⟩,
   ⟨(some 13), none, .load none (.t 2)⟩,
   ⟨(some 14), none, .nilck (.t 13)⟩,
   ⟨(some 15), none, .faddr 7 (.t 14)⟩,
   ⟨(some 16), none, .load none (.t 15)⟩,
   ⟨(some 17), none, .load (some 2) (.t 4)⟩,
   ⟨(some 18), none, .lookup 66 false (.t 16) (.t 17)⟩,
   ⟨(some 19), none, .field 17 none (.t 18)⟩,
   ⟨(some 20), none, .call 57 [(.t 12), (.t 19)]⟩,
   ⟨(some 21), none, .load (some 2) (.t 4)⟩,
   ⟨(some 22), none, .load (some 2) (.t 3)⟩,
   ⟨(some 23), none, .call 52 [(.t 21), (.t 22)]⟩,
   ⟨(some 24), none, .bslice 3 2 [(.int .i64 0), (.int .i64 0)] [(0, 1, (.t 20)), (1, 1, (.t 23))]⟩,
   ⟨(some 25), none, .call 56 [(.t 24)]⟩,
   ⟨(some 5), none, .mov (.t 25)⟩]
   (.fr 0 (.fr 1 (.fl 2 (.fr 3 (.fr 4 (.fr 5 (.fl 6 (.fr 7 (.fr 8 (.fl 9 (.fr 10 (.fr 11 (.fr 12 (.fl 13 (.fr 15 (.fr 16 (.st 14 [15, 16] (.st 17 [] (.st 18 [] (.st 19 [] (.fl 20 .done))))))))))))))))))))))
 .ret))
theorem i_auct_House_best_1 : Is Tryd.prog 55 26 [.t 5] c_auct_House_best_1 := ⟨Tryd.f55, _, p_auct_House_best_1, rfl, rfl, by kernel_rfl, by kernel_rfl, rfl⟩
end Go.Proofs

