/- The seat's functions and types by name, and its functions' code as the framework reads it: printed by a program of the prover's own. -/
import Derived.Test.YtmidamdjpabpbaaVB
import Derived.Test.YtmidamdjpabpbaaProg
namespace Go.Proofs
open Go Go.V
abbrev F_main_main : FuncId := 0
abbrev F_gosem_cut : FuncId := 1
abbrev F_gosem_cut_init : FuncId := 2
abbrev F_rostrumlaw8_DotsHas : FuncId := 3
abbrev F_rostrumlaw8_DotsOrder : FuncId := 4
abbrev F_rostrumlaw8_DotsPlays : FuncId := 5
abbrev F_rostrumlaw8_DotsKnown : FuncId := 6
abbrev F_rostrumlaw8_DotsBytes : FuncId := 7
abbrev F_rostrumlaw8_awake : FuncId := 8
abbrev F_dots_New : FuncId := 9
abbrev F_dots_Dots_Add : FuncId := 10
abbrev F_dots_Dots_Loose : FuncId := 11
abbrev F_dots_Dots_Vec : FuncId := 12
abbrev F_dots_Dots_Has : FuncId := 13
abbrev F_vec_Has : FuncId := 14
abbrev F_dots_Dots_Len : FuncId := 15
abbrev F_dots_Same : FuncId := 16
abbrev F_dots_Dots_Merge : FuncId := 17
abbrev F_rostrumref7_Dots_Add : FuncId := 18
abbrev F_rostrumref7_SameDots : FuncId := 19
abbrev F_rostrumref7_Dots_Len : FuncId := 20
abbrev F_rostrumref7_Dots_Has : FuncId := 21
abbrev F_rostrumref7_Dots_Merge : FuncId := 22
abbrev F_dots_Dots_Put : FuncId := 23
abbrev F_rostrumref7_Dots_Put : FuncId := 24
abbrev F_pack_Read : FuncId := 25
abbrev F_dots_Get : FuncId := 26
abbrev F_pack_Reader_End : FuncId := 27
abbrev F_rostrumref7_GetDots : FuncId := 28
abbrev F_rostrumref1_Reader_End : FuncId := 29
abbrev F_vec_Dot : FuncId := 30
abbrev F_dots_Dots_close : FuncId := 31
abbrev F_slices_SortedFunc_api_Dot : FuncId := 32
abbrev F_maps_Keys_map_api_Dot_bool_api_Dot_bool : FuncId := 33
abbrev F_dots_Order : FuncId := 34
abbrev F_vec_Rep : FuncId := 35
abbrev F_maps_Equal_map_api_Dot_bool_map_api_Dot_bool_api_Dot_bool : FuncId := 36
abbrev F_vec_Merge : FuncId := 37
abbrev F_maps_Clone_map_api_Dot_bool_api_Dot_bool : FuncId := 38
abbrev F_maps_Copy_map_api_Dot_bool_map_api_Dot_bool_api_Dot_bool : FuncId := 39
abbrev F_maps_DeleteFunc_map_api_Dot_bool_api_Dot_bool : FuncId := 40
abbrev F_dots_Dots_Merge_1 : FuncId := 41
abbrev F_rostrumref7_May : FuncId := 42
abbrev F_rostrumref7_insert : FuncId := 43
abbrev F_rostrumref7_Dots_close : FuncId := 44
abbrev F_rostrumref7_Has : FuncId := 45
abbrev F_rostrumref7_in : FuncId := 46
abbrev F_rostrumref7_Merge : FuncId := 47
abbrev F_pack_Num : FuncId := 48
abbrev F_vec_Put : FuncId := 49
abbrev F_rostrumref1_Num : FuncId := 50
abbrev F_rostrumref7_PutVec : FuncId := 51
abbrev F_bytes_Clone : FuncId := 52
abbrev F_vec_Get : FuncId := 53
abbrev F_pack_Reader_Num : FuncId := 54
abbrev F_pack_Reader_Bad : FuncId := 55
abbrev F_rostrumref7_GetVec : FuncId := 56
abbrev F_rostrumref1_Reader_Num : FuncId := 57
abbrev F_rostrumref7_Less : FuncId := 58
abbrev F_slices_Collect_api_Dot : FuncId := 59
abbrev F_slices_SortFunc_sl_api_Dot_api_Dot : FuncId := 60
abbrev F_maps_Keys_map_api_Dot_bool_api_Dot_bool_1 : FuncId := 61
abbrev F_cmp_Or_int : FuncId := 62
abbrev F_cmp_Compare_int : FuncId := 63
abbrev F_cmp_Compare_int64 : FuncId := 64
abbrev F_maps_clone : FuncId := 65
abbrev F_pack_Reader_fail : FuncId := 66
abbrev F_rostrumref1_Reader_raw : FuncId := 67
abbrev F_slices_AppendSeq_sl_api_Dot_api_Dot : FuncId := 68
abbrev F_slices_pdqsortCmpFunc_api_Dot : FuncId := 69
abbrev F_math_bits_Len : FuncId := 70
abbrev F_cmp_isNaN_int : FuncId := 71
abbrev F_cmp_isNaN_int64 : FuncId := 72
abbrev F_slices_insertionSortCmpFunc_api_Dot : FuncId := 73
abbrev F_slices_heapSortCmpFunc_api_Dot : FuncId := 74
abbrev F_slices_breakPatternsCmpFunc_api_Dot : FuncId := 75
abbrev F_slices_choosePivotCmpFunc_api_Dot : FuncId := 76
abbrev F_slices_reverseRangeCmpFunc_api_Dot : FuncId := 77
abbrev F_slices_partialInsertionSortCmpFunc_api_Dot : FuncId := 78
abbrev F_slices_partitionEqualCmpFunc_api_Dot : FuncId := 79
abbrev F_slices_partitionCmpFunc_api_Dot : FuncId := 80
abbrev F_math_bits_Len32 : FuncId := 81
abbrev F_math_bits_Len64 : FuncId := 82
abbrev F_slices_siftDownCmpFunc_api_Dot : FuncId := 83
abbrev F_slices_nextPowerOfTwo : FuncId := 84
abbrev F_slices_xorshift_Next : FuncId := 85
abbrev F_slices_medianAdjacentCmpFunc_api_Dot : FuncId := 86
abbrev F_slices_medianCmpFunc_api_Dot : FuncId := 87
abbrev F_slices_order2CmpFunc_api_Dot : FuncId := 88
abbrev F_runtime_boundsError_Error : FuncId := 89
abbrev F_runtime_boundsError_RuntimeError : FuncId := 90
abbrev F_runtime_errorString_Error : FuncId := 91
abbrev F_runtime_errorString_RuntimeError : FuncId := 92
abbrev F_runtime_plainError_Error : FuncId := 93
abbrev F_runtime_plainError_RuntimeError : FuncId := 94
abbrev F_runtime_errorAddressString_Error : FuncId := 95
abbrev F_runtime_errorAddressString_RuntimeError : FuncId := 96
abbrev F_runtime_TypeAssertionError_Error : FuncId := 97
abbrev F_runtime_TypeAssertionError_RuntimeError : FuncId := 98
abbrev F_runtime_PanicNilError_Error : FuncId := 99
abbrev F_runtime_PanicNilError_RuntimeError : FuncId := 100
abbrev F_internal_abi_Type_Align : FuncId := 101
abbrev F_internal_runtime_maps_unhashableTypeError_Error : FuncId := 102
abbrev F_internal_runtime_maps_unhashableTypeError_RuntimeError : FuncId := 103
abbrev F_api_Errno_Error : FuncId := 104
abbrev F_internal_abi_Kind_String : FuncId := 105
abbrev T_func : TypeId := 1
abbrev T_int64 : TypeId := 2
abbrev T_int : TypeId := 3
abbrev T_bool : TypeId := 4
abbrev T_uint8 : TypeId := 5
abbrev T_internal_abi_BoundsErrorCode : TypeId := 6
abbrev T_struct_x_int64_y_int_signed_bool_code_abi_BoundsErrorCode : TypeId := 7
abbrev T_runtime_boundsError : TypeId := 8
abbrev T_string : TypeId := 9
abbrev T_runtime_errorString : TypeId := 10
abbrev T_runtime_plainError : TypeId := 11
abbrev T_uintptr : TypeId := 12
abbrev T_struct_msg_string_addr_uintptr : TypeId := 13
abbrev T_runtime_errorAddressString : TypeId := 14
abbrev T_p_runtime_TypeAssertionError : TypeId := 15
abbrev T_p_runtime_PanicNilError : TypeId := 16
abbrev T_p_abi_Type : TypeId := 17
abbrev T_struct_typ_p_abi_Type : TypeId := 18
abbrev T_internal_runtime_maps_unhashableTypeError : TypeId := 19
abbrev T_interface : TypeId := 20
abbrev T_int32 : TypeId := 21
abbrev T_sl_api_Dot : TypeId := 22
abbrev T_struct_Rep_int_N_int64 : TypeId := 23
abbrev T_api_Dot : TypeId := 24
abbrev T_func_bool : TypeId := 25
abbrev T_p_dots_Dots : TypeId := 26
abbrev T_func_p_dots_Dots : TypeId := 27
abbrev T_api_Errno : TypeId := 28
abbrev T_bool_api_Errno : TypeId := 29
abbrev T_func_api_Dot_bool_api_Errno : TypeId := 30
abbrev T_func_sl_api_Dot : TypeId := 31
abbrev T_7_int64 : TypeId := 32
abbrev T_vec_Vec : TypeId := 33
abbrev T_func_vec_Vec : TypeId := 34
abbrev T_func_api_Dot_bool : TypeId := 35
abbrev T_func_vec_Vec_api_Dot_bool : TypeId := 36
abbrev T_func_int64 : TypeId := 37
abbrev T_func_sl_api_Dot_api_Dot_bool : TypeId := 38
abbrev T_func_p_dots_Dots_p_dots_Dots_bool : TypeId := 39
abbrev T_func_p_dots_Dots_api_Errno : TypeId := 40
abbrev T_func_sl_api_Dot_sl_api_Dot_bool : TypeId := 41
abbrev T_p_rostrumref7_Dots : TypeId := 42
abbrev T_rostrumref7_Vec : TypeId := 43
abbrev T_struct_V_rostrumref7_Vec_L_sl_api_Dot : TypeId := 44
abbrev T_rostrumref7_Dots : TypeId := 45
abbrev T_func_p_rostrumref7_Dots_bool : TypeId := 46
abbrev T_sl_uint8 : TypeId := 47
abbrev T_func_sl_uint8_sl_uint8 : TypeId := 48
abbrev T_func_sl_api_Dot_sl_api_Dot_api_Dot_bool : TypeId := 49
abbrev T_p_pack_Reader : TypeId := 50
abbrev T_func_sl_uint8_p_pack_Reader : TypeId := 51
abbrev T_func_p_pack_Reader_p_dots_Dots : TypeId := 52
abbrev T_p_rostrumref1_Reader : TypeId := 53
abbrev T_struct_B_sl_uint8_At_int_Bad_bool : TypeId := 54
abbrev T_rostrumref1_Reader : TypeId := 55
abbrev T_func_p_rostrumref1_Reader_p_rostrumref7_Dots : TypeId := 56
abbrev T_func_sl_uint8_sl_api_Dot_bool : TypeId := 57
abbrev T_map_api_Dot_bool : TypeId := 58
abbrev T_struct_v_vec_Vec_loose_map_api_Dot_bool : TypeId := 59
abbrev T_dots_Dots : TypeId := 60
abbrev T_func_iter_Seq_api_Dot_func_api_Dot_api_Dot_int_sl_api_Dot : TypeId := 61
abbrev T_func_func_api_Dot_bool : TypeId := 62
abbrev T_iter_Seq_api_Dot : TypeId := 63
abbrev T_func_map_api_Dot_bool_iter_Seq_api_Dot : TypeId := 64
abbrev T_func_api_Dot_api_Dot_int : TypeId := 65
abbrev T_func_int_bool : TypeId := 66
abbrev T_func_map_api_Dot_bool_map_api_Dot_bool_bool : TypeId := 67
abbrev T_func_vec_Vec_vec_Vec_vec_Vec : TypeId := 68
abbrev T_func_map_api_Dot_bool_map_api_Dot_bool : TypeId := 69
abbrev T_func_map_api_Dot_bool_map_api_Dot_bool_n70 : TypeId := 70
abbrev T_func_map_api_Dot_bool_func_api_Dot_bool_bool : TypeId := 71
abbrev T_func_api_Dot_bool_bool : TypeId := 72
abbrev T_func_sl_api_Dot_api_Dot_sl_api_Dot : TypeId := 73
abbrev T_func_rostrumref7_Vec_api_Dot_bool : TypeId := 74
abbrev T_func_rostrumref7_Vec_rostrumref7_Vec_rostrumref7_Vec : TypeId := 75
abbrev T_func_sl_uint8_int64_sl_uint8 : TypeId := 76
abbrev T_func_sl_uint8_vec_Vec_sl_uint8 : TypeId := 77
abbrev T_func_sl_uint8_rostrumref7_Vec_sl_uint8 : TypeId := 78
abbrev T_struct_b_sl_uint8_bad_bool : TypeId := 79
abbrev T_pack_Reader : TypeId := 80
abbrev T_func_p_pack_Reader_vec_Vec : TypeId := 81
abbrev T_func_int64_int64_int64 : TypeId := 82
abbrev T_func_p_rostrumref1_Reader_rostrumref7_Vec : TypeId := 83
abbrev T_func_api_Dot_api_Dot_bool : TypeId := 84
abbrev T_func_iter_Seq_api_Dot_sl_api_Dot : TypeId := 85
abbrev T_func_sl_api_Dot_func_api_Dot_api_Dot_int : TypeId := 86
abbrev T_func_int_int : TypeId := 87
abbrev T_func_int_int_int : TypeId := 88
abbrev T_func_int64_int64_int : TypeId := 89
abbrev T_bool_bool : TypeId := 90
abbrev T_func_interface_interface : TypeId := 91
abbrev T_uint64 : TypeId := 92
abbrev T_uint : TypeId := 93
abbrev T_uint64_bool : TypeId := 94
abbrev T_func_uint64_bool : TypeId := 95
abbrev T_func_sl_api_Dot_iter_Seq_api_Dot_sl_api_Dot : TypeId := 96
abbrev T_func_sl_api_Dot_int_int_int_func_api_Dot_api_Dot_int : TypeId := 97
abbrev T_func_uint_int : TypeId := 98
abbrev T_sl_int : TypeId := 99
abbrev T_func_int64_bool : TypeId := 100
abbrev T_func_sl_api_Dot_int_int_func_api_Dot_api_Dot_int : TypeId := 101
abbrev T_slices_sortedHint : TypeId := 102
abbrev T_int_slices_sortedHint : TypeId := 103
abbrev T_func_sl_api_Dot_int_int_func_api_Dot_api_Dot_int_int_slices_sortedHint : TypeId := 104
abbrev T_func_sl_api_Dot_int_int_func_api_Dot_api_Dot_int_bool : TypeId := 105
abbrev T_func_sl_api_Dot_int_int_int_func_api_Dot_api_Dot_int_int : TypeId := 106
abbrev T_int_bool : TypeId := 107
abbrev T_func_sl_api_Dot_int_int_int_func_api_Dot_api_Dot_int_int_bool : TypeId := 108
abbrev T_func_uint32_int : TypeId := 109
abbrev T_uint32 : TypeId := 110
abbrev T_func_uint64_int : TypeId := 111
abbrev T_slices_xorshift : TypeId := 112
abbrev T_func_int_uint : TypeId := 113
abbrev T_func_uint64 : TypeId := 114
abbrev T_func_sl_api_Dot_int_p_int_func_api_Dot_api_Dot_int_int : TypeId := 115
abbrev T_p_int : TypeId := 116
abbrev T_func_sl_api_Dot_int_int_int_p_int_func_api_Dot_api_Dot_int_int : TypeId := 117
abbrev T_p_slices_xorshift : TypeId := 118
abbrev T_int_int : TypeId := 119
abbrev T_func_sl_api_Dot_int_int_p_int_func_api_Dot_api_Dot_int_int_int : TypeId := 120
abbrev T_func_string : TypeId := 121
abbrev T_struct_interface_p_abi_Type_concrete_p_abi_Type_asserted_p_abi_Type_missingMethod_string : TypeId := 122
abbrev T_runtime_TypeAssertionError : TypeId := 123
abbrev T_0_p_runtime_PanicNilError : TypeId := 124
abbrev T_struct_0_p_runtime_PanicNilError : TypeId := 125
abbrev T_runtime_PanicNilError : TypeId := 126
abbrev T_func_int : TypeId := 127
abbrev T_internal_abi_TFlag : TypeId := 128
abbrev T_internal_abi_Kind : TypeId := 129
abbrev T_func_unsafe_Pointer_unsafe_Pointer_bool : TypeId := 130
abbrev T_p_uint8 : TypeId := 131
abbrev T_internal_abi_NameOff : TypeId := 132
abbrev T_internal_abi_TypeOff : TypeId := 133
abbrev T_struct_Size_uintptr_PtrBytes_uintptr_Hash_uint32_TFlag_abi_TFlag_Align_uint8_FieldAlign_uint8_Kind_abi_Kind_Equal_func_unsafe_Pointer_unsafe_Pointer_bool_GCData_p_uint8_Str_abi_NameOff_PtrToThis_abi_TypeOff : TypeId := 134
abbrev T_internal_abi_Type : TypeId := 135
abbrev T_unsafe_Pointer : TypeId := 136
def p_rostrumlaw8_DotsHas : List (Nat × Pl) := [(11, (.fl 0 (.fl 1 (.fl 2 (.fl 3 (.fl 4 (.fl 5 (.fl 6 (.fr 7 (.fr 8 (.fr 9 (.fl 10 (.fl 11 (.fl 12 (.fl 13 .done))))))))))))))), (24, (.fl 0 (.fl 1 (.fl 2 (.fl 4 (.fr 7 (.st 3 [7] (.fr 5 (.fr 6 (.fl 8 (.fl 9 (.fl 10 .done))))))))))))]
def c_rostrumlaw8_DotsHas : VCode :=
 (.seq (.reg [⟨(some 3), none, .box 24 (.t 1)⟩,
   ⟨(some 4), none, .mov (.c (.kb false))⟩])
 (.seq (.seq (.reg [⟨(some 16), none, .call 8 []⟩,
   ⟨(some 17), none, .un .not (.t 16)⟩])
 (.cond (.t 17)
  (.seq (.reg [⟨(some 4), none, .mov (.c (.kb false))⟩])
  .ret)
  .skip))
 (.seq (.seq (.reg [⟨(some 18), none, .mov (.t 0)⟩,
   ⟨(some 19), none, .len .sl (.t 18)⟩,
   ⟨(some 20), none, .bin .gtr .no (.t 19) (.c (.raw (.int .i64 60)))⟩])
 (.cond (.t 20)
  (.seq (.reg [⟨(some 4), none, .mov (.c (.kb true))⟩])
  .ret)
  .skip))
 (.seq (.reg [⟨(some 21), none, .call 9 []⟩,
   ⟨(some 5), none, .mov (.t 21)⟩])
 (.seq (.reg [⟨(some 6), none, .mov (.c (.kb false))⟩,
   ⟨(some 7), none, .mov (.c (.raw (.int .i64 0)))⟩])
 (.seq (.seq (.reg [⟨(some 8), none, .mov (.c (.raw (.int .i64 0)))⟩])
 (.block 0 (.loop (.seq (.seq (.reg [⟨(some 22), none, .mov (.t 8)⟩,
    ⟨(some 23), none, .mov (.t 0)⟩,
    ⟨(some 24), none, .len .sl (.t 23)⟩,
    ⟨(some 25), none, .bin .lss .no (.t 22) (.t 24)⟩])
  (.cond (.t 25)
   .skip
   (.exit 0)))
  (.seq (.block 1 (.seq (.reg [⟨(some 29), none, .mov (.t 5)⟩,
    ⟨(some 30), none, .mov (.t 0)⟩,
    ⟨(some 31), none, .mov (.t 8)⟩,
    ⟨(some 32), none, .iaddr 2 none (.t 30) (.t 31)⟩,
    ⟨(some 33), none, .load (some 2) (.t 32)⟩,
    ⟨(some 34), none, .call 10 [(.t 29), (.t 33)]⟩,
    ⟨(some 28), none, .mov (.t 34)⟩,
    ⟨(some 35), none, .extr (.t 28) 0⟩,
    ⟨(some 36), none, .extr (.t 28) 1⟩,
    ⟨(some 9), none, .mov (.t 35)⟩,
    ⟨(some 10), none, .mov (.t 36)⟩])
  (.seq (.draw [⟨(some 37), none, .mov (.t 6)⟩,
    ⟨(some 38), none, .mov (.t 37)⟩,
    ⟨(some 39), (some (38, false)), .mov (.t 10)⟩,
    ⟨(some 40), (some (38, false)), .bin .eql .no (.t 39) (.c (.raw (.int .i64 0)))⟩,
    ⟨(some 41), (some (38, false)), .mov (.t 40)⟩,
    ⟨(some 42), (some (41, true)), .mov (.t 0)⟩,
    ⟨(some 43), (some (41, true)), .mov (.t 8)⟩,
    ⟨(some 44), (some (41, true)), .iaddr 2 none (.t 42) (.t 43)⟩,
    ⟨(some 45), (some (41, true)), .load (some 2) (.t 44)⟩,
    ⟨(some 46), (some (41, true)), .load (some 2) (.t 3)⟩,
    ⟨(some 47), (some (41, true)), .bin .eql (.agg [.i, .i]) (.t 45) (.t 46)⟩,
    ⟨(some 48), (some (38, false)), .pick (.t 41) (.t 47) (.c (.kb false))⟩,
    ⟨(some 49), none, .pick (.t 38) (.c (.kb true)) (.t 48)⟩,
    ⟨(some 6), none, .mov (.t 49)⟩]
    (.fl 0 (.fl 1 (.fl 2 (.fl 3 (.fl 4 (.fl 5 (.fl 6 (.fr 7 (.fr 8 (.fr 9 (.fl 10 (.fl 11 (.fl 12 (.fl 13 .done)))))))))))))))
  (.seq (.reg [⟨(some 50), none, .mov (.t 9)⟩])
  (.cond (.t 50)
   (.reg [⟨(some 51), none, .mov (.t 7)⟩,
     ⟨(some 52), none, .bin .add .no (.t 51) (.c (.raw (.int .i64 1)))⟩,
     ⟨(some 7), none, .mov (.t 52)⟩])
   .skip)))))
  (.reg [⟨(some 26), none, .mov (.t 8)⟩,
    ⟨(some 27), none, .bin .add .no (.t 26) (.c (.raw (.int .i64 1)))⟩,
    ⟨(some 8), none, .mov (.t 27)⟩]))))))
 (.seq (.reg [⟨(some 53), none, .mov (.t 5)⟩,
   ⟨(some 54), none, .call 11 [(.t 53)]⟩,
   ⟨(some 55), none, .len .sl (.t 54)⟩,
   ⟨(some 11), none, .mov (.t 55)⟩])
 (.seq (.reg [⟨(some 56), none, .mov (.t 5)⟩,
   ⟨(some 57), none, .call 12 [(.t 56)]⟩,
   ⟨(some 12), none, .new 33 [(.int .i64 0), (.int .i64 0), (.int .i64 0), (.int .i64 0), (.int .i64 0), (.int .i64 0), (.int .i64 0)]⟩,
   ⟨none, none, .store (some 7) (.t 12) (.t 57)⟩])
 (.seq (.seq (.reg [⟨(some 13), none, .mov (.c (.raw (.int .i64 0)))⟩])
 (.block 2 (.loop (.seq (.seq (.reg [⟨(some 58), none, .mov (.t 13)⟩,
    ⟨(some 59), none, .bin .lss .no (.t 58) (.c (.raw (.int .i64 7)))⟩])
  (.cond (.t 59)
   .skip
   (.exit 2)))
  (.seq (.block 3 (.reg [⟨(some 62), none, .mov (.t 11)⟩,
    ⟨(some 63), none, .mov (.t 13)⟩,
    ⟨(some 64), none, .iaddr 1 (some 7) (.t 12) (.t 63)⟩,
    ⟨(some 65), none, .load none (.t 64)⟩,
    ⟨(some 66), none, .bin .add .no (.t 62) (.t 65)⟩,
    ⟨(some 11), none, .mov (.t 66)⟩]))
  (.reg [⟨(some 60), none, .mov (.t 13)⟩,
    ⟨(some 61), none, .bin .add .no (.t 60) (.c (.raw (.int .i64 1)))⟩,
    ⟨(some 13), none, .mov (.t 61)⟩]))))))
 (.seq (.reg [⟨(some 14), none, .mov (.c (.kb false))⟩])
 (.seq (.seq (.reg [⟨(some 15), none, .mov (.c (.raw (.int .i64 0)))⟩])
 (.block 4 (.loop (.seq (.seq (.reg [⟨(some 67), none, .mov (.t 15)⟩,
    ⟨(some 68), none, .mov (.t 5)⟩,
    ⟨(some 69), none, .call 11 [(.t 68)]⟩,
    ⟨(some 70), none, .len .sl (.t 69)⟩,
    ⟨(some 71), none, .bin .lss .no (.t 67) (.t 70)⟩])
  (.cond (.t 71)
   .skip
   (.exit 4)))
  (.seq (.block 5 (.draw [⟨(some 74), none, .mov (.t 14)⟩,
    ⟨(some 75), none, .mov (.t 74)⟩,
    ⟨(some 76), (some (75, false)), .mov (.t 5)⟩,
    ⟨(some 77), (some (75, false)), .call 11 [(.t 76)]⟩,
    ⟨(some 78), (some (75, false)), .mov (.t 15)⟩,
    ⟨(some 79), (some (75, false)), .iaddr 2 none (.t 77) (.t 78)⟩,
    ⟨(some 80), (some (75, false)), .load (some 2) (.t 79)⟩,
    ⟨(some 81), (some (75, false)), .load (some 2) (.t 3)⟩,
    ⟨(some 82), (some (75, false)), .bin .eql (.agg [.i, .i]) (.t 80) (.t 81)⟩,
    ⟨(some 83), none, .pick (.t 75) (.c (.kb true)) (.t 82)⟩,
    ⟨(some 14), none, .mov (.t 83)⟩]
    (.fl 0 (.fl 1 (.fl 2 (.fl 4 (.fr 7 (.st 3 [7] (.fr 5 (.fr 6 (.fl 8 (.fl 9 (.fl 10 .done)))))))))))))
  (.reg [⟨(some 72), none, .mov (.t 15)⟩,
    ⟨(some 73), none, .bin .add .no (.t 72) (.c (.raw (.int .i64 1)))⟩,
    ⟨(some 15), none, .mov (.t 73)⟩]))))))
 (.seq (.reg [⟨(some 84), none, .mov (.t 5)⟩,
   ⟨(some 85), none, .load (some 2) (.t 3)⟩,
   ⟨(some 86), none, .call 13 [(.t 84), (.t 85)]⟩,
   ⟨(some 87), none, .mov (.t 6)⟩,
   ⟨(some 88), none, .bin .eql .b (.t 86) (.t 87)⟩,
   ⟨(some 89), none, .mov (.t 88)⟩,
   ⟨(some 90), (some (89, true)), .mov (.t 6)⟩,
   ⟨(some 91), (some (89, true)), .load (some 7) (.t 12)⟩,
   ⟨(some 92), (some (89, true)), .load (some 2) (.t 3)⟩,
   ⟨(some 93), (some (89, true)), .call 14 [(.t 91), (.t 92)]⟩,
   ⟨(some 94), (some (89, true)), .mov (.t 93)⟩,
   ⟨(some 95), (some (94, false)), .mov (.t 14)⟩,
   ⟨(some 96), (some (89, true)), .pick (.t 94) (.c (.kb true)) (.t 95)⟩,
   ⟨(some 97), (some (89, true)), .bin .eql .b (.t 90) (.t 96)⟩,
   ⟨(some 98), none, .pick (.t 89) (.t 97) (.c (.kb false))⟩,
   ⟨(some 99), none, .mov (.t 98)⟩,
   ⟨(some 100), (some (99, true)), .mov (.t 11)⟩,
   ⟨(some 101), (some (99, true)), .mov (.t 5)⟩,
   ⟨(some 102), (some (99, true)), .call 15 [(.t 101)]⟩,
   ⟨(some 103), (some (99, true)), .bin .eql .no (.t 100) (.t 102)⟩,
   ⟨(some 104), none, .pick (.t 99) (.t 103) (.c (.kb false))⟩,
   ⟨(some 105), none, .mov (.t 104)⟩,
   ⟨(some 106), (some (105, true)), .mov (.t 7)⟩,
   ⟨(some 107), (some (105, true)), .mov (.t 11)⟩,
   ⟨(some 108), (some (105, true)), .bin .eql .no (.t 106) (.t 107)⟩,
   ⟨(some 109), none, .pick (.t 105) (.t 108) (.c (.kb false))⟩,
   ⟨(some 4), none, .mov (.t 109)⟩])
 .ret))))))))))))
theorem i_rostrumlaw8_DotsHas : Is Try.prog 3 110 [.t 4] c_rostrumlaw8_DotsHas := ⟨Try.f3, _, p_rostrumlaw8_DotsHas, rfl, rfl, by kernel_rfl, by kernel_rfl, rfl⟩
def p_rostrumlaw8_DotsOrder : List (Nat × Pl) := []
def c_rostrumlaw8_DotsOrder : VCode :=
 (.seq (.reg [⟨(some 4), none, .mov (.c (.kb false))⟩])
 (.seq (.seq (.reg [⟨(some 11), none, .call 8 []⟩,
   ⟨(some 12), none, .un .not (.t 11)⟩])
 (.cond (.t 12)
  (.seq (.reg [⟨(some 4), none, .mov (.c (.kb false))⟩])
  .ret)
  .skip))
 (.seq (.seq (.reg [⟨(some 13), none, .mov (.t 0)⟩,
   ⟨(some 14), none, .len .sl (.t 13)⟩,
   ⟨(some 15), none, .bin .gtr .no (.t 14) (.c (.raw (.int .i64 60)))⟩,
   ⟨(some 16), none, .mov (.t 15)⟩,
   ⟨(some 17), (some (16, false)), .mov (.t 1)⟩,
   ⟨(some 18), (some (16, false)), .len .sl (.t 17)⟩,
   ⟨(some 19), (some (16, false)), .bin .gtr .no (.t 18) (.c (.raw (.int .i64 60)))⟩,
   ⟨(some 20), none, .pick (.t 16) (.c (.kb true)) (.t 19)⟩])
 (.cond (.t 20)
  (.seq (.reg [⟨(some 4), none, .mov (.c (.kb true))⟩])
  .ret)
  .skip))
 (.seq (.reg [⟨(some 21), none, .call 9 []⟩,
   ⟨(some 22), none, .call 9 []⟩,
   ⟨(some 23), none, .call 9 []⟩,
   ⟨(some 24), none, .call 9 []⟩,
   ⟨(some 5), none, .mov (.t 21)⟩,
   ⟨(some 6), none, .mov (.t 22)⟩,
   ⟨(some 7), none, .mov (.t 23)⟩,
   ⟨(some 8), none, .mov (.t 24)⟩])
 (.seq (.seq (.reg [⟨(some 9), none, .mov (.c (.raw (.int .i64 0)))⟩])
 (.block 0 (.loop (.seq (.seq (.reg [⟨(some 25), none, .mov (.t 9)⟩,
    ⟨(some 26), none, .mov (.t 0)⟩,
    ⟨(some 27), none, .len .sl (.t 26)⟩,
    ⟨(some 28), none, .bin .lss .no (.t 25) (.t 27)⟩])
  (.cond (.t 28)
   .skip
   (.exit 0)))
  (.seq (.block 1 (.seq (.reg [⟨(some 31), none, .mov (.t 5)⟩,
    ⟨(some 32), none, .mov (.t 0)⟩,
    ⟨(some 33), none, .mov (.t 9)⟩,
    ⟨(some 34), none, .iaddr 2 none (.t 32) (.t 33)⟩,
    ⟨(some 35), none, .load (some 2) (.t 34)⟩,
    ⟨(some 36), none, .call 10 [(.t 31), (.t 35)]⟩])
  (.seq (.reg [⟨(some 37), none, .mov (.t 6)⟩,
    ⟨(some 38), none, .mov (.t 0)⟩,
    ⟨(some 39), none, .mov (.t 0)⟩,
    ⟨(some 40), none, .len .sl (.t 39)⟩,
    ⟨(some 41), none, .bin .sub .no (.t 40) (.c (.raw (.int .i64 1)))⟩,
    ⟨(some 42), none, .mov (.t 9)⟩,
    ⟨(some 43), none, .bin .sub .no (.t 41) (.t 42)⟩,
    ⟨(some 44), none, .iaddr 2 none (.t 38) (.t 43)⟩,
    ⟨(some 45), none, .load (some 2) (.t 44)⟩,
    ⟨(some 46), none, .call 10 [(.t 37), (.t 45)]⟩])
  (.reg [⟨(some 47), none, .mov (.t 7)⟩,
    ⟨(some 48), none, .mov (.t 0)⟩,
    ⟨(some 49), none, .mov (.t 9)⟩,
    ⟨(some 50), none, .iaddr 2 none (.t 48) (.t 49)⟩,
    ⟨(some 51), none, .load (some 2) (.t 50)⟩,
    ⟨(some 52), none, .call 10 [(.t 47), (.t 51)]⟩]))))
  (.reg [⟨(some 29), none, .mov (.t 9)⟩,
    ⟨(some 30), none, .bin .add .no (.t 29) (.c (.raw (.int .i64 1)))⟩,
    ⟨(some 9), none, .mov (.t 30)⟩]))))))
 (.seq (.seq (.reg [⟨(some 10), none, .mov (.c (.raw (.int .i64 0)))⟩])
 (.block 2 (.loop (.seq (.seq (.reg [⟨(some 53), none, .mov (.t 10)⟩,
    ⟨(some 54), none, .mov (.t 1)⟩,
    ⟨(some 55), none, .len .sl (.t 54)⟩,
    ⟨(some 56), none, .bin .lss .no (.t 53) (.t 55)⟩])
  (.cond (.t 56)
   .skip
   (.exit 2)))
  (.seq (.block 3 (.reg [⟨(some 59), none, .mov (.t 8)⟩,
    ⟨(some 60), none, .mov (.t 1)⟩,
    ⟨(some 61), none, .mov (.t 10)⟩,
    ⟨(some 62), none, .iaddr 2 none (.t 60) (.t 61)⟩,
    ⟨(some 63), none, .load (some 2) (.t 62)⟩,
    ⟨(some 64), none, .call 10 [(.t 59), (.t 63)]⟩]))
  (.reg [⟨(some 57), none, .mov (.t 10)⟩,
    ⟨(some 58), none, .bin .add .no (.t 57) (.c (.raw (.int .i64 1)))⟩,
    ⟨(some 10), none, .mov (.t 58)⟩]))))))
 (.seq (.seq (.reg [⟨(some 65), none, .mov (.t 5)⟩,
   ⟨(some 66), none, .mov (.t 6)⟩,
   ⟨(some 67), none, .call 16 [(.t 65), (.t 66)]⟩,
   ⟨(some 68), none, .un .not (.t 67)⟩,
   ⟨(some 69), none, .mov (.t 68)⟩,
   ⟨(some 70), (some (69, false)), .mov (.t 7)⟩,
   ⟨(some 71), (some (69, false)), .mov (.t 8)⟩,
   ⟨(some 72), (some (69, false)), .call 17 [(.t 70), (.t 71)]⟩,
   ⟨(some 73), (some (69, false)), .bin .neq .no (.t 72) (.c (.raw (.int .i64 0)))⟩,
   ⟨(some 74), none, .pick (.t 69) (.c (.kb true)) (.t 73)⟩,
   ⟨(some 75), none, .mov (.t 74)⟩,
   ⟨(some 76), (some (75, false)), .mov (.t 8)⟩,
   ⟨(some 77), (some (75, false)), .mov (.t 5)⟩,
   ⟨(some 78), (some (75, false)), .call 17 [(.t 76), (.t 77)]⟩,
   ⟨(some 79), (some (75, false)), .bin .neq .no (.t 78) (.c (.raw (.int .i64 0)))⟩,
   ⟨(some 80), none, .pick (.t 75) (.c (.kb true)) (.t 79)⟩])
 (.cond (.t 80)
  (.seq (.reg [⟨(some 4), none, .mov (.c (.kb false))⟩])
  .ret)
  .skip))
 (.seq (.reg [⟨(some 81), none, .mov (.t 7)⟩,
   ⟨(some 82), none, .mov (.t 8)⟩,
   ⟨(some 83), none, .call 16 [(.t 81), (.t 82)]⟩,
   ⟨(some 84), none, .mov (.t 83)⟩,
   ⟨(some 85), (some (84, true)), .mov (.t 7)⟩,
   ⟨(some 86), (some (84, true)), .call 15 [(.t 85)]⟩,
   ⟨(some 87), (some (84, true)), .mov (.t 5)⟩,
   ⟨(some 88), (some (84, true)), .call 15 [(.t 87)]⟩,
   ⟨(some 89), (some (84, true)), .bin .geq .no (.t 86) (.t 88)⟩,
   ⟨(some 90), none, .pick (.t 84) (.t 89) (.c (.kb false))⟩,
   ⟨(some 4), none, .mov (.t 90)⟩])
 .ret))))))))
theorem i_rostrumlaw8_DotsOrder : Is Try.prog 4 91 [.t 4] c_rostrumlaw8_DotsOrder := ⟨Try.f4, _, p_rostrumlaw8_DotsOrder, rfl, rfl, by kernel_rfl, by kernel_rfl, rfl⟩
def p_rostrumlaw8_DotsPlays : List (Nat × Pl) := [(12, (.fl 0 (.fl 1 (.fl 2 (.fl 3 (.fl 4 (.fl 5 (.fl 6 (.fl 7 (.fl 8 (.fl 9 (.fl 11 (.fr 12 (.fl 13 (.fr 14 (.st 10 [12, 14] (.fl 15 (.fl 16 (.fl 17 (.fl 18 (.fl 20 (.fr 21 (.fl 22 (.fr 23 (.st 19 [21, 23] (.st 24 [] (.fl 25 (.fl 26 (.fl 27 (.fl 28 (.fl 30 (.st 29 [] (.st 31 [] (.fl 32 (.fl 33 (.fl 34 (.fl 35 (.fr 36 (.fl 38 (.fr 39 (.st 37 [39] (.st 40 [] (.fl 41 (.fl 42 .done)))))))))))))))))))))))))))))))))))))))))))), (21, (.fl 0 (.fl 1 (.fl 2 (.fl 3 (.fl 4 (.fl 5 (.fl 8 (.st 6 [] (.fr 7 (.st 9 [7] (.fr 10 (.fl 11 (.fl 12 (.fl 13 (.fl 14 (.fr 15 (.fl 17 (.fr 18 (.st 16 [18] (.st 19 [] (.fl 20 (.fl 21 (.fl 22 .done))))))))))))))))))))))))]
def c_rostrumlaw8_DotsPlays : VCode :=
 (.seq (.reg [⟨(some 5), none, .box 24 (.t 2)⟩,
   ⟨(some 6), none, .mov (.c (.kb false))⟩])
 (.seq (.seq (.reg [⟨(some 19), none, .call 8 []⟩,
   ⟨(some 20), none, .un .not (.t 19)⟩])
 (.cond (.t 20)
  (.seq (.reg [⟨(some 6), none, .mov (.c (.kb false))⟩])
  .ret)
  .skip))
 (.seq (.seq (.reg [⟨(some 21), none, .mov (.t 0)⟩,
   ⟨(some 22), none, .len .sl (.t 21)⟩,
   ⟨(some 23), none, .bin .gtr .no (.t 22) (.c (.raw (.int .i64 60)))⟩,
   ⟨(some 24), none, .mov (.t 23)⟩,
   ⟨(some 25), (some (24, false)), .mov (.t 1)⟩,
   ⟨(some 26), (some (24, false)), .len .sl (.t 25)⟩,
   ⟨(some 27), (some (24, false)), .bin .gtr .no (.t 26) (.c (.raw (.int .i64 60)))⟩,
   ⟨(some 28), none, .pick (.t 24) (.c (.kb true)) (.t 27)⟩])
 (.cond (.t 28)
  (.seq (.reg [⟨(some 6), none, .mov (.c (.kb true))⟩])
  .ret)
  .skip))
 (.seq (.reg [⟨(some 29), none, .call 9 []⟩,
   ⟨(some 30), none, .call 9 []⟩,
   ⟨(some 7), none, .mov (.t 29)⟩,
   ⟨(some 8), none, .mov (.t 30)⟩])
 (.seq (.reg [⟨(some 31), none, .build [(.int .i64 0), (.int .i64 0), (.int .i64 0), (.int .i64 0), (.int .i64 0), (.int .i64 0), (.int .i64 0), (.slice none 0 0)] []⟩,
   ⟨(some 32), none, .box 45 (.t 31)⟩,
   ⟨(some 33), none, .build [(.int .i64 0), (.int .i64 0), (.int .i64 0), (.int .i64 0), (.int .i64 0), (.int .i64 0), (.int .i64 0), (.slice none 0 0)] []⟩,
   ⟨(some 34), none, .box 45 (.t 33)⟩,
   ⟨(some 9), none, .mov (.t 32)⟩,
   ⟨(some 10), none, .mov (.t 34)⟩])
 (.seq (.seq (.reg [⟨(some 11), none, .mov (.c (.raw (.int .i64 0)))⟩])
 (.block 0 (.loop (.seq (.seq (.reg [⟨(some 35), none, .mov (.t 11)⟩,
    ⟨(some 36), none, .mov (.t 0)⟩,
    ⟨(some 37), none, .len .sl (.t 36)⟩,
    ⟨(some 38), none, .bin .lss .no (.t 35) (.t 37)⟩])
  (.cond (.t 38)
   .skip
   (.exit 0)))
  (.seq (.block 1 (.seq (.reg [⟨(some 42), none, .mov (.t 7)⟩,
    ⟨(some 43), none, .mov (.t 0)⟩,
    ⟨(some 44), none, .mov (.t 11)⟩,
    ⟨(some 45), none, .iaddr 2 none (.t 43) (.t 44)⟩,
    ⟨(some 46), none, .load (some 2) (.t 45)⟩,
    ⟨(some 47), none, .call 10 [(.t 42), (.t 46)]⟩,
    ⟨(some 41), none, .mov (.t 47)⟩,
    ⟨(some 48), none, .extr (.t 41) 0⟩,
    ⟨(some 49), none, .extr (.t 41) 1⟩,
    ⟨(some 12), none, .mov (.t 48)⟩,
    ⟨(some 13), none, .mov (.t 49)⟩])
  (.seq (.reg [⟨(some 51), none, .mov (.t 9)⟩,
    ⟨(some 52), none, .mov (.t 0)⟩,
    ⟨(some 53), none, .mov (.t 11)⟩,
    ⟨(some 54), none, .iaddr 2 none (.t 52) (.t 53)⟩,
    ⟨(some 55), none, .load (some 2) (.t 54)⟩,
    ⟨(some 56), none, .call 18 [(.t 51), (.t 55)]⟩,
    ⟨(some 50), none, .mov (.t 56)⟩,
    ⟨(some 57), none, .extr (.t 50) 0⟩,
    ⟨(some 58), none, .extr (.t 50) 1⟩,
    ⟨(some 14), none, .mov (.t 57)⟩,
    ⟨(some 15), none, .mov (.t 58)⟩])
  (.seq (.draw [⟨(some 59), none, .mov (.t 12)⟩,
    ⟨(some 60), none, .mov (.t 14)⟩,
    ⟨(some 61), none, .bin .neq .b (.t 59) (.t 60)⟩,
    ⟨(some 62), none, .mov (.t 61)⟩,
    ⟨(some 63), (some (62, false)), .mov (.t 13)⟩,
    ⟨(some 64), (some (62, false)), .mov (.t 15)⟩,
    ⟨(some 65), (some (62, false)), .bin .neq .no (.t 63) (.t 64)⟩,
    ⟨(some 66), none, .pick (.t 62) (.c (.kb true)) (.t 65)⟩,
    ⟨(some 67), none, .mov (.t 66)⟩,
    ⟨(some 68), (some (67, false)), .mov (.t 7)⟩,
    ⟨(some 69), (some (67, false)), .call 12 [(.t 68)]⟩,
    ⟨(some 70), (some (67, false)), .mov (.t 9)⟩,
    ⟨(some 71), (some (67, false)), .nilck (.t 70)⟩,
    ⟨(some 72), (some (67, false)), .faddr 0 (.t 71)⟩,
    ⟨(some 73), (some (67, false)), .load (some 7) (.t 72)⟩,
    ⟨(some 74), (some (67, false)), .bin .neq (.agg [.i, .i, .i, .i, .i, .i, .i]) (.t 69) (.t 73)⟩,
    ⟨(some 75), none, .pick (.t 67) (.c (.kb true)) (.t 74)⟩,
    ⟨(some 76), none, .mov (.t 75)⟩,
    ⟨(some 77), (some (76, false)), .mov (.t 7)⟩,
    ⟨(some 78), (some (76, false)), .call 11 [(.t 77)]⟩,
    ⟨(some 79), (some (76, false)), .mov (.t 9)⟩,
    ⟨(some 80), (some (76, false)), .nilck (.t 79)⟩,
    ⟨(some 81), (some (76, false)), .faddr 7 (.t 80)⟩,
    ⟨(some 82), (some (76, false)), .load none (.t 81)⟩,
    ⟨(some 83), (some (76, false)), .call 19 [(.t 78), (.t 82)]⟩,
    ⟨(some 84), (some (76, false)), .un .not (.t 83)⟩,
    ⟨(some 85), none, .pick (.t 76) (.c (.kb true)) (.t 84)⟩,
    ⟨(some 86), none, .mov (.t 85)⟩,
    ⟨(some 87), (some (86, false)), .mov (.t 7)⟩,
    ⟨(some 88), (some (86, false)), .call 15 [(.t 87)]⟩,
    ⟨(some 89), (some (86, false)), .mov (.t 9)⟩,
    ⟨(some 90), (some (86, false)), .call 20 [(.t 89)]⟩,
    ⟨(some 91), (some (86, false)), .bin .neq .no (.t 88) (.t 90)⟩,
    ⟨(some 92), none, .pick (.t 86) (.c (.kb true)) (.t 91)⟩,
    ⟨(some 93), none, .mov (.t 92)⟩,
    ⟨(some 94), (some (93, false)), .mov (.t 7)⟩,
    ⟨(some 95), (some (93, false)), .load (some 2) (.t 5)⟩,
    ⟨(some 96), (some (93, false)), .call 13 [(.t 94), (.t 95)]⟩,
    ⟨(some 97), (some (93, false)), .mov (.t 9)⟩,
    ⟨(some 98), (some (93, false)), .load (some 2) (.t 5)⟩,
    ⟨(some 99), (some (93, false)), .call 21 [(.t 97), (.t 98)]⟩,
    ⟨(some 100), (some (93, false)), .bin .neq .b (.t 96) (.t 99)⟩,
    ⟨(some 101), none, .pick (.t 93) (.c (.kb true)) (.t 100)⟩]
    (.fl 0 (.fl 1 (.fl 2 (.fl 3 (.fl 4 (.fl 5 (.fl 6 (.fl 7 (.fl 8 (.fl 9 (.fl 11 (.fr 12 (.fl 13 (.fr 14 (.st 10 [12, 14] (.fl 15 (.fl 16 (.fl 17 (.fl 18 (.fl 20 (.fr 21 (.fl 22 (.fr 23 (.st 19 [21, 23] (.st 24 [] (.fl 25 (.fl 26 (.fl 27 (.fl 28 (.fl 30 (.st 29 [] (.st 31 [] (.fl 32 (.fl 33 (.fl 34 (.fl 35 (.fr 36 (.fl 38 (.fr 39 (.st 37 [39] (.st 40 [] (.fl 41 (.fl 42 .done))))))))))))))))))))))))))))))))))))))))))))
  (.cond (.t 101)
   (.seq (.reg [⟨(some 6), none, .mov (.c (.kb false))⟩])
   .ret)
   .skip)))))
  (.reg [⟨(some 39), none, .mov (.t 11)⟩,
    ⟨(some 40), none, .bin .add .no (.t 39) (.c (.raw (.int .i64 1)))⟩,
    ⟨(some 11), none, .mov (.t 40)⟩]))))))
 (.seq (.seq (.reg [⟨(some 16), none, .mov (.c (.raw (.int .i64 0)))⟩])
 (.block 2 (.loop (.seq (.seq (.reg [⟨(some 102), none, .mov (.t 16)⟩,
    ⟨(some 103), none, .mov (.t 1)⟩,
    ⟨(some 104), none, .len .sl (.t 103)⟩,
    ⟨(some 105), none, .bin .lss .no (.t 102) (.t 104)⟩])
  (.cond (.t 105)
   .skip
   (.exit 2)))
  (.seq (.block 3 (.seq (.reg [⟨(some 108), none, .mov (.t 8)⟩,
    ⟨(some 109), none, .mov (.t 1)⟩,
    ⟨(some 110), none, .mov (.t 16)⟩,
    ⟨(some 111), none, .iaddr 2 none (.t 109) (.t 110)⟩,
    ⟨(some 112), none, .load (some 2) (.t 111)⟩,
    ⟨(some 113), none, .call 10 [(.t 108), (.t 112)]⟩])
  (.reg [⟨(some 114), none, .mov (.t 10)⟩,
    ⟨(some 115), none, .mov (.t 1)⟩,
    ⟨(some 116), none, .mov (.t 16)⟩,
    ⟨(some 117), none, .iaddr 2 none (.t 115) (.t 116)⟩,
    ⟨(some 118), none, .load (some 2) (.t 117)⟩,
    ⟨(some 119), none, .call 18 [(.t 114), (.t 118)]⟩])))
  (.reg [⟨(some 106), none, .mov (.t 16)⟩,
    ⟨(some 107), none, .bin .add .no (.t 106) (.c (.raw (.int .i64 1)))⟩,
    ⟨(some 16), none, .mov (.t 107)⟩]))))))
 (.seq (.reg [⟨(some 120), none, .mov (.t 7)⟩,
   ⟨(some 121), none, .mov (.t 8)⟩,
   ⟨(some 122), none, .call 17 [(.t 120), (.t 121)]⟩,
   ⟨(some 17), none, .mov (.t 122)⟩])
 (.seq (.reg [⟨(some 123), none, .mov (.t 9)⟩,
   ⟨(some 124), none, .mov (.t 10)⟩,
   ⟨(some 125), none, .call 22 [(.t 123), (.t 124)]⟩,
   ⟨(some 18), none, .mov (.t 125)⟩])
 (.seq (.draw [⟨(some 126), none, .mov (.t 17)⟩,
   ⟨(some 127), none, .bin .eql .no (.t 126) (.c (.raw (.int .i64 0)))⟩,
   ⟨(some 128), none, .mov (.t 18)⟩,
   ⟨(some 129), none, .bin .eql .b (.t 127) (.t 128)⟩,
   ⟨(some 130), none, .mov (.t 129)⟩,
   ⟨(some 131), (some (130, true)), .mov (.t 7)⟩,
   ⟨(some 132), (some (130, true)), .call 23 [(.t 131), (.c (.raw (.slice none 0 0)))]⟩,
   ⟨(some 133), (some (130, true)), .conv .b2s (.t 132)⟩,
   ⟨(some 134), (some (130, true)), .mov (.t 9)⟩,
   ⟨(some 135), (some (130, true)), .call 24 [(.t 134), (.c (.raw (.slice none 0 0)))]⟩,
   ⟨(some 136), (some (130, true)), .conv .b2s (.t 135)⟩,
   ⟨(some 137), (some (130, true)), .bin .eql .no (.t 133) (.t 136)⟩,
   ⟨(some 138), none, .pick (.t 130) (.t 137) (.c (.kb false))⟩,
   ⟨(some 139), none, .mov (.t 138)⟩,
   ⟨(some 140), (some (139, true)), .mov (.t 7)⟩,
   ⟨(some 141), (some (139, true)), .load (some 2) (.t 5)⟩,
   ⟨(some 142), (some (139, true)), .call 13 [(.t 140), (.t 141)]⟩,
   ⟨(some 143), (some (139, true)), .mov (.t 9)⟩,
   ⟨(some 144), (some (139, true)), .load (some 2) (.t 5)⟩,
   ⟨(some 145), (some (139, true)), .call 21 [(.t 143), (.t 144)]⟩,
   ⟨(some 146), (some (139, true)), .bin .eql .b (.t 142) (.t 145)⟩,
   ⟨(some 147), none, .pick (.t 139) (.t 146) (.c (.kb false))⟩,
   ⟨(some 6), none, .mov (.t 147)⟩]
   (.fl 0 (.fl 1 (.fl 2 (.fl 3 (.fl 4 (.fl 5 (.fl 8 (.st 6 [] (.fr 7 (.st 9 [7] (.fr 10 (.fl 11 (.fl 12 (.fl 13 (.fl 14 (.fr 15 (.fl 17 (.fr 18 (.st 16 [18] (.st 19 [] (.fl 20 (.fl 21 (.fl 22 .done))))))))))))))))))))))))
 .ret))))))))))
theorem i_rostrumlaw8_DotsPlays : Is Try.prog 5 148 [.t 6] c_rostrumlaw8_DotsPlays := ⟨Try.f5, _, p_rostrumlaw8_DotsPlays, rfl, rfl, by kernel_rfl, by kernel_rfl, rfl⟩
def p_rostrumlaw8_DotsKnown : List (Nat × Pl) := []
def c_rostrumlaw8_DotsKnown : VCode :=
 (.seq (.reg [⟨(some 0), none, .mov (.c (.kb false))⟩])
 (.seq (.seq (.reg [⟨(some 13), none, .call 8 []⟩,
   ⟨(some 14), none, .un .not (.t 13)⟩])
 (.cond (.t 14)
  (.seq (.reg [⟨(some 0), none, .mov (.c (.kb false))⟩])
  .ret)
  .skip))
 (.seq (.reg [⟨(some 15), none, .call 9 []⟩,
   ⟨(some 1), none, .mov (.t 15)⟩])
 (.seq (.reg [⟨(some 17), none, .mov (.t 1)⟩,
   ⟨(some 18), none, .build [(.int .i64 0), (.int .i64 0)] [(0, 1, (.c (.raw (.int .i64 7)))), (1, 1, (.c (.raw (.int .i64 1))))]⟩,
   ⟨(some 19), none, .call 10 [(.t 17), (.t 18)]⟩,
   ⟨(some 16), none, .mov (.t 19)⟩,
   ⟨(some 20), none, .extr (.t 16) 0⟩,
   ⟨(some 21), none, .extr (.t 16) 1⟩,
   ⟨(some 2), none, .mov (.t 20)⟩,
   ⟨(some 3), none, .mov (.t 21)⟩])
 (.seq (.reg [⟨(some 23), none, .mov (.t 1)⟩,
   ⟨(some 24), none, .build [(.int .i64 0), (.int .i64 0)] []⟩,
   ⟨(some 25), none, .call 10 [(.t 23), (.t 24)]⟩,
   ⟨(some 22), none, .mov (.t 25)⟩,
   ⟨(some 26), none, .extr (.t 22) 0⟩,
   ⟨(some 27), none, .extr (.t 22) 1⟩,
   ⟨(some 4), none, .mov (.t 26)⟩,
   ⟨(some 5), none, .mov (.t 27)⟩])
 (.seq (.reg [⟨(some 29), none, .mov (.t 1)⟩,
   ⟨(some 30), none, .build [(.int .i64 0), (.int .i64 0)] [(1, 1, (.c (.raw (.int .i64 1099511627777))))]⟩,
   ⟨(some 31), none, .call 10 [(.t 29), (.t 30)]⟩,
   ⟨(some 28), none, .mov (.t 31)⟩,
   ⟨(some 32), none, .extr (.t 28) 0⟩,
   ⟨(some 33), none, .extr (.t 28) 1⟩,
   ⟨(some 6), none, .mov (.t 32)⟩,
   ⟨(some 7), none, .mov (.t 33)⟩])
 (.seq (.reg [⟨(some 34), none, .mov (.t 1)⟩,
   ⟨(some 35), none, .build [(.int .i64 0), (.int .i64 0)] [(0, 1, (.c (.raw (.int .i64 1)))), (1, 1, (.c (.raw (.int .i64 5))))]⟩,
   ⟨(some 36), none, .call 10 [(.t 34), (.t 35)]⟩])
 (.seq (.reg [⟨(some 38), none, .mov (.t 1)⟩,
   ⟨(some 39), none, .build [(.int .i64 0), (.int .i64 0)] [(0, 1, (.c (.raw (.int .i64 1)))), (1, 1, (.c (.raw (.int .i64 5))))]⟩,
   ⟨(some 40), none, .call 10 [(.t 38), (.t 39)]⟩,
   ⟨(some 37), none, .mov (.t 40)⟩,
   ⟨(some 41), none, .extr (.t 37) 0⟩,
   ⟨(some 42), none, .extr (.t 37) 1⟩,
   ⟨(some 8), none, .mov (.t 41)⟩,
   ⟨(some 9), none, .mov (.t 42)⟩])
 (.seq (.reg [⟨(some 43), none, .mov (.t 1)⟩,
   ⟨(some 44), none, .call 23 [(.t 43), (.c (.raw (.slice none 0 0)))]⟩,
   ⟨(some 10), none, .mov (.t 44)⟩])
 (.seq (.reg [⟨(some 45), none, .mov (.t 10)⟩,
   ⟨(some 46), none, .call 25 [(.t 45)]⟩,
   ⟨(some 11), none, .mov (.t 46)⟩])
 (.seq (.reg [⟨(some 47), none, .mov (.t 11)⟩,
   ⟨(some 48), none, .call 26 [(.t 47)]⟩,
   ⟨(some 12), none, .mov (.t 48)⟩])
 (.seq (.reg [⟨(some 49), none, .mov (.t 3)⟩,
   ⟨(some 50), none, .bin .eql .no (.t 49) (.c (.raw (.int .i64 1)))⟩,
   ⟨(some 51), none, .mov (.t 50)⟩,
   ⟨(some 52), (some (51, true)), .mov (.t 5)⟩,
   ⟨(some 53), (some (51, true)), .bin .eql .no (.t 52) (.c (.raw (.int .i64 1)))⟩,
   ⟨(some 54), none, .pick (.t 51) (.t 53) (.c (.kb false))⟩,
   ⟨(some 55), none, .mov (.t 54)⟩,
   ⟨(some 56), (some (55, true)), .mov (.t 7)⟩,
   ⟨(some 57), (some (55, true)), .bin .eql .no (.t 56) (.c (.raw (.int .i64 1)))⟩,
   ⟨(some 58), none, .pick (.t 55) (.t 57) (.c (.kb false))⟩,
   ⟨(some 59), none, .mov (.t 58)⟩,
   ⟨(some 60), (some (59, true)), .mov (.t 8)⟩,
   ⟨(some 61), (some (59, true)), .un .not (.t 60)⟩,
   ⟨(some 62), none, .pick (.t 59) (.t 61) (.c (.kb false))⟩,
   ⟨(some 63), none, .mov (.t 62)⟩,
   ⟨(some 64), (some (63, true)), .mov (.t 12)⟩,
   ⟨(some 65), (some (63, true)), .bin .neq .p (.t 64) (.c (.raw (.pointer none)))⟩,
   ⟨(some 66), none, .pick (.t 63) (.t 65) (.c (.kb false))⟩,
   ⟨(some 67), none, .mov (.t 66)⟩,
   ⟨(some 68), (some (67, true)), .mov (.t 1)⟩,
   ⟨(some 69), (some (67, true)), .mov (.t 12)⟩,
   ⟨(some 70), (some (67, true)), .call 16 [(.t 68), (.t 69)]⟩,
   ⟨(some 71), none, .pick (.t 67) (.t 70) (.c (.kb false))⟩,
   ⟨(some 72), none, .mov (.t 71)⟩,
   ⟨(some 73), (some (72, true)), .mov (.t 11)⟩,
   ⟨(some 74), (some (72, true)), .call 27 [(.t 73)]⟩,
   ⟨(some 75), none, .pick (.t 72) (.t 74) (.c (.kb false))⟩,
   ⟨(some 76), none, .mov (.t 75)⟩,
   ⟨(some 77), (some (76, true)), .bslice 5 10 [(.int .u8 0), (.int .u8 0), (.int .u8 0), (.int .u8 0), (.int .u8 0), (.int .u8 0), (.int .u8 0), (.int .u8 0), (.int .u8 0), (.int .u8 0)] [(0, 1, (.c (.raw (.int .u8 0)))), (1, 1, (.c (.raw (.int .u8 0)))), (2, 1, (.c (.raw (.int .u8 0)))), (3, 1, (.c (.raw (.int .u8 0)))), (4, 1, (.c (.raw (.int .u8 0)))), (5, 1, (.c (.raw (.int .u8 0)))), (6, 1, (.c (.raw (.int .u8 0)))), (7, 1, (.c (.raw (.int .u8 2)))), (8, 1, (.c (.raw (.int .u8 0)))), (9, 1, (.c (.raw (.int .u8 2))))]⟩,
   ⟨(some 78), (some (76, true)), .call 25 [(.t 77)]⟩,
   ⟨(some 79), (some (76, true)), .call 26 [(.t 78)]⟩,
   ⟨(some 80), (some (76, true)), .bin .eql .p (.t 79) (.c (.raw (.pointer none)))⟩,
   ⟨(some 81), none, .pick (.t 76) (.t 80) (.c (.kb false))⟩,
   ⟨(some 82), none, .mov (.t 81)⟩,
   ⟨(some 83), (some (82, true)), .call 25 [(.c (.raw (.slice none 0 0)))]⟩,
   ⟨(some 84), (some (82, true)), .call 26 [(.t 83)]⟩,
   ⟨(some 85), (some (82, true)), .bin .eql .p (.t 84) (.c (.raw (.pointer none)))⟩,
   ⟨(some 86), none, .pick (.t 82) (.t 85) (.c (.kb false))⟩,
   ⟨(some 87), none, .mov (.t 86)⟩,
   ⟨(some 88), (some (87, true)), .mov (.t 1)⟩,
   ⟨(some 89), (some (87, true)), .build [(.int .i64 0), (.int .i64 0)] [(0, 1, (.c (.raw (.int .i64 1)))), (1, 1, (.c (.raw (.int .i64 4))))]⟩,
   ⟨(some 90), (some (87, true)), .call 13 [(.t 88), (.t 89)]⟩,
   ⟨(some 91), (some (87, true)), .un .not (.t 90)⟩,
   ⟨(some 92), none, .pick (.t 87) (.t 91) (.c (.kb false))⟩,
   ⟨(some 0), none, .mov (.t 92)⟩])
 .ret))))))))))))
theorem i_rostrumlaw8_DotsKnown : Is Try.prog 6 93 [.t 0] c_rostrumlaw8_DotsKnown := ⟨Try.f6, _, p_rostrumlaw8_DotsKnown, rfl, rfl, by kernel_rfl, by kernel_rfl, rfl⟩
def p_rostrumlaw8_DotsBytes : List (Nat × Pl) := [(7, (.fl 0 (.fl 1 (.fl 2 (.fl 3 (.fl 4 (.fl 5 (.fl 6 (.fl 7 (.fl 8 (.fl 9 (.fl 12 (.st 10 [] (.fr 11 (.st 13 [11] (.fr 14 (.fl 15 (.fl 16 (.fl 17 (.fl 19 (.st 18 [] (.st 20 [] (.fl 21 (.fl 22 (.fl 23 (.fl 24 .done))))))))))))))))))))))))))]
def c_rostrumlaw8_DotsBytes : VCode :=
 (.seq (.reg [⟨(some 4), none, .mov (.c (.kb false))⟩])
 (.seq (.seq (.reg [⟨(some 13), none, .call 8 []⟩,
   ⟨(some 14), none, .un .not (.t 13)⟩])
 (.cond (.t 14)
  (.seq (.reg [⟨(some 4), none, .mov (.c (.kb false))⟩])
  .ret)
  .skip))
 (.seq (.seq (.reg [⟨(some 15), none, .mov (.t 0)⟩,
   ⟨(some 16), none, .len .sl (.t 15)⟩,
   ⟨(some 17), none, .bin .gtr .no (.t 16) (.c (.raw (.int .i64 300)))⟩,
   ⟨(some 18), none, .mov (.t 17)⟩,
   ⟨(some 19), (some (18, false)), .mov (.t 1)⟩,
   ⟨(some 20), (some (18, false)), .len .sl (.t 19)⟩,
   ⟨(some 21), (some (18, false)), .bin .gtr .no (.t 20) (.c (.raw (.int .i64 60)))⟩,
   ⟨(some 22), none, .pick (.t 18) (.c (.kb true)) (.t 21)⟩])
 (.cond (.t 22)
  (.seq (.reg [⟨(some 4), none, .mov (.c (.kb true))⟩])
  .ret)
  .skip))
 (.seq (.reg [⟨(some 23), none, .mov (.t 0)⟩,
   ⟨(some 24), none, .call 25 [(.t 23)]⟩,
   ⟨(some 25), none, .mov (.t 0)⟩,
   ⟨(some 26), none, .build [(.slice none 0 0), (.int .i64 0), (.bool false)] [(0, 1, (.t 25))]⟩,
   ⟨(some 27), none, .box 55 (.t 26)⟩,
   ⟨(some 5), none, .mov (.t 24)⟩,
   ⟨(some 6), none, .mov (.t 27)⟩])
 (.seq (.reg [⟨(some 28), none, .mov (.t 5)⟩,
   ⟨(some 29), none, .call 26 [(.t 28)]⟩,
   ⟨(some 30), none, .mov (.t 6)⟩,
   ⟨(some 31), none, .call 28 [(.t 30)]⟩,
   ⟨(some 7), none, .mov (.t 29)⟩,
   ⟨(some 8), none, .mov (.t 31)⟩])
 (.seq (.seq (.draw [⟨(some 32), none, .mov (.t 7)⟩,
   ⟨(some 33), none, .bin .eql .p (.t 32) (.c (.raw (.pointer none)))⟩,
   ⟨(some 34), none, .mov (.t 8)⟩,
   ⟨(some 35), none, .bin .eql .p (.t 34) (.c (.raw (.pointer none)))⟩,
   ⟨(some 36), none, .bin .neq .b (.t 33) (.t 35)⟩,
   ⟨(some 37), none, .mov (.t 36)⟩,
   ⟨(some 38), (some (37, false)), .mov (.t 7)⟩,
   ⟨(some 39), (some (37, false)), .bin .neq .p (.t 38) (.c (.raw (.pointer none)))⟩,
   ⟨(some 40), (some (37, false)), .mov (.t 39)⟩,
   ⟨(some 41), (some (40, true)), .mov (.t 7)⟩,
   ⟨(some 42), (some (40, true)), .call 23 [(.t 41), (.c (.raw (.slice none 0 0)))]⟩,
   ⟨(some 43), (some (40, true)), .conv .b2s (.t 42)⟩,
   ⟨(some 44), (some (40, true)), .mov (.t 8)⟩,
   ⟨(some 45), (some (40, true)), .call 24 [(.t 44), (.c (.raw (.slice none 0 0)))]⟩,
   ⟨(some 46), (some (40, true)), .conv .b2s (.t 45)⟩,
   ⟨(some 47), (some (40, true)), .bin .neq .no (.t 43) (.t 46)⟩,
   ⟨(some 48), (some (40, true)), .mov (.t 47)⟩,
   ⟨(some 49), (some (48, false)), .mov (.t 5)⟩,
   ⟨(some 50), (some (48, false)), .call 27 [(.t 49)]⟩,
   ⟨(some 51), (some (48, false)), .mov (.t 6)⟩,
   ⟨(some 52), (some (48, false)), .call 29 [(.t 51)]⟩,
   ⟨(some 53), (some (48, false)), .bin .neq .b (.t 50) (.t 52)⟩,
   ⟨(some 54), (some (40, true)), .pick (.t 48) (.c (.kb true)) (.t 53)⟩,
   ⟨(some 55), (some (37, false)), .pick (.t 40) (.t 54) (.c (.kb false))⟩,
   ⟨(some 56), none, .pick (.t 37) (.c (.kb true)) (.t 55)⟩]
   (.fl 0 (.fl 1 (.fl 2 (.fl 3 (.fl 4 (.fl 5 (.fl 6 (.fl 7 (.fl 8 (.fl 9 (.fl 12 (.st 10 [] (.fr 11 (.st 13 [11] (.fr 14 (.fl 15 (.fl 16 (.fl 17 (.fl 19 (.st 18 [] (.st 20 [] (.fl 21 (.fl 22 (.fl 23 (.fl 24 .done))))))))))))))))))))))))))
 (.cond (.t 56)
  (.seq (.reg [⟨(some 4), none, .mov (.c (.kb false))⟩])
  .ret)
  .skip))
 (.seq (.reg [⟨(some 57), none, .call 9 []⟩,
   ⟨(some 9), none, .mov (.t 57)⟩])
 (.seq (.seq (.reg [⟨(some 10), none, .mov (.c (.raw (.int .i64 0)))⟩])
 (.block 0 (.loop (.seq (.seq (.reg [⟨(some 58), none, .mov (.t 10)⟩,
    ⟨(some 59), none, .mov (.t 1)⟩,
    ⟨(some 60), none, .len .sl (.t 59)⟩,
    ⟨(some 61), none, .bin .lss .no (.t 58) (.t 60)⟩])
  (.cond (.t 61)
   .skip
   (.exit 0)))
  (.seq (.block 1 (.reg [⟨(some 64), none, .mov (.t 9)⟩,
    ⟨(some 65), none, .mov (.t 1)⟩,
    ⟨(some 66), none, .mov (.t 10)⟩,
    ⟨(some 67), none, .iaddr 2 none (.t 65) (.t 66)⟩,
    ⟨(some 68), none, .load (some 2) (.t 67)⟩,
    ⟨(some 69), none, .call 10 [(.t 64), (.t 68)]⟩]))
  (.reg [⟨(some 62), none, .mov (.t 10)⟩,
    ⟨(some 63), none, .bin .add .no (.t 62) (.c (.raw (.int .i64 1)))⟩,
    ⟨(some 10), none, .mov (.t 63)⟩]))))))
 (.seq (.reg [⟨(some 70), none, .mov (.t 9)⟩,
   ⟨(some 71), none, .call 23 [(.t 70), (.c (.raw (.slice none 0 0)))]⟩,
   ⟨(some 72), none, .call 25 [(.t 71)]⟩,
   ⟨(some 11), none, .mov (.t 72)⟩])
 (.seq (.reg [⟨(some 73), none, .mov (.t 11)⟩,
   ⟨(some 74), none, .call 26 [(.t 73)]⟩,
   ⟨(some 12), none, .mov (.t 74)⟩])
 (.seq (.reg [⟨(some 75), none, .mov (.t 12)⟩,
   ⟨(some 76), none, .bin .neq .p (.t 75) (.c (.raw (.pointer none)))⟩,
   ⟨(some 77), none, .mov (.t 76)⟩,
   ⟨(some 78), (some (77, true)), .mov (.t 9)⟩,
   ⟨(some 79), (some (77, true)), .mov (.t 12)⟩,
   ⟨(some 80), (some (77, true)), .call 16 [(.t 78), (.t 79)]⟩,
   ⟨(some 81), none, .pick (.t 77) (.t 80) (.c (.kb false))⟩,
   ⟨(some 82), none, .mov (.t 81)⟩,
   ⟨(some 83), (some (82, true)), .mov (.t 11)⟩,
   ⟨(some 84), (some (82, true)), .call 27 [(.t 83)]⟩,
   ⟨(some 85), none, .pick (.t 82) (.t 84) (.c (.kb false))⟩,
   ⟨(some 4), none, .mov (.t 85)⟩])
 .ret)))))))))))
theorem i_rostrumlaw8_DotsBytes : Is Try.prog 7 86 [.t 4] c_rostrumlaw8_DotsBytes := ⟨Try.f7, _, p_rostrumlaw8_DotsBytes, rfl, rfl, by kernel_rfl, by kernel_rfl, rfl⟩
def p_rostrumlaw8_awake : List (Nat × Pl) := []
def c_rostrumlaw8_awake : VCode :=
 (.seq (.reg [⟨(some 0), none, .mov (.c (.kb false))⟩])
 (.seq (.reg [⟨(some 7), none, .call 9 []⟩,
   ⟨(some 1), none, .mov (.t 7)⟩])
 (.seq (.seq (.reg [⟨(some 8), none, .mov (.t 1)⟩,
   ⟨(some 9), none, .bin .eql .p (.t 8) (.c (.raw (.pointer none)))⟩])
 (.cond (.t 9)
  (.seq (.reg [⟨(some 0), none, .mov (.c (.kb false))⟩])
  .ret)
  .skip))
 (.seq (.reg [⟨(some 11), none, .mov (.t 1)⟩,
   ⟨(some 12), none, .build [(.int .i64 0), (.int .i64 0)] [(1, 1, (.c (.raw (.int .i64 2))))]⟩,
   ⟨(some 13), none, .call 10 [(.t 11), (.t 12)]⟩,
   ⟨(some 10), none, .mov (.t 13)⟩,
   ⟨(some 14), none, .extr (.t 10) 0⟩,
   ⟨(some 15), none, .extr (.t 10) 1⟩,
   ⟨(some 2), none, .mov (.t 14)⟩,
   ⟨(some 3), none, .mov (.t 15)⟩])
 (.seq (.reg [⟨(some 16), none, .mov (.t 1)⟩,
   ⟨(some 17), none, .call 11 [(.t 16)]⟩,
   ⟨(some 4), none, .mov (.t 17)⟩])
 (.seq (.reg [⟨(some 19), none, .mov (.t 1)⟩,
   ⟨(some 20), none, .build [(.int .i64 0), (.int .i64 0)] [(1, 1, (.c (.raw (.int .i64 1))))]⟩,
   ⟨(some 21), none, .call 10 [(.t 19), (.t 20)]⟩,
   ⟨(some 18), none, .mov (.t 21)⟩,
   ⟨(some 22), none, .extr (.t 18) 0⟩,
   ⟨(some 23), none, .extr (.t 18) 1⟩,
   ⟨(some 5), none, .mov (.t 22)⟩,
   ⟨(some 6), none, .mov (.t 23)⟩])
 (.seq (.reg [⟨(some 24), none, .mov (.t 2)⟩,
   ⟨(some 25), none, .mov (.t 24)⟩,
   ⟨(some 26), (some (25, true)), .mov (.t 3)⟩,
   ⟨(some 27), (some (25, true)), .bin .eql .no (.t 26) (.c (.raw (.int .i64 0)))⟩,
   ⟨(some 28), none, .pick (.t 25) (.t 27) (.c (.kb false))⟩,
   ⟨(some 29), none, .mov (.t 28)⟩,
   ⟨(some 30), (some (29, true)), .mov (.t 4)⟩,
   ⟨(some 31), (some (29, true)), .len .sl (.t 30)⟩,
   ⟨(some 32), (some (29, true)), .bin .eql .no (.t 31) (.c (.raw (.int .i64 1)))⟩,
   ⟨(some 33), none, .pick (.t 29) (.t 32) (.c (.kb false))⟩,
   ⟨(some 34), none, .mov (.t 33)⟩,
   ⟨(some 35), (some (34, true)), .mov (.t 4)⟩,
   ⟨(some 36), (some (34, true)), .iaddr 2 none (.t 35) (.c (.raw (.int .i64 0)))⟩,
   ⟨(some 37), (some (34, true)), .load (some 2) (.t 36)⟩,
   ⟨(some 38), (some (34, true)), .build [(.int .i64 0), (.int .i64 0)] [(1, 1, (.c (.raw (.int .i64 2))))]⟩,
   ⟨(some 39), (some (34, true)), .bin .eql (.agg [.i, .i]) (.t 37) (.t 38)⟩,
   ⟨(some 40), none, .pick (.t 34) (.t 39) (.c (.kb false))⟩,
   ⟨(some 41), none, .mov (.t 40)⟩,
   ⟨(some 42), (some (41, true)), .mov (.t 5)⟩,
   ⟨(some 43), none, .pick (.t 41) (.t 42) (.c (.kb false))⟩,
   ⟨(some 44), none, .mov (.t 43)⟩,
   ⟨(some 45), (some (44, true)), .mov (.t 6)⟩,
   ⟨(some 46), (some (44, true)), .bin .eql .no (.t 45) (.c (.raw (.int .i64 0)))⟩,
   ⟨(some 47), none, .pick (.t 44) (.t 46) (.c (.kb false))⟩,
   ⟨(some 48), none, .mov (.t 47)⟩,
   ⟨(some 49), (some (48, true)), .mov (.t 1)⟩,
   ⟨(some 50), (some (48, true)), .call 12 [(.t 49)]⟩,
   ⟨(some 51), (some (48, true)), .build [(.int .i64 0), (.int .i64 0), (.int .i64 0), (.int .i64 0), (.int .i64 0), (.int .i64 0), (.int .i64 0)] [(0, 1, (.c (.raw (.int .i64 2))))]⟩,
   ⟨(some 52), (some (48, true)), .bin .eql (.agg [.i, .i, .i, .i, .i, .i, .i]) (.t 50) (.t 51)⟩,
   ⟨(some 53), none, .pick (.t 48) (.t 52) (.c (.kb false))⟩,
   ⟨(some 54), none, .mov (.t 53)⟩,
   ⟨(some 55), (some (54, true)), .mov (.t 1)⟩,
   ⟨(some 56), (some (54, true)), .call 11 [(.t 55)]⟩,
   ⟨(some 57), (some (54, true)), .len .sl (.t 56)⟩,
   ⟨(some 58), (some (54, true)), .bin .eql .no (.t 57) (.c (.raw (.int .i64 0)))⟩,
   ⟨(some 59), none, .pick (.t 54) (.t 58) (.c (.kb false))⟩,
   ⟨(some 60), none, .mov (.t 59)⟩,
   ⟨(some 61), (some (60, true)), .mov (.t 1)⟩,
   ⟨(some 62), (some (60, true)), .call 15 [(.t 61)]⟩,
   ⟨(some 63), (some (60, true)), .bin .eql .no (.t 62) (.c (.raw (.int .i64 2)))⟩,
   ⟨(some 64), none, .pick (.t 60) (.t 63) (.c (.kb false))⟩,
   ⟨(some 0), none, .mov (.t 64)⟩])
 .ret)))))))
theorem i_rostrumlaw8_awake : Is Try.prog 8 65 [.t 0] c_rostrumlaw8_awake := ⟨Try.f8, _, p_rostrumlaw8_awake, rfl, rfl, by kernel_rfl, by kernel_rfl, rfl⟩
def p_dots_New : List (Nat × Pl) := []
def c_dots_New : VCode :=
 (.seq (.reg [⟨(some 0), none, .mov (.c (.raw (.pointer none)))⟩])
 (.seq (.reg [⟨(some 1), none, .mkmap⟩,
   ⟨(some 2), none, .build [(.int .i64 0), (.int .i64 0), (.int .i64 0), (.int .i64 0), (.int .i64 0), (.int .i64 0), (.int .i64 0), (.map none)] [(7, 1, (.t 1))]⟩,
   ⟨(some 3), none, .box 60 (.t 2)⟩,
   ⟨(some 0), none, .mov (.t 3)⟩])
 .ret))
theorem i_dots_New : Is Try.prog 9 4 [.t 0] c_dots_New := ⟨Try.f9, _, p_dots_New, rfl, rfl, by kernel_rfl, by kernel_rfl, rfl⟩
def p_dots_Dots_Add : List (Nat × Pl) := [(5, (.fl 0 (.fr 1 (.fl 2 (.fl 3 (.fr 4 (.fr 5 (.fl 6 (.fr 7 (.fr 8 (.fl 9 (.fl 10 (.fl 11 (.fl 12 (.fr 13 (.fl 14 (.fr 15 (.fr 16 (.fl 17 (.fl 18 (.fl 19 .done))))))))))))))))))))), (7, (.fl 0 (.fr 1 (.fl 2 (.fr 3 (.fr 4 (.st 5 [] .done)))))))]
def c_dots_Dots_Add : VCode :=
 (.seq (.reg [⟨(some 3), none, .box 24 (.t 1)⟩,
   ⟨(some 4), none, .mov (.c (.kb false))⟩,
   ⟨(some 5), none, .mov (.c (.raw (.int .i64 0)))⟩])
 (.seq (.block 0 (.seq (.reg [⟨(some 7), none, .load (some 2) (.t 3)⟩,
   ⟨(some 8), none, .call 30 [(.t 7)]⟩,
   ⟨(some 9), none, .un .not (.t 8)⟩,
   ⟨(some 6), none, .mov (.t 9)⟩])
 (.cond (.t 6)
  (.seq (.reg [⟨(some 4), none, .mov (.c (.kb false))⟩,
    ⟨(some 5), none, .mov (.c (.raw (.int .i64 1)))⟩])
  .ret)
  (.seq (.reg [⟨(some 11), none, .mov (.t 0)⟩,
    ⟨(some 12), none, .load (some 2) (.t 3)⟩,
    ⟨(some 13), none, .call 13 [(.t 11), (.t 12)]⟩,
    ⟨(some 10), none, .mov (.t 13)⟩])
  (.cond (.t 10)
   (.seq (.reg [⟨(some 4), none, .mov (.c (.kb false))⟩,
     ⟨(some 5), none, .mov (.c (.raw (.int .i64 0)))⟩])
   .ret)
   (.seq (.draw [⟨(some 15), none, .faddr 1 (.t 3)⟩,
     ⟨(some 16), none, .load none (.t 15)⟩,
     ⟨(some 17), none, .mov (.t 0)⟩,
     ⟨(some 18), none, .faddr 0 (.t 3)⟩,
     ⟨(some 19), none, .load none (.t 18)⟩,
     ⟨(some 20), none, .nilck (.t 17)⟩,
     ⟨(some 21), none, .faddr 0 (.t 20)⟩,
     ⟨(some 22), none, .iaddr 1 (some 7) (.t 21) (.t 19)⟩,
     ⟨(some 23), none, .load none (.t 22)⟩,
     ⟨(some 24), none, .bin .add .no (.t 23) (.c (.raw (.int .i64 1)))⟩,
     ⟨(some 25), none, .bin .neq .no (.t 16) (.t 24)⟩,
     ⟨(some 26), none, .mov (.t 25)⟩,
     ⟨(some 27), (some (26, true)), .mov (.t 0)⟩,
     ⟨(some 28), (some (26, true)), .nilck (.t 27)⟩,
     ⟨(some 29), (some (26, true)), .faddr 7 (.t 28)⟩,
     ⟨(some 30), (some (26, true)), .load none (.t 29)⟩,
     ⟨(some 31), (some (26, true)), .len .mp (.t 30)⟩,
     ⟨(some 32), (some (26, true)), .bin .geq .no (.t 31) (.c (.raw (.int .i64 1000)))⟩,
     ⟨(some 33), none, .pick (.t 26) (.t 32) (.c (.kb false))⟩,
     ⟨(some 14), none, .mov (.t 33)⟩]
     (.fl 0 (.fr 1 (.fl 2 (.fl 3 (.fr 4 (.fr 5 (.fl 6 (.fr 7 (.fr 8 (.fl 9 (.fl 10 (.fl 11 (.fl 12 (.fr 13 (.fl 14 (.fr 15 (.fr 16 (.fl 17 (.fl 18 (.fl 19 .done)))))))))))))))))))))
   (.cond (.t 14)
    (.seq (.reg [⟨(some 4), none, .mov (.c (.kb false))⟩,
      ⟨(some 5), none, .mov (.c (.raw (.int .i64 2)))⟩])
    .ret)
    .skip)))))))
 (.seq (.draw [⟨(some 34), none, .mov (.t 0)⟩,
   ⟨(some 35), none, .nilck (.t 34)⟩,
   ⟨(some 36), none, .faddr 7 (.t 35)⟩,
   ⟨(some 37), none, .load none (.t 36)⟩,
   ⟨(some 38), none, .load (some 2) (.t 3)⟩,
   ⟨none, none, .mapup 58 (.t 37) (.t 38) (.c (.kb true))⟩]
   (.fl 0 (.fr 1 (.fl 2 (.fr 3 (.fr 4 (.st 5 [] .done)))))))
 (.seq (.reg [⟨(some 39), none, .mov (.t 0)⟩,
   ⟨(some 40), none, .call 31 [(.t 39)]⟩])
 (.seq (.reg [⟨(some 4), none, .mov (.c (.kb true))⟩,
   ⟨(some 5), none, .mov (.c (.raw (.int .i64 0)))⟩])
 .ret)))))
theorem i_dots_Dots_Add : Is Try.prog 10 41 [.t 4, .t 5] c_dots_Dots_Add := ⟨Try.f10, _, p_dots_Dots_Add, rfl, rfl, by kernel_rfl, by kernel_rfl, rfl⟩
def p_dots_Dots_Loose : List (Nat × Pl) := []
def c_dots_Dots_Loose : VCode :=
 (.seq (.reg [⟨(some 2), none, .mov (.c (.raw (.slice none 0 0)))⟩])
 (.seq (.reg [⟨(some 3), none, .mov (.t 0)⟩,
   ⟨(some 4), none, .nilck (.t 3)⟩,
   ⟨(some 5), none, .faddr 7 (.t 4)⟩,
   ⟨(some 6), none, .load none (.t 5)⟩,
   ⟨(some 7), none, .call 33 [(.t 6)]⟩,
   ⟨(some 8), none, .call 32 [(.t 7), (.c (.fn 34 []))]⟩,
   ⟨(some 2), none, .mov (.t 8)⟩])
 .ret))
theorem i_dots_Dots_Loose : Is Try.prog 11 9 [.t 2] c_dots_Dots_Loose := ⟨Try.f11, _, p_dots_Dots_Loose, rfl, rfl, by kernel_rfl, by kernel_rfl, rfl⟩
def p_dots_Dots_Vec : List (Nat × Pl) := []
def c_dots_Dots_Vec : VCode :=
 (.seq (.reg [⟨(some 2), none, .new 33 [(.int .i64 0), (.int .i64 0), (.int .i64 0), (.int .i64 0), (.int .i64 0), (.int .i64 0), (.int .i64 0)]⟩])
 (.seq (.reg [⟨(some 3), none, .mov (.t 0)⟩,
   ⟨(some 4), none, .nilck (.t 3)⟩,
   ⟨(some 5), none, .faddr 0 (.t 4)⟩,
   ⟨(some 6), none, .load (some 7) (.t 5)⟩,
   ⟨none, none, .store (some 7) (.t 2) (.t 6)⟩])
 .ret))
theorem i_dots_Dots_Vec : Is Try.prog 12 7 [.cell 2 (some 7)] c_dots_Dots_Vec := ⟨Try.f12, _, p_dots_Dots_Vec, rfl, rfl, by kernel_rfl, by kernel_rfl, rfl⟩
def p_dots_Dots_Has : List (Nat × Pl) := [(1, (.fl 0 (.fr 1 (.fl 2 (.fr 3 (.fr 4 (.st 5 [] (.fl 6 (.fl 7 (.fr 8 (.fl 9 (.fr 10 (.fr 11 (.fr 12 (.fl 13 (.fl 14 .done))))))))))))))))]
def c_dots_Dots_Has : VCode :=
 (.seq (.reg [⟨(some 3), none, .box 24 (.t 1)⟩,
   ⟨(some 4), none, .mov (.c (.kb false))⟩])
 (.seq (.draw [⟨(some 5), none, .mov (.t 0)⟩,
   ⟨(some 6), none, .nilck (.t 5)⟩,
   ⟨(some 7), none, .faddr 0 (.t 6)⟩,
   ⟨(some 8), none, .load (some 7) (.t 7)⟩,
   ⟨(some 9), none, .load (some 2) (.t 3)⟩,
   ⟨(some 10), none, .call 14 [(.t 8), (.t 9)]⟩,
   ⟨(some 11), none, .mov (.t 10)⟩,
   ⟨(some 12), (some (11, false)), .mov (.t 0)⟩,
   ⟨(some 13), (some (11, false)), .nilck (.t 12)⟩,
   ⟨(some 14), (some (11, false)), .faddr 7 (.t 13)⟩,
   ⟨(some 15), (some (11, false)), .load none (.t 14)⟩,
   ⟨(some 16), (some (11, false)), .load (some 2) (.t 3)⟩,
   ⟨(some 17), (some (11, false)), .lookup 58 false (.t 15) (.t 16)⟩,
   ⟨(some 18), none, .pick (.t 11) (.c (.kb true)) (.t 17)⟩,
   ⟨(some 4), none, .mov (.t 18)⟩]
   (.fl 0 (.fr 1 (.fl 2 (.fr 3 (.fr 4 (.st 5 [] (.fl 6 (.fl 7 (.fr 8 (.fl 9 (.fr 10 (.fr 11 (.fr 12 (.fl 13 (.fl 14 .done))))))))))))))))
 .ret))
theorem i_dots_Dots_Has : Is Try.prog 13 19 [.t 4] c_dots_Dots_Has := ⟨Try.f13, _, p_dots_Dots_Has, rfl, rfl, by kernel_rfl, by kernel_rfl, rfl⟩
def p_vec_Has : List (Nat × Pl) := [(1, (.fl 0 (.fr 1 (.st 2 [] (.fl 3 (.fl 4 (.fr 5 (.fl 6 (.fl 7 (.fl 8 (.fl 9 (.fr 10 (.fl 11 (.fr 12 (.fr 13 (.fr 14 (.fl 15 (.fl 16 (.fl 17 .done)))))))))))))))))))]
def c_vec_Has : VCode :=
 (.seq (.reg [⟨(some 2), none, .box 33 (.t 0)⟩,
   ⟨(some 3), none, .box 24 (.t 1)⟩,
   ⟨(some 4), none, .mov (.c (.kb false))⟩])
 (.seq (.draw [⟨(some 5), none, .faddr 0 (.t 3)⟩,
   ⟨(some 6), none, .load none (.t 5)⟩,
   ⟨(some 7), none, .call 35 [(.t 6)]⟩,
   ⟨(some 8), none, .mov (.t 7)⟩,
   ⟨(some 9), (some (8, true)), .faddr 1 (.t 3)⟩,
   ⟨(some 10), (some (8, true)), .load none (.t 9)⟩,
   ⟨(some 11), (some (8, true)), .bin .geq .no (.t 10) (.c (.raw (.int .i64 1)))⟩,
   ⟨(some 12), none, .pick (.t 8) (.t 11) (.c (.kb false))⟩,
   ⟨(some 13), none, .mov (.t 12)⟩,
   ⟨(some 14), (some (13, true)), .faddr 1 (.t 3)⟩,
   ⟨(some 15), (some (13, true)), .load none (.t 14)⟩,
   ⟨(some 16), (some (13, true)), .faddr 0 (.t 3)⟩,
   ⟨(some 17), (some (13, true)), .load none (.t 16)⟩,
   ⟨(some 18), (some (13, true)), .iaddr 1 (some 7) (.t 2) (.t 17)⟩,
   ⟨(some 19), (some (13, true)), .load none (.t 18)⟩,
   ⟨(some 20), (some (13, true)), .bin .leq .no (.t 15) (.t 19)⟩,
   ⟨(some 21), none, .pick (.t 13) (.t 20) (.c (.kb false))⟩,
   ⟨(some 4), none, .mov (.t 21)⟩]
   (.fl 0 (.fr 1 (.st 2 [] (.fl 3 (.fl 4 (.fr 5 (.fl 6 (.fl 7 (.fl 8 (.fl 9 (.fr 10 (.fl 11 (.fr 12 (.fr 13 (.fr 14 (.fl 15 (.fl 16 (.fl 17 .done)))))))))))))))))))
 .ret))
theorem i_vec_Has : Is Try.prog 14 22 [.t 4] c_vec_Has := ⟨Try.f14, _, p_vec_Has, rfl, rfl, by kernel_rfl, by kernel_rfl, rfl⟩
def p_dots_Dots_Len : List (Nat × Pl) := []
def c_dots_Dots_Len : VCode :=
 (.seq (.reg [⟨(some 2), none, .mov (.c (.raw (.int .i64 0)))⟩])
 (.seq (.reg [⟨(some 6), none, .mov (.t 0)⟩,
   ⟨(some 7), none, .nilck (.t 6)⟩,
   ⟨(some 8), none, .faddr 7 (.t 7)⟩,
   ⟨(some 9), none, .load none (.t 8)⟩,
   ⟨(some 10), none, .len .mp (.t 9)⟩,
   ⟨(some 3), none, .mov (.t 10)⟩])
 (.seq (.seq (.reg [⟨(some 11), none, .mov (.t 0)⟩,
   ⟨(some 12), none, .nilck (.t 11)⟩,
   ⟨(some 13), none, .faddr 0 (.t 12)⟩,
   ⟨(some 14), none, .load (some 7) (.t 13)⟩,
   ⟨(some 15), none, .mov (.c (.raw (.int .i64 0)))⟩])
 (.block 0 (.loop (.seq (.reg [⟨(some 16), none, .bin .lss .no (.t 15) (.c (.raw (.int .i64 7)))⟩])
  (.seq (.cond (.t 16)
   .skip
   (.exit 0))
  (.seq (.block 1 (.seq (.reg [⟨(some 17), none, .aindex 7 1 false (.t 14) (.t 15)⟩,
    ⟨(some 5), none, .mov (.t 17)⟩])
  (.reg [⟨(some 18), none, .mov (.t 3)⟩,
    ⟨(some 19), none, .mov (.t 5)⟩,
    ⟨(some 20), none, .bin .add .no (.t 18) (.t 19)⟩,
    ⟨(some 3), none, .mov (.t 20)⟩])))
  (.reg [⟨(some 21), none, .bin .add .no (.t 15) (.c (.raw (.int .i64 1)))⟩,
    ⟨(some 15), none, .mov (.t 21)⟩])))))))
 (.seq (.reg [⟨(some 22), none, .mov (.t 3)⟩,
   ⟨(some 2), none, .mov (.t 22)⟩])
 .ret))))
theorem i_dots_Dots_Len : Is Try.prog 15 23 [.t 2] c_dots_Dots_Len := ⟨Try.f15, _, p_dots_Dots_Len, rfl, rfl, by kernel_rfl, by kernel_rfl, rfl⟩
def p_dots_Same : List (Nat × Pl) := [(1, (.fl 0 (.fr 1 (.fl 2 (.fr 3 (.fl 4 (.fr 5 (.fl 6 (.fr 7 (.fl 8 (.fl 9 (.fl 10 (.fr 11 (.fl 12 (.fr 13 (.fl 14 (.fr 15 (.fl 16 (.fr 17 (.st 18 [] (.fl 19 (.fl 20 .done))))))))))))))))))))))]
def c_dots_Same : VCode :=
 (.seq (.reg [⟨(some 4), none, .mov (.c (.kb false))⟩])
 (.seq (.draw [⟨(some 5), none, .mov (.t 0)⟩,
   ⟨(some 6), none, .nilck (.t 5)⟩,
   ⟨(some 7), none, .faddr 0 (.t 6)⟩,
   ⟨(some 8), none, .load (some 7) (.t 7)⟩,
   ⟨(some 9), none, .mov (.t 1)⟩,
   ⟨(some 10), none, .nilck (.t 9)⟩,
   ⟨(some 11), none, .faddr 0 (.t 10)⟩,
   ⟨(some 12), none, .load (some 7) (.t 11)⟩,
   ⟨(some 13), none, .bin .eql (.agg [.i, .i, .i, .i, .i, .i, .i]) (.t 8) (.t 12)⟩,
   ⟨(some 14), none, .mov (.t 13)⟩,
   ⟨(some 15), (some (14, true)), .mov (.t 0)⟩,
   ⟨(some 16), (some (14, true)), .nilck (.t 15)⟩,
   ⟨(some 17), (some (14, true)), .faddr 7 (.t 16)⟩,
   ⟨(some 18), (some (14, true)), .load none (.t 17)⟩,
   ⟨(some 19), (some (14, true)), .mov (.t 1)⟩,
   ⟨(some 20), (some (14, true)), .nilck (.t 19)⟩,
   ⟨(some 21), (some (14, true)), .faddr 7 (.t 20)⟩,
   ⟨(some 22), (some (14, true)), .load none (.t 21)⟩,
   ⟨(some 23), (some (14, true)), .call 36 [(.t 18), (.t 22)]⟩,
   ⟨(some 24), none, .pick (.t 14) (.t 23) (.c (.kb false))⟩,
   ⟨(some 4), none, .mov (.t 24)⟩]
   (.fl 0 (.fr 1 (.fl 2 (.fr 3 (.fl 4 (.fr 5 (.fl 6 (.fr 7 (.fl 8 (.fl 9 (.fl 10 (.fr 11 (.fl 12 (.fr 13 (.fl 14 (.fr 15 (.fl 16 (.fr 17 (.st 18 [] (.fl 19 (.fl 20 .done))))))))))))))))))))))
 .ret))
theorem i_dots_Same : Is Try.prog 16 25 [.t 4] c_dots_Same := ⟨Try.f16, _, p_dots_Same, rfl, rfl, by kernel_rfl, by kernel_rfl, rfl⟩
def p_dots_Dots_Merge : List (Nat × Pl) := [(1, (.fl 0 (.fr 1 (.fl 2 (.fr 3 (.fl 4 (.fr 5 (.fl 6 (.fr 7 (.fl 9 (.fr 10 (.fl 11 (.fr 12 (.br (.st 8 [10, 12] (.br (.st 13 [] (.fr 14 (.br (.st 15 [] (.st 16 [] (.st 17 [] .done))) (.st 16 [14] (.st 15 [] (.st 17 [] .done)))))) (.st 16 [10, 12] (.st 13 [] (.fr 14 (.st 15 [] (.st 17 [] .done))))))) (.st 16 [1, 3, 5, 7, 10, 12] (.st 8 [10, 12] (.st 13 [] (.fr 14 (.st 15 [] (.st 17 [] .done)))))))))))))))))))), (2, (.fr 0 (.fr 1 (.fl 2 (.fr 3 (.fl 4 (.fr 5 (.fl 6 (.fr 7 (.st 8 [] .done))))))))))]
def c_dots_Dots_Merge : VCode :=
 (.seq (.reg [⟨(some 4), none, .mov (.c (.raw (.int .i64 0)))⟩])
 (.seq (.draw [⟨(some 6), none, .mov (.t 0)⟩,
   ⟨(some 7), none, .nilck (.t 6)⟩,
   ⟨(some 8), none, .faddr 0 (.t 7)⟩,
   ⟨(some 9), none, .load (some 7) (.t 8)⟩,
   ⟨(some 10), none, .mov (.t 1)⟩,
   ⟨(some 11), none, .nilck (.t 10)⟩,
   ⟨(some 12), none, .faddr 0 (.t 11)⟩,
   ⟨(some 13), none, .load (some 7) (.t 12)⟩,
   ⟨(some 14), none, .call 37 [(.t 9), (.t 13)]⟩,
   ⟨(some 15), none, .mov (.t 0)⟩,
   ⟨(some 16), none, .nilck (.t 15)⟩,
   ⟨(some 17), none, .faddr 7 (.t 16)⟩,
   ⟨(some 18), none, .load none (.t 17)⟩,
   ⟨(some 19), none, .call 38 [(.t 18)]⟩,
   ⟨(some 20), none, .build [(.int .i64 0), (.int .i64 0), (.int .i64 0), (.int .i64 0), (.int .i64 0), (.int .i64 0), (.int .i64 0), (.map none)] [(0, 7, (.t 14)), (7, 1, (.t 19))]⟩,
   ⟨(some 21), none, .box 60 (.t 20)⟩,
   ⟨(some 5), none, .new 26 [(.pointer none)]⟩,
   ⟨none, none, .store none (.t 5) (.t 21)⟩]
   (.fl 0 (.fr 1 (.fl 2 (.fr 3 (.fl 4 (.fr 5 (.fl 6 (.fr 7 (.fl 9 (.fr 10 (.fl 11 (.fr 12 (.br (.st 8 [10, 12] (.br (.st 13 [] (.fr 14 (.br (.st 15 [] (.st 16 [] (.st 17 [] .done))) (.st 16 [14] (.st 15 [] (.st 17 [] .done)))))) (.st 16 [10, 12] (.st 13 [] (.fr 14 (.st 15 [] (.st 17 [] .done))))))) (.st 16 [1, 3, 5, 7, 10, 12] (.st 8 [10, 12] (.st 13 [] (.fr 14 (.st 15 [] (.st 17 [] .done))))))))))))))))))))
 (.seq (.draw [⟨(some 22), none, .load none (.t 5)⟩,
   ⟨(some 23), none, .nilck (.t 22)⟩,
   ⟨(some 24), none, .faddr 7 (.t 23)⟩,
   ⟨(some 25), none, .load none (.t 24)⟩,
   ⟨(some 26), none, .mov (.t 1)⟩,
   ⟨(some 27), none, .nilck (.t 26)⟩,
   ⟨(some 28), none, .faddr 7 (.t 27)⟩,
   ⟨(some 29), none, .load none (.t 28)⟩,
   ⟨(some 30), none, .call 39 [(.t 25), (.t 29)]⟩]
   (.fr 0 (.fr 1 (.fl 2 (.fr 3 (.fl 4 (.fr 5 (.fl 6 (.fr 7 (.st 8 [] .done))))))))))
 (.seq (.reg [⟨(some 31), none, .load none (.t 5)⟩,
   ⟨(some 32), none, .nilck (.t 31)⟩,
   ⟨(some 33), none, .faddr 7 (.t 32)⟩,
   ⟨(some 34), none, .load none (.t 33)⟩,
   ⟨(some 35), none, .mkfn 41 [(.t 5)]⟩,
   ⟨(some 36), none, .call 40 [(.t 34), (.t 35)]⟩])
 (.seq (.reg [⟨(some 37), none, .load none (.t 5)⟩,
   ⟨(some 38), none, .call 31 [(.t 37)]⟩])
 (.seq (.seq (.reg [⟨(some 39), none, .load none (.t 5)⟩,
   ⟨(some 40), none, .nilck (.t 39)⟩,
   ⟨(some 41), none, .faddr 7 (.t 40)⟩,
   ⟨(some 42), none, .load none (.t 41)⟩,
   ⟨(some 43), none, .len .mp (.t 42)⟩,
   ⟨(some 44), none, .bin .gtr .no (.t 43) (.c (.raw (.int .i64 1000)))⟩])
 (.cond (.t 44)
  (.seq (.reg [⟨(some 4), none, .mov (.c (.raw (.int .i64 2)))⟩])
  .ret)
  .skip))
 (.seq (.reg [⟨(some 45), none, .mov (.t 0)⟩,
   ⟨(some 46), none, .load none (.t 5)⟩,
   ⟨(some 47), none, .nilck (.t 46)⟩,
   ⟨(some 48), none, .load (some 8) (.t 47)⟩,
   ⟨(some 49), none, .nilck (.t 45)⟩,
   ⟨none, none, .store (some 8) (.t 49) (.t 48)⟩])
 (.seq (.reg [⟨(some 4), none, .mov (.c (.raw (.int .i64 0)))⟩])
 .ret))))))))
theorem i_dots_Dots_Merge : Is Try.prog 17 50 [.t 4] c_dots_Dots_Merge := ⟨Try.f17, _, p_dots_Dots_Merge, rfl, rfl, by kernel_rfl, by kernel_rfl, rfl⟩
def p_rostrumref7_Dots_Add : List (Nat × Pl) := [(5, (.fl 0 (.fr 1 (.fl 2 (.fl 3 (.fr 4 (.fr 5 (.fl 6 (.fr 7 (.fr 8 (.fl 9 (.fl 10 (.fl 11 (.fl 12 (.fr 13 (.fl 14 (.fr 15 (.fl 16 (.fl 17 (.fl 18 .done)))))))))))))))))))), (7, (.fl 0 (.fl 1 (.fr 2 (.fl 3 (.fr 4 (.fr 5 (.st 6 [] (.fr 7 (.fl 8 (.st 9 [] .done)))))))))))]
def c_rostrumref7_Dots_Add : VCode :=
 (.seq (.reg [⟨(some 3), none, .box 24 (.t 1)⟩,
   ⟨(some 4), none, .mov (.c (.kb false))⟩,
   ⟨(some 5), none, .mov (.c (.raw (.int .i64 0)))⟩])
 (.seq (.seq (.reg [⟨(some 6), none, .load (some 2) (.t 3)⟩,
   ⟨(some 7), none, .call 42 [(.t 6)]⟩,
   ⟨(some 8), none, .un .not (.t 7)⟩])
 (.cond (.t 8)
  (.seq (.reg [⟨(some 4), none, .mov (.c (.kb false))⟩,
    ⟨(some 5), none, .mov (.c (.raw (.int .i64 1)))⟩])
  .ret)
  .skip))
 (.seq (.seq (.reg [⟨(some 9), none, .mov (.t 0)⟩,
   ⟨(some 10), none, .load (some 2) (.t 3)⟩,
   ⟨(some 11), none, .call 21 [(.t 9), (.t 10)]⟩])
 (.cond (.t 11)
  (.seq (.reg [⟨(some 4), none, .mov (.c (.kb false))⟩,
    ⟨(some 5), none, .mov (.c (.raw (.int .i64 0)))⟩])
  .ret)
  .skip))
 (.seq (.seq (.draw [⟨(some 12), none, .faddr 1 (.t 3)⟩,
   ⟨(some 13), none, .load none (.t 12)⟩,
   ⟨(some 14), none, .mov (.t 0)⟩,
   ⟨(some 15), none, .faddr 0 (.t 3)⟩,
   ⟨(some 16), none, .load none (.t 15)⟩,
   ⟨(some 17), none, .nilck (.t 14)⟩,
   ⟨(some 18), none, .faddr 0 (.t 17)⟩,
   ⟨(some 19), none, .iaddr 1 (some 7) (.t 18) (.t 16)⟩,
   ⟨(some 20), none, .load none (.t 19)⟩,
   ⟨(some 21), none, .bin .add .no (.t 20) (.c (.raw (.int .i64 1)))⟩,
   ⟨(some 22), none, .bin .neq .no (.t 13) (.t 21)⟩,
   ⟨(some 23), none, .mov (.t 22)⟩,
   ⟨(some 24), (some (23, true)), .mov (.t 0)⟩,
   ⟨(some 25), (some (23, true)), .nilck (.t 24)⟩,
   ⟨(some 26), (some (23, true)), .faddr 7 (.t 25)⟩,
   ⟨(some 27), (some (23, true)), .load none (.t 26)⟩,
   ⟨(some 28), (some (23, true)), .len .sl (.t 27)⟩,
   ⟨(some 29), (some (23, true)), .bin .geq .no (.t 28) (.c (.raw (.int .i64 1000)))⟩,
   ⟨(some 30), none, .pick (.t 23) (.t 29) (.c (.kb false))⟩]
   (.fl 0 (.fr 1 (.fl 2 (.fl 3 (.fr 4 (.fr 5 (.fl 6 (.fr 7 (.fr 8 (.fl 9 (.fl 10 (.fl 11 (.fl 12 (.fr 13 (.fl 14 (.fr 15 (.fl 16 (.fl 17 (.fl 18 .done))))))))))))))))))))
 (.cond (.t 30)
  (.seq (.reg [⟨(some 4), none, .mov (.c (.kb false))⟩,
    ⟨(some 5), none, .mov (.c (.raw (.int .i64 2)))⟩])
  .ret)
  .skip))
 (.seq (.draw [⟨(some 31), none, .mov (.t 0)⟩,
   ⟨(some 32), none, .mov (.t 0)⟩,
   ⟨(some 33), none, .nilck (.t 32)⟩,
   ⟨(some 34), none, .faddr 7 (.t 33)⟩,
   ⟨(some 35), none, .load none (.t 34)⟩,
   ⟨(some 36), none, .load (some 2) (.t 3)⟩,
   ⟨(some 37), none, .call 43 [(.t 35), (.t 36)]⟩,
   ⟨(some 38), none, .nilck (.t 31)⟩,
   ⟨(some 39), none, .faddr 7 (.t 38)⟩,
   ⟨none, none, .store none (.t 39) (.t 37)⟩]
   (.fl 0 (.fl 1 (.fr 2 (.fl 3 (.fr 4 (.fr 5 (.st 6 [] (.fr 7 (.fl 8 (.st 9 [] .done)))))))))))
 (.seq (.reg [⟨(some 40), none, .mov (.t 0)⟩,
   ⟨(some 41), none, .call 44 [(.t 40)]⟩])
 (.seq (.reg [⟨(some 4), none, .mov (.c (.kb true))⟩,
   ⟨(some 5), none, .mov (.c (.raw (.int .i64 0)))⟩])
 .ret)))))))
theorem i_rostrumref7_Dots_Add : Is Try.prog 18 42 [.t 4, .t 5] c_rostrumref7_Dots_Add := ⟨Try.f18, _, p_rostrumref7_Dots_Add, rfl, rfl, by kernel_rfl, by kernel_rfl, rfl⟩
def p_rostrumref7_SameDots : List (Nat × Pl) := [(6, (.fl 0 (.fl 1 (.fr 2 (.fr 3 (.fl 4 (.fl 5 (.fr 6 (.fr 7 (.fl 8 .done))))))))))]
def c_rostrumref7_SameDots : VCode :=
 (.seq (.reg [⟨(some 4), none, .mov (.c (.kb false))⟩])
 (.seq (.seq (.reg [⟨(some 6), none, .mov (.t 0)⟩,
   ⟨(some 7), none, .len .sl (.t 6)⟩,
   ⟨(some 8), none, .mov (.t 1)⟩,
   ⟨(some 9), none, .len .sl (.t 8)⟩,
   ⟨(some 10), none, .bin .neq .no (.t 7) (.t 9)⟩])
 (.cond (.t 10)
  (.seq (.reg [⟨(some 4), none, .mov (.c (.kb false))⟩])
  .ret)
  .skip))
 (.seq (.seq (.reg [⟨(some 5), none, .mov (.c (.raw (.int .i64 0)))⟩])
 (.block 0 (.loop (.seq (.seq (.reg [⟨(some 11), none, .mov (.t 5)⟩,
    ⟨(some 12), none, .mov (.t 0)⟩,
    ⟨(some 13), none, .len .sl (.t 12)⟩,
    ⟨(some 14), none, .bin .lss .no (.t 11) (.t 13)⟩])
  (.cond (.t 14)
   .skip
   (.exit 0)))
  (.seq (.block 1 (.seq (.draw [⟨(some 17), none, .mov (.t 0)⟩,
    ⟨(some 18), none, .mov (.t 5)⟩,
    ⟨(some 19), none, .iaddr 2 none (.t 17) (.t 18)⟩,
    ⟨(some 20), none, .load (some 2) (.t 19)⟩,
    ⟨(some 21), none, .mov (.t 1)⟩,
    ⟨(some 22), none, .mov (.t 5)⟩,
    ⟨(some 23), none, .iaddr 2 none (.t 21) (.t 22)⟩,
    ⟨(some 24), none, .load (some 2) (.t 23)⟩,
    ⟨(some 25), none, .bin .neq (.agg [.i, .i]) (.t 20) (.t 24)⟩]
    (.fl 0 (.fl 1 (.fr 2 (.fr 3 (.fl 4 (.fl 5 (.fr 6 (.fr 7 (.fl 8 .done))))))))))
  (.cond (.t 25)
   (.seq (.reg [⟨(some 4), none, .mov (.c (.kb false))⟩])
   .ret)
   .skip)))
  (.reg [⟨(some 15), none, .mov (.t 5)⟩,
    ⟨(some 16), none, .bin .add .no (.t 15) (.c (.raw (.int .i64 1)))⟩,
    ⟨(some 5), none, .mov (.t 16)⟩]))))))
 (.seq (.reg [⟨(some 4), none, .mov (.c (.kb true))⟩])
 .ret))))
theorem i_rostrumref7_SameDots : Is Try.prog 19 26 [.t 4] c_rostrumref7_SameDots := ⟨Try.f19, _, p_rostrumref7_SameDots, rfl, rfl, by kernel_rfl, by kernel_rfl, rfl⟩
def p_rostrumref7_Dots_Len : List (Nat × Pl) := []
def c_rostrumref7_Dots_Len : VCode :=
 (.seq (.reg [⟨(some 2), none, .mov (.c (.raw (.int .i64 0)))⟩])
 (.seq (.reg [⟨(some 5), none, .mov (.t 0)⟩,
   ⟨(some 6), none, .nilck (.t 5)⟩,
   ⟨(some 7), none, .faddr 7 (.t 6)⟩,
   ⟨(some 8), none, .load none (.t 7)⟩,
   ⟨(some 9), none, .len .sl (.t 8)⟩,
   ⟨(some 3), none, .mov (.t 9)⟩])
 (.seq (.seq (.reg [⟨(some 4), none, .mov (.c (.raw (.int .i64 0)))⟩])
 (.block 0 (.loop (.seq (.seq (.reg [⟨(some 10), none, .mov (.t 4)⟩,
    ⟨(some 11), none, .bin .lss .no (.t 10) (.c (.raw (.int .i64 7)))⟩])
  (.cond (.t 11)
   .skip
   (.exit 0)))
  (.seq (.block 1 (.reg [⟨(some 14), none, .mov (.t 3)⟩,
    ⟨(some 15), none, .mov (.t 0)⟩,
    ⟨(some 16), none, .mov (.t 4)⟩,
    ⟨(some 17), none, .nilck (.t 15)⟩,
    ⟨(some 18), none, .faddr 0 (.t 17)⟩,
    ⟨(some 19), none, .iaddr 1 (some 7) (.t 18) (.t 16)⟩,
    ⟨(some 20), none, .load none (.t 19)⟩,
    ⟨(some 21), none, .bin .add .no (.t 14) (.t 20)⟩,
    ⟨(some 3), none, .mov (.t 21)⟩]))
  (.reg [⟨(some 12), none, .mov (.t 4)⟩,
    ⟨(some 13), none, .bin .add .no (.t 12) (.c (.raw (.int .i64 1)))⟩,
    ⟨(some 4), none, .mov (.t 13)⟩]))))))
 (.seq (.reg [⟨(some 22), none, .mov (.t 3)⟩,
   ⟨(some 2), none, .mov (.t 22)⟩])
 .ret))))
theorem i_rostrumref7_Dots_Len : Is Try.prog 20 23 [.t 2] c_rostrumref7_Dots_Len := ⟨Try.f20, _, p_rostrumref7_Dots_Len, rfl, rfl, by kernel_rfl, by kernel_rfl, rfl⟩
def p_rostrumref7_Dots_Has : List (Nat × Pl) := [(1, (.fl 0 (.fr 1 (.fl 2 (.fr 3 (.fr 4 (.st 5 [] (.fl 6 (.fl 7 (.fr 8 (.fl 9 (.fr 10 (.fr 11 (.st 12 [] (.fl 13 (.fl 14 .done))))))))))))))))]
def c_rostrumref7_Dots_Has : VCode :=
 (.seq (.reg [⟨(some 3), none, .box 24 (.t 1)⟩,
   ⟨(some 4), none, .mov (.c (.kb false))⟩])
 (.seq (.draw [⟨(some 5), none, .mov (.t 0)⟩,
   ⟨(some 6), none, .nilck (.t 5)⟩,
   ⟨(some 7), none, .faddr 0 (.t 6)⟩,
   ⟨(some 8), none, .load (some 7) (.t 7)⟩,
   ⟨(some 9), none, .load (some 2) (.t 3)⟩,
   ⟨(some 10), none, .call 45 [(.t 8), (.t 9)]⟩,
   ⟨(some 11), none, .mov (.t 10)⟩,
   ⟨(some 12), (some (11, false)), .mov (.t 0)⟩,
   ⟨(some 13), (some (11, false)), .nilck (.t 12)⟩,
   ⟨(some 14), (some (11, false)), .faddr 7 (.t 13)⟩,
   ⟨(some 15), (some (11, false)), .load none (.t 14)⟩,
   ⟨(some 16), (some (11, false)), .load (some 2) (.t 3)⟩,
   ⟨(some 17), (some (11, false)), .call 46 [(.t 15), (.t 16)]⟩,
   ⟨(some 18), none, .pick (.t 11) (.c (.kb true)) (.t 17)⟩,
   ⟨(some 4), none, .mov (.t 18)⟩]
   (.fl 0 (.fr 1 (.fl 2 (.fr 3 (.fr 4 (.st 5 [] (.fl 6 (.fl 7 (.fr 8 (.fl 9 (.fr 10 (.fr 11 (.st 12 [] (.fl 13 (.fl 14 .done))))))))))))))))
 .ret))
theorem i_rostrumref7_Dots_Has : Is Try.prog 21 19 [.t 4] c_rostrumref7_Dots_Has := ⟨Try.f21, _, p_rostrumref7_Dots_Has, rfl, rfl, by kernel_rfl, by kernel_rfl, rfl⟩
def p_rostrumref7_Dots_Merge : List (Nat × Pl) := [(1, (.fl 0 (.fr 1 (.fl 2 (.fr 3 (.fl 4 (.fr 5 (.fl 6 (.fr 7 (.fl 10 (.fr 11 (.fl 12 (.fr 13 (.br (.st 8 [11, 13] (.st 9 [11, 13] (.st 14 [] (.fr 15 (.st 16 [] (.fl 17 .done)))))) (.st 9 [1, 3, 5, 7, 11, 13] (.st 8 [11, 13] (.st 14 [] (.fr 15 (.st 16 [] (.fl 17 .done)))))))))))))))))))), (5, (.fl 0 (.fl 1 (.fr 2 (.fl 3 (.fr 4 (.fl 5 (.fr 6 (.fl 7 (.fr 8 (.fl 9 (.fr 10 (.fr 11 (.st 12 [] (.fr 13 (.fl 14 (.st 15 [] .done))))))))))))))))), (9, (.fl 0 (.fl 1 (.fl 2 (.fr 3 (.fl 4 (.fr 5 (.fl 6 (.fr 7 (.fl 8 (.fr 9 (.fr 10 (.fl 11 (.st 12 [] (.fr 13 (.fl 14 (.st 15 [] .done)))))))))))))))))]
def c_rostrumref7_Dots_Merge : VCode :=
 (.seq (.reg [⟨(some 4), none, .mov (.c (.kb false))⟩])
 (.seq (.draw [⟨(some 7), none, .mov (.t 0)⟩,
   ⟨(some 8), none, .nilck (.t 7)⟩,
   ⟨(some 9), none, .faddr 0 (.t 8)⟩,
   ⟨(some 10), none, .load (some 7) (.t 9)⟩,
   ⟨(some 11), none, .mov (.t 1)⟩,
   ⟨(some 12), none, .nilck (.t 11)⟩,
   ⟨(some 13), none, .faddr 0 (.t 12)⟩,
   ⟨(some 14), none, .load (some 7) (.t 13)⟩,
   ⟨(some 15), none, .call 47 [(.t 10), (.t 14)]⟩,
   ⟨(some 16), none, .bslice 24 0 [] []⟩,
   ⟨(some 17), none, .mov (.t 0)⟩,
   ⟨(some 18), none, .nilck (.t 17)⟩,
   ⟨(some 19), none, .faddr 7 (.t 18)⟩,
   ⟨(some 20), none, .load none (.t 19)⟩,
   ⟨(some 21), none, .append 24 2 16 [(.int .i64 0), (.int .i64 0)] (.t 16) (.t 20)⟩,
   ⟨(some 22), none, .build [(.int .i64 0), (.int .i64 0), (.int .i64 0), (.int .i64 0), (.int .i64 0), (.int .i64 0), (.int .i64 0), (.slice none 0 0)] [(0, 7, (.t 15)), (7, 1, (.t 21))]⟩,
   ⟨(some 23), none, .box 45 (.t 22)⟩,
   ⟨(some 5), none, .mov (.t 23)⟩]
   (.fl 0 (.fr 1 (.fl 2 (.fr 3 (.fl 4 (.fr 5 (.fl 6 (.fr 7 (.fl 10 (.fr 11 (.fl 12 (.fr 13 (.br (.st 8 [11, 13] (.st 9 [11, 13] (.st 14 [] (.fr 15 (.st 16 [] (.fl 17 .done)))))) (.st 9 [1, 3, 5, 7, 11, 13] (.st 8 [11, 13] (.st 14 [] (.fr 15 (.st 16 [] (.fl 17 .done))))))))))))))))))))
 (.seq (.seq (.reg [⟨(some 6), none, .mov (.c (.raw (.int .i64 0)))⟩])
 (.block 0 (.loop (.seq (.seq (.reg [⟨(some 24), none, .mov (.t 6)⟩,
    ⟨(some 25), none, .mov (.t 1)⟩,
    ⟨(some 26), none, .nilck (.t 25)⟩,
    ⟨(some 27), none, .faddr 7 (.t 26)⟩,
    ⟨(some 28), none, .load none (.t 27)⟩,
    ⟨(some 29), none, .len .sl (.t 28)⟩,
    ⟨(some 30), none, .bin .lss .no (.t 24) (.t 29)⟩])
  (.cond (.t 30)
   .skip
   (.exit 0)))
  (.seq (.block 1 (.draw [⟨(some 33), none, .mov (.t 5)⟩,
    ⟨(some 34), none, .mov (.t 5)⟩,
    ⟨(some 35), none, .nilck (.t 34)⟩,
    ⟨(some 36), none, .faddr 7 (.t 35)⟩,
    ⟨(some 37), none, .load none (.t 36)⟩,
    ⟨(some 38), none, .mov (.t 1)⟩,
    ⟨(some 39), none, .nilck (.t 38)⟩,
    ⟨(some 40), none, .faddr 7 (.t 39)⟩,
    ⟨(some 41), none, .load none (.t 40)⟩,
    ⟨(some 42), none, .mov (.t 6)⟩,
    ⟨(some 43), none, .iaddr 2 none (.t 41) (.t 42)⟩,
    ⟨(some 44), none, .load (some 2) (.t 43)⟩,
    ⟨(some 45), none, .call 43 [(.t 37), (.t 44)]⟩,
    ⟨(some 46), none, .nilck (.t 33)⟩,
    ⟨(some 47), none, .faddr 7 (.t 46)⟩,
    ⟨none, none, .store none (.t 47) (.t 45)⟩]
    (.fl 0 (.fl 1 (.fr 2 (.fl 3 (.fr 4 (.fl 5 (.fr 6 (.fl 7 (.fr 8 (.fl 9 (.fr 10 (.fr 11 (.st 12 [] (.fr 13 (.fl 14 (.st 15 [] .done))))))))))))))))))
  (.reg [⟨(some 31), none, .mov (.t 6)⟩,
    ⟨(some 32), none, .bin .add .no (.t 31) (.c (.raw (.int .i64 1)))⟩,
    ⟨(some 6), none, .mov (.t 32)⟩]))))))
 (.seq (.reg [⟨(some 48), none, .mov (.t 5)⟩,
   ⟨(some 49), none, .call 44 [(.t 48)]⟩])
 (.seq (.seq (.reg [⟨(some 50), none, .mov (.t 5)⟩,
   ⟨(some 51), none, .nilck (.t 50)⟩,
   ⟨(some 52), none, .faddr 7 (.t 51)⟩,
   ⟨(some 53), none, .load none (.t 52)⟩,
   ⟨(some 54), none, .len .sl (.t 53)⟩,
   ⟨(some 55), none, .bin .gtr .no (.t 54) (.c (.raw (.int .i64 1000)))⟩])
 (.cond (.t 55)
  (.seq (.reg [⟨(some 4), none, .mov (.c (.kb false))⟩])
  .ret)
  .skip))
 (.seq (.draw [⟨(some 56), none, .mov (.t 0)⟩,
   ⟨(some 57), none, .mov (.t 0)⟩,
   ⟨(some 58), none, .mov (.t 5)⟩,
   ⟨(some 59), none, .nilck (.t 58)⟩,
   ⟨(some 60), none, .faddr 0 (.t 59)⟩,
   ⟨(some 61), none, .load (some 7) (.t 60)⟩,
   ⟨(some 62), none, .mov (.t 5)⟩,
   ⟨(some 63), none, .nilck (.t 62)⟩,
   ⟨(some 64), none, .faddr 7 (.t 63)⟩,
   ⟨(some 65), none, .load none (.t 64)⟩,
   ⟨(some 66), none, .nilck (.t 56)⟩,
   ⟨(some 67), none, .faddr 0 (.t 66)⟩,
   ⟨none, none, .store (some 7) (.t 67) (.t 61)⟩,
   ⟨(some 68), none, .nilck (.t 57)⟩,
   ⟨(some 69), none, .faddr 7 (.t 68)⟩,
   ⟨none, none, .store none (.t 69) (.t 65)⟩]
   (.fl 0 (.fl 1 (.fl 2 (.fr 3 (.fl 4 (.fr 5 (.fl 6 (.fr 7 (.fl 8 (.fr 9 (.fr 10 (.fl 11 (.st 12 [] (.fr 13 (.fl 14 (.st 15 [] .done)))))))))))))))))
 (.seq (.reg [⟨(some 4), none, .mov (.c (.kb true))⟩])
 .ret)))))))
theorem i_rostrumref7_Dots_Merge : Is Try.prog 22 70 [.t 4] c_rostrumref7_Dots_Merge := ⟨Try.f22, _, p_rostrumref7_Dots_Merge, rfl, rfl, by kernel_rfl, by kernel_rfl, rfl⟩
def p_dots_Dots_Put : List (Nat × Pl) := [(1, (.fl 0 (.fl 1 (.fr 2 (.fl 3 (.fr 4 (.fl 6 (.fr 7 (.fl 8 (.fr 9 (.st 5 [7, 9] (.fr 10 (.st 11 [] (.fl 12 .done)))))))))))))), (5, (.fl 0 (.fl 1 (.fr 2 (.fl 4 (.fr 5 (.st 3 [5] (.st 6 [] (.fl 7 .done)))))))))]
def c_dots_Dots_Put : VCode :=
 (.seq (.reg [⟨(some 4), none, .mov (.c (.raw (.slice none 0 0)))⟩])
 (.seq (.draw [⟨(some 7), none, .mov (.t 1)⟩,
   ⟨(some 8), none, .mov (.t 0)⟩,
   ⟨(some 9), none, .nilck (.t 8)⟩,
   ⟨(some 10), none, .faddr 0 (.t 9)⟩,
   ⟨(some 11), none, .load (some 7) (.t 10)⟩,
   ⟨(some 12), none, .call 49 [(.t 7), (.t 11)]⟩,
   ⟨(some 13), none, .mov (.t 0)⟩,
   ⟨(some 14), none, .nilck (.t 13)⟩,
   ⟨(some 15), none, .faddr 7 (.t 14)⟩,
   ⟨(some 16), none, .load none (.t 15)⟩,
   ⟨(some 17), none, .len .mp (.t 16)⟩,
   ⟨(some 18), none, .call 48 [(.t 12), (.t 17)]⟩,
   ⟨(some 1), none, .mov (.t 18)⟩]
   (.fl 0 (.fl 1 (.fr 2 (.fl 3 (.fr 4 (.fl 6 (.fr 7 (.fl 8 (.fr 9 (.st 5 [7, 9] (.fr 10 (.st 11 [] (.fl 12 .done))))))))))))))
 (.seq (.seq (.reg [⟨(some 19), none, .mov (.t 0)⟩,
   ⟨(some 20), none, .call 11 [(.t 19)]⟩,
   ⟨(some 21), none, .len .sl (.t 20)⟩,
   ⟨(some 22), none, .mov (.c (.raw (.int .i64 0)))⟩])
 (.block 0 (.loop (.seq (.reg [⟨(some 23), none, .bin .lss .no (.t 22) (.t 21)⟩])
  (.seq (.cond (.t 23)
   .skip
   (.exit 0))
  (.seq (.block 1 (.seq (.reg [⟨(some 24), none, .iaddr 2 none (.t 20) (.t 22)⟩,
    ⟨(some 25), none, .load (some 2) (.t 24)⟩,
    ⟨(some 6), none, .new 24 [(.int .i64 0), (.int .i64 0)]⟩,
    ⟨none, none, .store (some 2) (.t 6) (.t 25)⟩])
  (.draw [⟨(some 26), none, .mov (.t 1)⟩,
    ⟨(some 27), none, .faddr 0 (.t 6)⟩,
    ⟨(some 28), none, .load none (.t 27)⟩,
    ⟨(some 29), none, .call 48 [(.t 26), (.t 28)]⟩,
    ⟨(some 30), none, .faddr 1 (.t 6)⟩,
    ⟨(some 31), none, .load none (.t 30)⟩,
    ⟨(some 32), none, .call 48 [(.t 29), (.t 31)]⟩,
    ⟨(some 1), none, .mov (.t 32)⟩]
    (.fl 0 (.fl 1 (.fr 2 (.fl 4 (.fr 5 (.st 3 [5] (.st 6 [] (.fl 7 .done)))))))))))
  (.reg [⟨(some 33), none, .bin .add .no (.t 22) (.c (.raw (.int .i64 1)))⟩,
    ⟨(some 22), none, .mov (.t 33)⟩])))))))
 (.seq (.reg [⟨(some 34), none, .mov (.t 1)⟩,
   ⟨(some 4), none, .mov (.t 34)⟩])
 .ret))))
theorem i_dots_Dots_Put : Is Try.prog 23 35 [.t 4] c_dots_Dots_Put := ⟨Try.f23, _, p_dots_Dots_Put, rfl, rfl, by kernel_rfl, by kernel_rfl, rfl⟩
def p_rostrumref7_Dots_Put : List (Nat × Pl) := [(1, (.fl 0 (.fl 1 (.fr 2 (.fl 3 (.fr 4 (.fl 6 (.fr 7 (.fl 8 (.fr 9 (.fl 10 (.st 5 [7, 9] (.st 11 [] (.fl 12 .done)))))))))))))), (5, (.fl 0 (.fl 1 (.fr 2 (.fl 3 (.fr 4 (.fl 5 (.fr 6 (.fl 7 (.fr 8 (.fl 10 (.fr 11 (.fl 12 (.fr 13 (.fl 14 (.fr 15 (.fl 16 (.fr 17 (.st 9 [11, 13, 15, 17] (.st 18 [] (.fl 19 .done)))))))))))))))))))))]
def c_rostrumref7_Dots_Put : VCode :=
 (.seq (.reg [⟨(some 4), none, .mov (.c (.raw (.slice none 0 0)))⟩])
 (.seq (.draw [⟨(some 6), none, .mov (.t 1)⟩,
   ⟨(some 7), none, .mov (.t 0)⟩,
   ⟨(some 8), none, .nilck (.t 7)⟩,
   ⟨(some 9), none, .faddr 0 (.t 8)⟩,
   ⟨(some 10), none, .load (some 7) (.t 9)⟩,
   ⟨(some 11), none, .call 51 [(.t 6), (.t 10)]⟩,
   ⟨(some 12), none, .mov (.t 0)⟩,
   ⟨(some 13), none, .nilck (.t 12)⟩,
   ⟨(some 14), none, .faddr 7 (.t 13)⟩,
   ⟨(some 15), none, .load none (.t 14)⟩,
   ⟨(some 16), none, .len .sl (.t 15)⟩,
   ⟨(some 17), none, .call 50 [(.t 11), (.t 16)]⟩,
   ⟨(some 1), none, .mov (.t 17)⟩]
   (.fl 0 (.fl 1 (.fr 2 (.fl 3 (.fr 4 (.fl 6 (.fr 7 (.fl 8 (.fr 9 (.fl 10 (.st 5 [7, 9] (.st 11 [] (.fl 12 .done))))))))))))))
 (.seq (.seq (.reg [⟨(some 5), none, .mov (.c (.raw (.int .i64 0)))⟩])
 (.block 0 (.loop (.seq (.seq (.reg [⟨(some 18), none, .mov (.t 5)⟩,
    ⟨(some 19), none, .mov (.t 0)⟩,
    ⟨(some 20), none, .nilck (.t 19)⟩,
    ⟨(some 21), none, .faddr 7 (.t 20)⟩,
    ⟨(some 22), none, .load none (.t 21)⟩,
    ⟨(some 23), none, .len .sl (.t 22)⟩,
    ⟨(some 24), none, .bin .lss .no (.t 18) (.t 23)⟩])
  (.cond (.t 24)
   .skip
   (.exit 0)))
  (.seq (.block 1 (.draw [⟨(some 27), none, .mov (.t 1)⟩,
    ⟨(some 28), none, .mov (.t 0)⟩,
    ⟨(some 29), none, .nilck (.t 28)⟩,
    ⟨(some 30), none, .faddr 7 (.t 29)⟩,
    ⟨(some 31), none, .load none (.t 30)⟩,
    ⟨(some 32), none, .mov (.t 5)⟩,
    ⟨(some 33), none, .iaddr 2 none (.t 31) (.t 32)⟩,
    ⟨(some 34), none, .faddr 0 (.t 33)⟩,
    ⟨(some 35), none, .load none (.t 34)⟩,
    ⟨(some 36), none, .call 50 [(.t 27), (.t 35)]⟩,
    ⟨(some 37), none, .mov (.t 0)⟩,
    ⟨(some 38), none, .nilck (.t 37)⟩,
    ⟨(some 39), none, .faddr 7 (.t 38)⟩,
    ⟨(some 40), none, .load none (.t 39)⟩,
    ⟨(some 41), none, .mov (.t 5)⟩,
    ⟨(some 42), none, .iaddr 2 none (.t 40) (.t 41)⟩,
    ⟨(some 43), none, .faddr 1 (.t 42)⟩,
    ⟨(some 44), none, .load none (.t 43)⟩,
    ⟨(some 45), none, .call 50 [(.t 36), (.t 44)]⟩,
    ⟨(some 1), none, .mov (.t 45)⟩]
    (.fl 0 (.fl 1 (.fr 2 (.fl 3 (.fr 4 (.fl 5 (.fr 6 (.fl 7 (.fr 8 (.fl 10 (.fr 11 (.fl 12 (.fr 13 (.fl 14 (.fr 15 (.fl 16 (.fr 17 (.st 9 [11, 13, 15, 17] (.st 18 [] (.fl 19 .done))))))))))))))))))))))
  (.reg [⟨(some 25), none, .mov (.t 5)⟩,
    ⟨(some 26), none, .bin .add .no (.t 25) (.c (.raw (.int .i64 1)))⟩,
    ⟨(some 5), none, .mov (.t 26)⟩]))))))
 (.seq (.reg [⟨(some 46), none, .mov (.t 1)⟩,
   ⟨(some 4), none, .mov (.t 46)⟩])
 .ret))))
theorem i_rostrumref7_Dots_Put : Is Try.prog 24 47 [.t 4] c_rostrumref7_Dots_Put := ⟨Try.f24, _, p_rostrumref7_Dots_Put, rfl, rfl, by kernel_rfl, by kernel_rfl, rfl⟩
def p_pack_Read : List (Nat × Pl) := []
def c_pack_Read : VCode :=
 (.seq (.reg [⟨(some 2), none, .mov (.c (.raw (.pointer none)))⟩])
 (.seq (.reg [⟨(some 3), none, .mov (.t 0)⟩,
   ⟨(some 4), none, .call 52 [(.t 3)]⟩,
   ⟨(some 5), none, .build [(.slice none 0 0), (.bool false)] [(0, 1, (.t 4))]⟩,
   ⟨(some 6), none, .box 80 (.t 5)⟩,
   ⟨(some 2), none, .mov (.t 6)⟩])
 .ret))
theorem i_pack_Read : Is Try.prog 25 7 [.t 2] c_pack_Read := ⟨Try.f25, _, p_pack_Read, rfl, rfl, by kernel_rfl, by kernel_rfl, rfl⟩
def p_dots_Get : List (Nat × Pl) := [(9, (.fl 0 (.st 1 [] (.fl 2 (.fr 3 (.fr 4 (.st 5 [] (.fl 6 (.fl 7 (.fl 8 (.fl 9 (.fr 10 (.fl 11 (.fl 12 (.fr 13 (.fr 14 (.fl 15 (.fr 16 (.fr 17 (.fl 18 (.fl 19 (.fl 20 .done)))))))))))))))))))))), (11, (.fl 0 (.fr 1 (.fl 2 (.fr 3 (.fr 4 (.st 5 [] .done)))))))]
def c_dots_Get : VCode :=
 (.seq (.reg [⟨(some 2), none, .mov (.c (.raw (.pointer none)))⟩])
 (.seq (.reg [⟨(some 7), none, .call 9 []⟩,
   ⟨(some 3), none, .mov (.t 7)⟩])
 (.seq (.reg [⟨(some 8), none, .mov (.t 3)⟩,
   ⟨(some 9), none, .mov (.t 0)⟩,
   ⟨(some 10), none, .call 53 [(.t 9)]⟩,
   ⟨(some 11), none, .nilck (.t 8)⟩,
   ⟨(some 12), none, .faddr 0 (.t 11)⟩,
   ⟨none, none, .store (some 7) (.t 12) (.t 10)⟩])
 (.seq (.reg [⟨(some 13), none, .mov (.t 0)⟩,
   ⟨(some 14), none, .call 54 [(.t 13), (.c (.raw (.int .i64 0))), (.c (.raw (.int .i64 1000)))]⟩,
   ⟨(some 4), none, .mov (.t 14)⟩])
 (.seq (.reg [⟨(some 15), none, .build [(.int .i64 0), (.int .i64 0)] [(0, 1, (.c (.raw (.int .i64 (-1)))))]⟩,
   ⟨(some 5), none, .new 24 [(.int .i64 0), (.int .i64 0)]⟩,
   ⟨none, none, .store (some 2) (.t 5) (.t 15)⟩])
 (.seq (.seq (.reg [⟨(some 16), none, .mov (.t 4)⟩,
   ⟨(some 17), none, .mov (.c (.raw (.int .i64 0)))⟩])
 (.block 0 (.loop (.seq (.reg [⟨(some 18), none, .bin .lss .no (.t 17) (.t 16)⟩])
  (.seq (.cond (.t 18)
   .skip
   (.exit 0))
  (.seq (.block 1 (.seq (.reg [⟨(some 19), none, .mov (.t 0)⟩,
    ⟨(some 20), none, .call 54 [(.t 19), (.c (.raw (.int .i64 0))), (.c (.raw (.int .i64 6)))]⟩,
    ⟨(some 21), none, .build [(.int .i64 0), (.int .i64 0)] [(0, 1, (.t 20))]⟩,
    ⟨(some 6), none, .new 24 [(.int .i64 0), (.int .i64 0)]⟩,
    ⟨none, none, .store (some 2) (.t 6) (.t 21)⟩])
  (.seq (.reg [⟨(some 22), none, .mov (.t 0)⟩,
    ⟨(some 23), none, .call 54 [(.t 22), (.c (.raw (.int .i64 1))), (.c (.raw (.int .i64 1099511627776)))]⟩,
    ⟨(some 24), none, .faddr 1 (.t 6)⟩,
    ⟨none, none, .store none (.t 24) (.t 23)⟩])
  (.seq (.seq (.draw [⟨(some 25), none, .mov (.t 0)⟩,
    ⟨(some 26), none, .call 55 [(.t 25)]⟩,
    ⟨(some 27), none, .mov (.t 26)⟩,
    ⟨(some 28), (some (27, false)), .load (some 2) (.t 5)⟩,
    ⟨(some 29), (some (27, false)), .load (some 2) (.t 6)⟩,
    ⟨(some 30), (some (27, false)), .call 34 [(.t 28), (.t 29)]⟩,
    ⟨(some 31), (some (27, false)), .bin .geq .no (.t 30) (.c (.raw (.int .i64 0)))⟩,
    ⟨(some 32), none, .pick (.t 27) (.c (.kb true)) (.t 31)⟩,
    ⟨(some 33), none, .mov (.t 32)⟩,
    ⟨(some 34), (some (33, false)), .faddr 1 (.t 6)⟩,
    ⟨(some 35), (some (33, false)), .load none (.t 34)⟩,
    ⟨(some 36), (some (33, false)), .mov (.t 3)⟩,
    ⟨(some 37), (some (33, false)), .faddr 0 (.t 6)⟩,
    ⟨(some 38), (some (33, false)), .load none (.t 37)⟩,
    ⟨(some 39), (some (33, false)), .nilck (.t 36)⟩,
    ⟨(some 40), (some (33, false)), .faddr 0 (.t 39)⟩,
    ⟨(some 41), (some (33, false)), .iaddr 1 (some 7) (.t 40) (.t 38)⟩,
    ⟨(some 42), (some (33, false)), .load none (.t 41)⟩,
    ⟨(some 43), (some (33, false)), .bin .add .no (.t 42) (.c (.raw (.int .i64 1)))⟩,
    ⟨(some 44), (some (33, false)), .bin .leq .no (.t 35) (.t 43)⟩,
    ⟨(some 45), none, .pick (.t 33) (.c (.kb true)) (.t 44)⟩]
    (.fl 0 (.st 1 [] (.fl 2 (.fr 3 (.fr 4 (.st 5 [] (.fl 6 (.fl 7 (.fl 8 (.fl 9 (.fr 10 (.fl 11 (.fl 12 (.fr 13 (.fr 14 (.fl 15 (.fr 16 (.fr 17 (.fl 18 (.fl 19 (.fl 20 .done))))))))))))))))))))))
  (.cond (.t 45)
   (.seq (.reg [⟨(some 2), none, .mov (.c (.raw (.pointer none)))⟩])
   .ret)
   .skip))
  (.seq (.draw [⟨(some 46), none, .mov (.t 3)⟩,
    ⟨(some 47), none, .nilck (.t 46)⟩,
    ⟨(some 48), none, .faddr 7 (.t 47)⟩,
    ⟨(some 49), none, .load none (.t 48)⟩,
    ⟨(some 50), none, .load (some 2) (.t 6)⟩,
    ⟨none, none, .mapup 58 (.t 49) (.t 50) (.c (.kb true))⟩]
    (.fl 0 (.fr 1 (.fl 2 (.fr 3 (.fr 4 (.st 5 [] .done)))))))
  (.reg [⟨(some 51), none, .load (some 2) (.t 6)⟩,
    ⟨none, none, .store (some 2) (.t 5) (.t 51)⟩]))))))
  (.reg [⟨(some 52), none, .bin .add .no (.t 17) (.c (.raw (.int .i64 1)))⟩,
    ⟨(some 17), none, .mov (.t 52)⟩])))))))
 (.seq (.seq (.reg [⟨(some 53), none, .mov (.t 0)⟩,
   ⟨(some 54), none, .call 55 [(.t 53)]⟩])
 (.cond (.t 54)
  (.seq (.reg [⟨(some 2), none, .mov (.c (.raw (.pointer none)))⟩])
  .ret)
  .skip))
 (.seq (.reg [⟨(some 55), none, .mov (.t 3)⟩,
   ⟨(some 2), none, .mov (.t 55)⟩])
 .ret))))))))
theorem i_dots_Get : Is Try.prog 26 56 [.t 2] c_dots_Get := ⟨Try.f26, _, p_dots_Get, rfl, rfl, by kernel_rfl, by kernel_rfl, rfl⟩
def p_pack_Reader_End : List (Nat × Pl) := []
def c_pack_Reader_End : VCode :=
 (.seq (.reg [⟨(some 2), none, .mov (.c (.kb false))⟩])
 (.seq (.reg [⟨(some 3), none, .mov (.t 0)⟩,
   ⟨(some 4), none, .nilck (.t 3)⟩,
   ⟨(some 5), none, .faddr 1 (.t 4)⟩,
   ⟨(some 6), none, .load none (.t 5)⟩,
   ⟨(some 7), none, .un .not (.t 6)⟩,
   ⟨(some 8), none, .mov (.t 7)⟩,
   ⟨(some 9), (some (8, true)), .mov (.t 0)⟩,
   ⟨(some 10), (some (8, true)), .nilck (.t 9)⟩,
   ⟨(some 11), (some (8, true)), .faddr 0 (.t 10)⟩,
   ⟨(some 12), (some (8, true)), .load none (.t 11)⟩,
   ⟨(some 13), (some (8, true)), .len .sl (.t 12)⟩,
   ⟨(some 14), (some (8, true)), .bin .eql .no (.t 13) (.c (.raw (.int .i64 0)))⟩,
   ⟨(some 15), none, .pick (.t 8) (.t 14) (.c (.kb false))⟩,
   ⟨(some 2), none, .mov (.t 15)⟩])
 .ret))
theorem i_pack_Reader_End : Is Try.prog 27 16 [.t 2] c_pack_Reader_End := ⟨Try.f27, _, p_pack_Reader_End, rfl, rfl, by kernel_rfl, by kernel_rfl, rfl⟩
def p_rostrumref7_GetDots : List (Nat × Pl) := [(7, (.fl 0 (.fr 1 (.fl 2 (.fr 3 (.fl 4 (.fl 5 (.fr 6 (.fl 7 (.fl 8 (.fr 9 (.fr 10 (.fl 11 (.fr 12 (.fr 13 (.fl 14 (.fl 15 (.fl 16 (.fl 17 (.fl 18 (.fr 19 (.fl 20 (.fr 21 (.fl 22 (.fl 23 (.fl 24 (.fl 25 (.fr 26 (.fl 27 (.fr 28 (.fl 29 (.fr 30 (.fl 31 (.fr 32 (.fl 33 (.fl 34 (.fr 35 (.fr 36 (.fr 37 (.st 38 [] (.fl 39 (.fl 40 (.fl 41 .done))))))))))))))))))))))))))))))))))))))))))), (9, (.fl 0 (.fl 1 (.fr 2 (.fl 3 (.fr 4 (.fr 5 (.st 6 [2, 4] (.st 7 [] (.fr 8 (.fl 9 (.st 10 [] .done))))))))))))]
def c_rostrumref7_GetDots : VCode :=
 (.seq (.reg [⟨(some 2), none, .mov (.c (.raw (.pointer none)))⟩])
 (.seq (.reg [⟨(some 7), none, .mov (.t 0)⟩,
   ⟨(some 8), none, .call 56 [(.t 7)]⟩,
   ⟨(some 9), none, .build [(.int .i64 0), (.int .i64 0), (.int .i64 0), (.int .i64 0), (.int .i64 0), (.int .i64 0), (.int .i64 0), (.slice none 0 0)] [(0, 7, (.t 8))]⟩,
   ⟨(some 10), none, .box 45 (.t 9)⟩,
   ⟨(some 3), none, .mov (.t 10)⟩])
 (.seq (.reg [⟨(some 11), none, .mov (.t 0)⟩,
   ⟨(some 12), none, .call 57 [(.t 11), (.c (.raw (.int .i64 0))), (.c (.raw (.int .i64 1000)))]⟩,
   ⟨(some 4), none, .mov (.t 12)⟩])
 (.seq (.seq (.reg [⟨(some 5), none, .mov (.c (.raw (.int .i64 0)))⟩])
 (.block 0 (.loop (.seq (.seq (.reg [⟨(some 13), none, .mov (.t 5)⟩,
    ⟨(some 14), none, .mov (.t 4)⟩,
    ⟨(some 15), none, .bin .lss .no (.t 13) (.t 14)⟩,
    ⟨(some 16), none, .mov (.t 15)⟩,
    ⟨(some 17), (some (16, true)), .mov (.t 0)⟩,
    ⟨(some 18), (some (16, true)), .nilck (.t 17)⟩,
    ⟨(some 19), (some (16, true)), .faddr 2 (.t 18)⟩,
    ⟨(some 20), (some (16, true)), .load none (.t 19)⟩,
    ⟨(some 21), (some (16, true)), .un .not (.t 20)⟩,
    ⟨(some 22), none, .pick (.t 16) (.t 21) (.c (.kb false))⟩])
  (.cond (.t 22)
   .skip
   (.exit 0)))
  (.seq (.block 1 (.seq (.reg [⟨(some 25), none, .mov (.t 0)⟩,
    ⟨(some 26), none, .call 57 [(.t 25), (.c (.raw (.int .i64 0))), (.c (.raw (.int .i64 6)))]⟩,
    ⟨(some 27), none, .mov (.t 0)⟩,
    ⟨(some 28), none, .call 57 [(.t 27), (.c (.raw (.int .i64 1))), (.c (.raw (.int .i64 1099511627776)))]⟩,
    ⟨(some 29), none, .build [(.int .i64 0), (.int .i64 0)] [(0, 1, (.t 26)), (1, 1, (.t 28))]⟩,
    ⟨(some 6), none, .new 24 [(.int .i64 0), (.int .i64 0)]⟩,
    ⟨none, none, .store (some 2) (.t 6) (.t 29)⟩])
  (.seq (.seq (.draw [⟨(some 30), none, .mov (.t 0)⟩,
    ⟨(some 31), none, .nilck (.t 30)⟩,
    ⟨(some 32), none, .faddr 2 (.t 31)⟩,
    ⟨(some 33), none, .load none (.t 32)⟩,
    ⟨(some 34), none, .mov (.t 33)⟩,
    ⟨(some 35), (some (34, false)), .faddr 1 (.t 6)⟩,
    ⟨(some 36), (some (34, false)), .load none (.t 35)⟩,
    ⟨(some 37), (some (34, false)), .mov (.t 3)⟩,
    ⟨(some 38), (some (34, false)), .faddr 0 (.t 6)⟩,
    ⟨(some 39), (some (34, false)), .load none (.t 38)⟩,
    ⟨(some 40), (some (34, false)), .nilck (.t 37)⟩,
    ⟨(some 41), (some (34, false)), .faddr 0 (.t 40)⟩,
    ⟨(some 42), (some (34, false)), .iaddr 1 (some 7) (.t 41) (.t 39)⟩,
    ⟨(some 43), (some (34, false)), .load none (.t 42)⟩,
    ⟨(some 44), (some (34, false)), .bin .add .no (.t 43) (.c (.raw (.int .i64 1)))⟩,
    ⟨(some 45), (some (34, false)), .bin .leq .no (.t 36) (.t 44)⟩,
    ⟨(some 46), none, .pick (.t 34) (.c (.kb true)) (.t 45)⟩,
    ⟨(some 47), none, .mov (.t 46)⟩,
    ⟨(some 48), (some (47, false)), .mov (.t 3)⟩,
    ⟨(some 49), (some (47, false)), .nilck (.t 48)⟩,
    ⟨(some 50), (some (47, false)), .faddr 7 (.t 49)⟩,
    ⟨(some 51), (some (47, false)), .load none (.t 50)⟩,
    ⟨(some 52), (some (47, false)), .len .sl (.t 51)⟩,
    ⟨(some 53), (some (47, false)), .bin .gtr .no (.t 52) (.c (.raw (.int .i64 0)))⟩,
    ⟨(some 54), (some (47, false)), .mov (.t 53)⟩,
    ⟨(some 55), (some (54, true)), .mov (.t 3)⟩,
    ⟨(some 56), (some (54, true)), .nilck (.t 55)⟩,
    ⟨(some 57), (some (54, true)), .faddr 7 (.t 56)⟩,
    ⟨(some 58), (some (54, true)), .load none (.t 57)⟩,
    ⟨(some 59), (some (54, true)), .mov (.t 3)⟩,
    ⟨(some 60), (some (54, true)), .nilck (.t 59)⟩,
    ⟨(some 61), (some (54, true)), .faddr 7 (.t 60)⟩,
    ⟨(some 62), (some (54, true)), .load none (.t 61)⟩,
    ⟨(some 63), (some (54, true)), .len .sl (.t 62)⟩,
    ⟨(some 64), (some (54, true)), .bin .sub .no (.t 63) (.c (.raw (.int .i64 1)))⟩,
    ⟨(some 65), (some (54, true)), .iaddr 2 none (.t 58) (.t 64)⟩,
    ⟨(some 66), (some (54, true)), .load (some 2) (.t 65)⟩,
    ⟨(some 67), (some (54, true)), .load (some 2) (.t 6)⟩,
    ⟨(some 68), (some (54, true)), .call 58 [(.t 66), (.t 67)]⟩,
    ⟨(some 69), (some (54, true)), .un .not (.t 68)⟩,
    ⟨(some 70), (some (47, false)), .pick (.t 54) (.t 69) (.c (.kb false))⟩,
    ⟨(some 71), none, .pick (.t 47) (.c (.kb true)) (.t 70)⟩]
    (.fl 0 (.fr 1 (.fl 2 (.fr 3 (.fl 4 (.fl 5 (.fr 6 (.fl 7 (.fl 8 (.fr 9 (.fr 10 (.fl 11 (.fr 12 (.fr 13 (.fl 14 (.fl 15 (.fl 16 (.fl 17 (.fl 18 (.fr 19 (.fl 20 (.fr 21 (.fl 22 (.fl 23 (.fl 24 (.fl 25 (.fr 26 (.fl 27 (.fr 28 (.fl 29 (.fr 30 (.fl 31 (.fr 32 (.fl 33 (.fl 34 (.fr 35 (.fr 36 (.fr 37 (.st 38 [] (.fl 39 (.fl 40 (.fl 41 .done)))))))))))))))))))))))))))))))))))))))))))
  (.cond (.t 71)
   (.seq (.reg [⟨(some 72), none, .mov (.t 0)⟩,
     ⟨(some 73), none, .nilck (.t 72)⟩,
     ⟨(some 74), none, .faddr 2 (.t 73)⟩,
     ⟨none, none, .store none (.t 74) (.c (.kb true))⟩])
   (.exit 0))
   .skip))
  (.draw [⟨(some 75), none, .mov (.t 3)⟩,
    ⟨(some 76), none, .mov (.t 3)⟩,
    ⟨(some 77), none, .nilck (.t 76)⟩,
    ⟨(some 78), none, .faddr 7 (.t 77)⟩,
    ⟨(some 79), none, .load none (.t 78)⟩,
    ⟨(some 80), none, .load (some 2) (.t 6)⟩,
    ⟨(some 81), none, .bslice 24 1 [(.int .i64 0), (.int .i64 0)] [(0, 2, (.t 80))]⟩,
    ⟨(some 82), none, .append 24 2 16 [(.int .i64 0), (.int .i64 0)] (.t 79) (.t 81)⟩,
    ⟨(some 83), none, .nilck (.t 75)⟩,
    ⟨(some 84), none, .faddr 7 (.t 83)⟩,
    ⟨none, none, .store none (.t 84) (.t 82)⟩]
    (.fl 0 (.fl 1 (.fr 2 (.fl 3 (.fr 4 (.fr 5 (.st 6 [2, 4] (.st 7 [] (.fr 8 (.fl 9 (.st 10 [] .done)))))))))))))))
  (.reg [⟨(some 23), none, .mov (.t 5)⟩,
    ⟨(some 24), none, .bin .add .no (.t 23) (.c (.raw (.int .i64 1)))⟩,
    ⟨(some 5), none, .mov (.t 24)⟩]))))))
 (.seq (.seq (.reg [⟨(some 85), none, .mov (.t 0)⟩,
   ⟨(some 86), none, .nilck (.t 85)⟩,
   ⟨(some 87), none, .faddr 2 (.t 86)⟩,
   ⟨(some 88), none, .load none (.t 87)⟩])
 (.cond (.t 88)
  (.seq (.reg [⟨(some 2), none, .mov (.c (.raw (.pointer none)))⟩])
  .ret)
  .skip))
 (.seq (.reg [⟨(some 89), none, .mov (.t 3)⟩,
   ⟨(some 2), none, .mov (.t 89)⟩])
 .ret))))))
theorem i_rostrumref7_GetDots : Is Try.prog 28 90 [.t 2] c_rostrumref7_GetDots := ⟨Try.f28, _, p_rostrumref7_GetDots, rfl, rfl, by kernel_rfl, by kernel_rfl, rfl⟩
def p_rostrumref1_Reader_End : List (Nat × Pl) := [(1, (.fl 0 (.fr 1 (.fl 2 (.fr 3 (.fl 4 (.fl 5 (.fl 6 (.fr 7 (.fl 8 (.fr 9 (.fl 10 (.fr 11 (.fl 12 (.fr 13 (.fl 14 (.fl 15 (.fl 16 (.fl 17 .done)))))))))))))))))))]
def c_rostrumref1_Reader_End : VCode :=
 (.seq (.reg [⟨(some 2), none, .mov (.c (.kb false))⟩])
 (.seq (.draw [⟨(some 3), none, .mov (.t 0)⟩,
   ⟨(some 4), none, .nilck (.t 3)⟩,
   ⟨(some 5), none, .faddr 2 (.t 4)⟩,
   ⟨(some 6), none, .load none (.t 5)⟩,
   ⟨(some 7), none, .un .not (.t 6)⟩,
   ⟨(some 8), none, .mov (.t 7)⟩,
   ⟨(some 9), (some (8, true)), .mov (.t 0)⟩,
   ⟨(some 10), (some (8, true)), .nilck (.t 9)⟩,
   ⟨(some 11), (some (8, true)), .faddr 1 (.t 10)⟩,
   ⟨(some 12), (some (8, true)), .load none (.t 11)⟩,
   ⟨(some 13), (some (8, true)), .mov (.t 0)⟩,
   ⟨(some 14), (some (8, true)), .nilck (.t 13)⟩,
   ⟨(some 15), (some (8, true)), .faddr 0 (.t 14)⟩,
   ⟨(some 16), (some (8, true)), .load none (.t 15)⟩,
   ⟨(some 17), (some (8, true)), .len .sl (.t 16)⟩,
   ⟨(some 18), (some (8, true)), .bin .eql .no (.t 12) (.t 17)⟩,
   ⟨(some 19), none, .pick (.t 8) (.t 18) (.c (.kb false))⟩,
   ⟨(some 2), none, .mov (.t 19)⟩]
   (.fl 0 (.fr 1 (.fl 2 (.fr 3 (.fl 4 (.fl 5 (.fl 6 (.fr 7 (.fl 8 (.fr 9 (.fl 10 (.fr 11 (.fl 12 (.fr 13 (.fl 14 (.fl 15 (.fl 16 (.fl 17 .done)))))))))))))))))))
 .ret))
theorem i_rostrumref1_Reader_End : Is Try.prog 29 20 [.t 2] c_rostrumref1_Reader_End := ⟨Try.f29, _, p_rostrumref1_Reader_End, rfl, rfl, by kernel_rfl, by kernel_rfl, rfl⟩
def p_vec_Dot : List (Nat × Pl) := []
def c_vec_Dot : VCode :=
 (.seq (.reg [⟨(some 1), none, .box 24 (.t 0)⟩,
   ⟨(some 2), none, .mov (.c (.kb false))⟩])
 (.seq (.reg [⟨(some 3), none, .faddr 0 (.t 1)⟩,
   ⟨(some 4), none, .load none (.t 3)⟩,
   ⟨(some 5), none, .call 35 [(.t 4)]⟩,
   ⟨(some 6), none, .mov (.t 5)⟩,
   ⟨(some 7), (some (6, true)), .faddr 1 (.t 1)⟩,
   ⟨(some 8), (some (6, true)), .load none (.t 7)⟩,
   ⟨(some 9), (some (6, true)), .bin .geq .no (.t 8) (.c (.raw (.int .i64 1)))⟩,
   ⟨(some 10), none, .pick (.t 6) (.t 9) (.c (.kb false))⟩,
   ⟨(some 11), none, .mov (.t 10)⟩,
   ⟨(some 12), (some (11, true)), .faddr 1 (.t 1)⟩,
   ⟨(some 13), (some (11, true)), .load none (.t 12)⟩,
   ⟨(some 14), (some (11, true)), .bin .leq .no (.t 13) (.c (.raw (.int .i64 1099511627776)))⟩,
   ⟨(some 15), none, .pick (.t 11) (.t 14) (.c (.kb false))⟩,
   ⟨(some 2), none, .mov (.t 15)⟩])
 .ret))
theorem i_vec_Dot : Is Try.prog 30 16 [.t 2] c_vec_Dot := ⟨Try.f30, _, p_vec_Dot, rfl, rfl, by kernel_rfl, by kernel_rfl, rfl⟩
def p_dots_Dots_close : List (Nat × Pl) := [(4, (.fl 0 (.fr 1 (.fl 2 (.fr 3 (.fr 4 (.fr 5 (.fl 6 .done)))))))), (5, (.fl 0 (.fr 1 (.fl 2 (.fr 3 (.fr 4 (.st 5 [] .done))))))), (6, (.fl 0 (.fl 1 (.fr 2 (.fl 3 (.fr 4 (.fr 5 (.fl 6 (.fr 7 (.fl 8 (.fr 9 (.st 10 [] .done))))))))))))]
def c_dots_Dots_close : VCode :=
 (.seq (.reg [⟨(some 4), none, .mov (.c (.raw (.int .i64 0)))⟩])
 (.block 0 (.loop (.seq (.reg [⟨(some 5), none, .bin .lss .no (.t 4) (.c (.raw (.int .i64 7)))⟩])
  (.seq (.cond (.t 5)
   .skip
   (.exit 0))
  (.seq (.block 1 (.seq (.reg [⟨(some 6), none, .mov (.t 4)⟩,
    ⟨(some 2), none, .mov (.t 6)⟩])
  (.block 2 (.loop (.block 3 (.seq (.reg [⟨(some 7), none, .mov (.t 2)⟩,
     ⟨(some 8), none, .mov (.t 0)⟩,
     ⟨(some 9), none, .mov (.t 2)⟩,
     ⟨(some 10), none, .nilck (.t 8)⟩,
     ⟨(some 11), none, .faddr 0 (.t 10)⟩,
     ⟨(some 12), none, .iaddr 1 (some 7) (.t 11) (.t 9)⟩,
     ⟨(some 13), none, .load none (.t 12)⟩,
     ⟨(some 14), none, .bin .add .no (.t 13) (.c (.raw (.int .i64 1)))⟩,
     ⟨(some 15), none, .build [(.int .i64 0), (.int .i64 0)] [(0, 1, (.t 7)), (1, 1, (.t 14))]⟩,
     ⟨(some 3), none, .new 24 [(.int .i64 0), (.int .i64 0)]⟩,
     ⟨none, none, .store (some 2) (.t 3) (.t 15)⟩])
   (.seq (.seq (.draw [⟨(some 16), none, .mov (.t 0)⟩,
     ⟨(some 17), none, .nilck (.t 16)⟩,
     ⟨(some 18), none, .faddr 7 (.t 17)⟩,
     ⟨(some 19), none, .load none (.t 18)⟩,
     ⟨(some 20), none, .load (some 2) (.t 3)⟩,
     ⟨(some 21), none, .lookup 58 false (.t 19) (.t 20)⟩,
     ⟨(some 22), none, .un .not (.t 21)⟩]
     (.fl 0 (.fr 1 (.fl 2 (.fr 3 (.fr 4 (.fr 5 (.fl 6 .done))))))))
   (.cond (.t 22)
    (.exit 2)
    .skip))
   (.seq (.draw [⟨(some 23), none, .mov (.t 0)⟩,
     ⟨(some 24), none, .nilck (.t 23)⟩,
     ⟨(some 25), none, .faddr 7 (.t 24)⟩,
     ⟨(some 26), none, .load none (.t 25)⟩,
     ⟨(some 27), none, .load (some 2) (.t 3)⟩,
     ⟨none, none, .delete 58 (.t 26) (.t 27)⟩]
     (.fl 0 (.fr 1 (.fl 2 (.fr 3 (.fr 4 (.st 5 [] .done)))))))
   (.draw [⟨(some 28), none, .mov (.t 0)⟩,
     ⟨(some 29), none, .mov (.t 2)⟩,
     ⟨(some 30), none, .nilck (.t 28)⟩,
     ⟨(some 31), none, .faddr 0 (.t 30)⟩,
     ⟨(some 32), none, .iaddr 1 (some 7) (.t 31) (.t 29)⟩,
     ⟨(some 33), none, .load none (.t 32)⟩,
     ⟨(some 34), none, .bin .add .no (.t 33) (.c (.raw (.int .i64 1)))⟩,
     ⟨(some 35), none, .nilck (.t 28)⟩,
     ⟨(some 36), none, .faddr 0 (.t 35)⟩,
     ⟨(some 37), none, .iaddr 1 (some 7) (.t 36) (.t 29)⟩,
     ⟨none, none, .store none (.t 37) (.t 34)⟩]
     (.fl 0 (.fl 1 (.fr 2 (.fl 3 (.fr 4 (.fr 5 (.fl 6 (.fr 7 (.fl 8 (.fr 9 (.st 10 [] .done))))))))))))))))))))
  (.reg [⟨(some 38), none, .bin .add .no (.t 4) (.c (.raw (.int .i64 1)))⟩,
    ⟨(some 4), none, .mov (.t 38)⟩])))))))
theorem i_dots_Dots_close : Is Try.prog 31 39 [] c_dots_Dots_close := ⟨Try.f31, _, p_dots_Dots_close, rfl, rfl, by kernel_rfl, by kernel_rfl, rfl⟩
def p_slices_SortedFunc_api_Dot : List (Nat × Pl) := []
def c_slices_SortedFunc_api_Dot : VCode :=
 (.seq (.reg [⟨(some 4), none, .mov (.c (.raw (.slice none 0 0)))⟩])
 (.seq (.reg [⟨(some 6), none, .mov (.t 0)⟩,
   ⟨(some 7), none, .call 59 [(.t 6)]⟩,
   ⟨(some 5), none, .mov (.t 7)⟩])
 (.seq (.reg [⟨(some 8), none, .mov (.t 5)⟩,
   ⟨(some 9), none, .mov (.t 1)⟩,
   ⟨(some 10), none, .call 60 [(.t 8), (.t 9)]⟩])
 (.seq (.reg [⟨(some 11), none, .mov (.t 5)⟩,
   ⟨(some 4), none, .mov (.t 11)⟩])
 .ret))))
theorem i_slices_SortedFunc_api_Dot : Is Try.prog 32 12 [.t 4] c_slices_SortedFunc_api_Dot := ⟨Try.f32, _, p_slices_SortedFunc_api_Dot, rfl, rfl, by kernel_rfl, by kernel_rfl, rfl⟩
def p_maps_Keys_map_api_Dot_bool_api_Dot_bool : List (Nat × Pl) := []
def c_maps_Keys_map_api_Dot_bool_api_Dot_bool : VCode :=
 (.seq (.reg [⟨(some 1), none, .box 58 (.t 0)⟩,
   ⟨(some 2), none, .mov (.c (.raw .nilFunc))⟩])
 (.seq (.reg [⟨(some 3), none, .mkfn 61 [(.t 1)]⟩,
   ⟨(some 2), none, .mov (.t 3)⟩])
 .ret))
theorem i_maps_Keys_map_api_Dot_bool_api_Dot_bool : Is Try.prog 33 4 [.t 2] c_maps_Keys_map_api_Dot_bool_api_Dot_bool := ⟨Try.f33, _, p_maps_Keys_map_api_Dot_bool_api_Dot_bool, rfl, rfl, by kernel_rfl, by kernel_rfl, rfl⟩
def p_dots_Order : List (Nat × Pl) := [(1, (.fl 0 (.fr 1 (.fl 2 (.fr 3 (.fl 5 (.fr 6 (.fl 7 (.fr 8 (.st 4 [6, 8] (.st 9 [] (.st 10 [] (.st 11 [] (.fl 12 .done))))))))))))))]
def c_dots_Order : VCode :=
 (.seq (.reg [⟨(some 2), none, .box 24 (.t 0)⟩,
   ⟨(some 3), none, .box 24 (.t 1)⟩,
   ⟨(some 4), none, .mov (.c (.raw (.int .i64 0)))⟩])
 (.seq (.draw [⟨(some 5), none, .faddr 0 (.t 2)⟩,
   ⟨(some 6), none, .load none (.t 5)⟩,
   ⟨(some 7), none, .faddr 0 (.t 3)⟩,
   ⟨(some 8), none, .load none (.t 7)⟩,
   ⟨(some 9), none, .call 63 [(.t 6), (.t 8)]⟩,
   ⟨(some 10), none, .faddr 1 (.t 2)⟩,
   ⟨(some 11), none, .load none (.t 10)⟩,
   ⟨(some 12), none, .faddr 1 (.t 3)⟩,
   ⟨(some 13), none, .load none (.t 12)⟩,
   ⟨(some 14), none, .call 64 [(.t 11), (.t 13)]⟩,
   ⟨(some 15), none, .bslice 3 2 [(.int .i64 0), (.int .i64 0)] [(0, 1, (.t 9)), (1, 1, (.t 14))]⟩,
   ⟨(some 16), none, .call 62 [(.t 15)]⟩,
   ⟨(some 4), none, .mov (.t 16)⟩]
   (.fl 0 (.fr 1 (.fl 2 (.fr 3 (.fl 5 (.fr 6 (.fl 7 (.fr 8 (.st 4 [6, 8] (.st 9 [] (.st 10 [] (.st 11 [] (.fl 12 .done))))))))))))))
 .ret))
theorem i_dots_Order : Is Try.prog 34 17 [.t 4] c_dots_Order := ⟨Try.f34, _, p_dots_Order, rfl, rfl, by kernel_rfl, by kernel_rfl, rfl⟩
def p_vec_Rep : List (Nat × Pl) := []
def c_vec_Rep : VCode :=
 (.seq (.reg [⟨(some 2), none, .mov (.c (.kb false))⟩])
 (.seq (.reg [⟨(some 3), none, .mov (.t 0)⟩,
   ⟨(some 4), none, .bin .geq .no (.t 3) (.c (.raw (.int .i64 0)))⟩,
   ⟨(some 5), none, .mov (.t 4)⟩,
   ⟨(some 6), (some (5, true)), .mov (.t 0)⟩,
   ⟨(some 7), (some (5, true)), .bin .lss .no (.t 6) (.c (.raw (.int .i64 7)))⟩,
   ⟨(some 8), none, .pick (.t 5) (.t 7) (.c (.kb false))⟩,
   ⟨(some 2), none, .mov (.t 8)⟩])
 .ret))
theorem i_vec_Rep : Is Try.prog 35 9 [.t 2] c_vec_Rep := ⟨Try.f35, _, p_vec_Rep, rfl, rfl, by kernel_rfl, by kernel_rfl, rfl⟩
def p_maps_Equal_map_api_Dot_bool_map_api_Dot_bool_api_Dot_bool : List (Nat × Pl) := []
def c_maps_Equal_map_api_Dot_bool_map_api_Dot_bool_api_Dot_bool : VCode :=
 (.seq (.reg [⟨(some 4), none, .mov (.c (.kb false))⟩])
 (.seq (.seq (.reg [⟨(some 9), none, .mov (.t 0)⟩,
   ⟨(some 10), none, .len .mp (.t 9)⟩,
   ⟨(some 11), none, .mov (.t 1)⟩,
   ⟨(some 12), none, .len .mp (.t 11)⟩,
   ⟨(some 13), none, .bin .neq .no (.t 10) (.t 12)⟩])
 (.cond (.t 13)
  (.seq (.reg [⟨(some 4), none, .mov (.c (.kb false))⟩])
  .ret)
  .skip))
 (.seq (.seq (.reg [⟨(some 14), none, .mov (.t 0)⟩,
   ⟨(some 15), none, .range false (.t 14)⟩])
 (.block 0 (.loop (.seq (.reg [⟨(some 16), none, .next false (.t 15)⟩,
    ⟨(some 17), none, .extr (.t 16) 0⟩])
  (.seq (.cond (.t 17)
   .skip
   (.exit 0))
  (.block 1 (.seq (.reg [⟨(some 18), none, .entry (.t 15)⟩,
    ⟨(some 19), none, .extr (.t 18) 0⟩,
    ⟨(some 20), none, .extr (.t 18) 1⟩,
    ⟨(some 5), none, .new 24 [(.int .i64 0), (.int .i64 0)]⟩,
    ⟨none, none, .store (some 2) (.t 5) (.t 19)⟩,
    ⟨(some 6), none, .mov (.t 20)⟩])
  (.seq (.reg [⟨(some 22), none, .mov (.t 1)⟩,
    ⟨(some 23), none, .load (some 2) (.t 5)⟩,
    ⟨(some 24), none, .lookup 58 true (.t 22) (.t 23)⟩,
    ⟨(some 21), none, .mov (.t 24)⟩,
    ⟨(some 25), none, .extr (.t 21) 0⟩,
    ⟨(some 26), none, .extr (.t 21) 1⟩,
    ⟨(some 7), none, .mov (.t 25)⟩,
    ⟨(some 8), none, .mov (.t 26)⟩])
  (.seq (.reg [⟨(some 27), none, .mov (.t 8)⟩,
    ⟨(some 28), none, .un .not (.t 27)⟩,
    ⟨(some 29), none, .mov (.t 28)⟩,
    ⟨(some 30), (some (29, false)), .mov (.t 6)⟩,
    ⟨(some 31), (some (29, false)), .mov (.t 7)⟩,
    ⟨(some 32), (some (29, false)), .bin .neq .b (.t 30) (.t 31)⟩,
    ⟨(some 33), none, .pick (.t 29) (.c (.kb true)) (.t 32)⟩])
  (.cond (.t 33)
   (.seq (.reg [⟨(some 4), none, .mov (.c (.kb false))⟩])
   .ret)
   .skip))))))))))
 (.seq (.reg [⟨(some 4), none, .mov (.c (.kb true))⟩])
 .ret))))
theorem i_maps_Equal_map_api_Dot_bool_map_api_Dot_bool_api_Dot_bool : Is Try.prog 36 34 [.t 4] c_maps_Equal_map_api_Dot_bool_map_api_Dot_bool_api_Dot_bool := ⟨Try.f36, _, p_maps_Equal_map_api_Dot_bool_map_api_Dot_bool_api_Dot_bool, rfl, rfl, by kernel_rfl, by kernel_rfl, rfl⟩
def p_vec_Merge : List (Nat × Pl) := [(4, (.fl 0 (.fl 1 (.fr 2 (.fr 3 (.fl 4 (.fr 5 (.fr 6 (.fl 7 (.fr 8 (.st 9 [] .done)))))))))))]
def c_vec_Merge : VCode :=
 (.seq (.reg [⟨(some 2), none, .box 33 (.t 0)⟩,
   ⟨(some 3), none, .box 33 (.t 1)⟩,
   ⟨(some 4), none, .new 33 [(.int .i64 0), (.int .i64 0), (.int .i64 0), (.int .i64 0), (.int .i64 0), (.int .i64 0), (.int .i64 0)]⟩])
 (.seq (.seq (.reg [⟨(some 6), none, .mov (.c (.raw (.int .i64 0)))⟩])
 (.block 0 (.loop (.seq (.reg [⟨(some 7), none, .bin .lss .no (.t 6) (.c (.raw (.int .i64 7)))⟩])
  (.seq (.cond (.t 7)
   .skip
   (.exit 0))
  (.seq (.block 1 (.seq (.reg [⟨(some 8), none, .mov (.t 6)⟩,
    ⟨(some 5), none, .mov (.t 8)⟩])
  (.draw [⟨(some 9), none, .mov (.t 5)⟩,
    ⟨(some 10), none, .mov (.t 5)⟩,
    ⟨(some 11), none, .iaddr 1 (some 7) (.t 2) (.t 10)⟩,
    ⟨(some 12), none, .load none (.t 11)⟩,
    ⟨(some 13), none, .mov (.t 5)⟩,
    ⟨(some 14), none, .iaddr 1 (some 7) (.t 3) (.t 13)⟩,
    ⟨(some 15), none, .load none (.t 14)⟩,
    ⟨(some 16), none, .max (.t 12) (.t 15)⟩,
    ⟨(some 17), none, .iaddr 1 (some 7) (.t 2) (.t 9)⟩,
    ⟨none, none, .store none (.t 17) (.t 16)⟩]
    (.fl 0 (.fl 1 (.fr 2 (.fr 3 (.fl 4 (.fr 5 (.fr 6 (.fl 7 (.fr 8 (.st 9 [] .done)))))))))))))
  (.reg [⟨(some 18), none, .bin .add .no (.t 6) (.c (.raw (.int .i64 1)))⟩,
    ⟨(some 6), none, .mov (.t 18)⟩])))))))
 (.seq (.reg [⟨(some 19), none, .load (some 7) (.t 2)⟩,
   ⟨none, none, .store (some 7) (.t 4) (.t 19)⟩])
 .ret)))
theorem i_vec_Merge : Is Try.prog 37 20 [.cell 4 (some 7)] c_vec_Merge := ⟨Try.f37, _, p_vec_Merge, rfl, rfl, by kernel_rfl, by kernel_rfl, rfl⟩
def p_maps_Copy_map_api_Dot_bool_map_api_Dot_bool_api_Dot_bool : List (Nat × Pl) := []
def c_maps_Copy_map_api_Dot_bool_map_api_Dot_bool_api_Dot_bool : VCode :=
 (.seq (.reg [⟨(some 6), none, .mov (.t 1)⟩,
   ⟨(some 7), none, .range false (.t 6)⟩])
 (.block 0 (.loop (.seq (.reg [⟨(some 8), none, .next false (.t 7)⟩,
    ⟨(some 9), none, .extr (.t 8) 0⟩])
  (.seq (.cond (.t 9)
   .skip
   (.exit 0))
  (.block 1 (.seq (.reg [⟨(some 10), none, .entry (.t 7)⟩,
    ⟨(some 11), none, .extr (.t 10) 0⟩,
    ⟨(some 12), none, .extr (.t 10) 1⟩,
    ⟨(some 4), none, .new 24 [(.int .i64 0), (.int .i64 0)]⟩,
    ⟨none, none, .store (some 2) (.t 4) (.t 11)⟩,
    ⟨(some 5), none, .mov (.t 12)⟩])
  (.reg [⟨(some 13), none, .mov (.t 0)⟩,
    ⟨(some 14), none, .load (some 2) (.t 4)⟩,
    ⟨(some 15), none, .mov (.t 5)⟩,
    ⟨none, none, .mapup 58 (.t 13) (.t 14) (.t 15)⟩]))))))))
theorem i_maps_Copy_map_api_Dot_bool_map_api_Dot_bool_api_Dot_bool : Is Try.prog 39 16 [] c_maps_Copy_map_api_Dot_bool_map_api_Dot_bool_api_Dot_bool := ⟨Try.f39, _, p_maps_Copy_map_api_Dot_bool_map_api_Dot_bool_api_Dot_bool, rfl, rfl, by kernel_rfl, by kernel_rfl, rfl⟩
def p_maps_DeleteFunc_map_api_Dot_bool_api_Dot_bool : List (Nat × Pl) := []
def c_maps_DeleteFunc_map_api_Dot_bool_api_Dot_bool : VCode :=
 (.seq (.reg [⟨(some 6), none, .mov (.t 0)⟩,
   ⟨(some 7), none, .range false (.t 6)⟩])
 (.block 0 (.loop (.seq (.reg [⟨(some 8), none, .next false (.t 7)⟩,
    ⟨(some 9), none, .extr (.t 8) 0⟩])
  (.seq (.cond (.t 9)
   .skip
   (.exit 0))
  (.block 1 (.seq (.reg [⟨(some 10), none, .entry (.t 7)⟩,
    ⟨(some 11), none, .extr (.t 10) 0⟩,
    ⟨(some 12), none, .extr (.t 10) 1⟩,
    ⟨(some 4), none, .new 24 [(.int .i64 0), (.int .i64 0)]⟩,
    ⟨none, none, .store (some 2) (.t 4) (.t 11)⟩,
    ⟨(some 5), none, .mov (.t 12)⟩])
  (.seq (.reg [⟨(some 13), none, .mov (.t 1)⟩,
    ⟨(some 14), none, .load (some 2) (.t 4)⟩,
    ⟨(some 15), none, .mov (.t 5)⟩,
    ⟨(some 16), none, .callv (.t 13) [(.t 14), (.t 15)]⟩])
  (.cond (.t 16)
   (.reg [⟨(some 17), none, .mov (.t 0)⟩,
     ⟨(some 18), none, .load (some 2) (.t 4)⟩,
     ⟨none, none, .delete 58 (.t 17) (.t 18)⟩])
   .skip)))))))))
theorem i_maps_DeleteFunc_map_api_Dot_bool_api_Dot_bool : Is Try.prog 40 19 [] c_maps_DeleteFunc_map_api_Dot_bool_api_Dot_bool := ⟨Try.f40, _, p_maps_DeleteFunc_map_api_Dot_bool_api_Dot_bool, rfl, rfl, by kernel_rfl, by kernel_rfl, rfl⟩
def p_dots_Dots_Merge_1 : List (Nat × Pl) := [(1, (.fr 0 (.fr 1 (.fl 2 (.fr 3 (.fr 4 (.st 5 [] (.fl 6 .done))))))))]
def c_dots_Dots_Merge_1 : VCode :=
 (.seq (.reg [⟨(some 3), none, .box 24 (.t 0)⟩,
   ⟨(some 5), none, .mov (.c (.kb false))⟩])
 (.seq (.draw [⟨(some 6), none, .load none (.t 2)⟩,
   ⟨(some 7), none, .nilck (.t 6)⟩,
   ⟨(some 8), none, .faddr 0 (.t 7)⟩,
   ⟨(some 9), none, .load (some 7) (.t 8)⟩,
   ⟨(some 10), none, .load (some 2) (.t 3)⟩,
   ⟨(some 11), none, .call 14 [(.t 9), (.t 10)]⟩,
   ⟨(some 5), none, .mov (.t 11)⟩]
   (.fr 0 (.fr 1 (.fl 2 (.fr 3 (.fr 4 (.st 5 [] (.fl 6 .done))))))))
 .ret))
theorem i_dots_Dots_Merge_1 : Is Try.prog 41 12 [.t 5] c_dots_Dots_Merge_1 := ⟨Try.f41, _, p_dots_Dots_Merge_1, rfl, rfl, by kernel_rfl, by kernel_rfl, rfl⟩
def p_rostrumref7_May : List (Nat × Pl) := []
def c_rostrumref7_May : VCode :=
 (.seq (.reg [⟨(some 1), none, .box 24 (.t 0)⟩,
   ⟨(some 2), none, .mov (.c (.kb false))⟩])
 (.seq (.reg [⟨(some 3), none, .faddr 0 (.t 1)⟩,
   ⟨(some 4), none, .load none (.t 3)⟩,
   ⟨(some 5), none, .bin .geq .no (.t 4) (.c (.raw (.int .i64 0)))⟩,
   ⟨(some 6), none, .mov (.t 5)⟩,
   ⟨(some 7), (some (6, true)), .faddr 0 (.t 1)⟩,
   ⟨(some 8), (some (6, true)), .load none (.t 7)⟩,
   ⟨(some 9), (some (6, true)), .bin .lss .no (.t 8) (.c (.raw (.int .i64 7)))⟩,
   ⟨(some 10), none, .pick (.t 6) (.t 9) (.c (.kb false))⟩,
   ⟨(some 11), none, .mov (.t 10)⟩,
   ⟨(some 12), (some (11, true)), .faddr 1 (.t 1)⟩,
   ⟨(some 13), (some (11, true)), .load none (.t 12)⟩,
   ⟨(some 14), (some (11, true)), .bin .geq .no (.t 13) (.c (.raw (.int .i64 1)))⟩,
   ⟨(some 15), none, .pick (.t 11) (.t 14) (.c (.kb false))⟩,
   ⟨(some 16), none, .mov (.t 15)⟩,
   ⟨(some 17), (some (16, true)), .faddr 1 (.t 1)⟩,
   ⟨(some 18), (some (16, true)), .load none (.t 17)⟩,
   ⟨(some 19), (some (16, true)), .bin .leq .no (.t 18) (.c (.raw (.int .i64 1099511627776)))⟩,
   ⟨(some 20), none, .pick (.t 16) (.t 19) (.c (.kb false))⟩,
   ⟨(some 2), none, .mov (.t 20)⟩])
 .ret))
theorem i_rostrumref7_May : Is Try.prog 42 21 [.t 2] c_rostrumref7_May := ⟨Try.f42, _, p_rostrumref7_May, rfl, rfl, by kernel_rfl, by kernel_rfl, rfl⟩
def p_rostrumref7_insert : List (Nat × Pl) := [(2, (.fl 0 (.fl 1 (.fl 2 (.fl 3 (.fl 4 (.fl 5 (.fl 6 (.fr 7 (.fr 8 (.fr 9 (.st 10 [] (.fl 11 .done))))))))))))), (4, (.fl 0 (.fl 1 (.fl 2 (.fl 3 (.fl 4 (.fl 5 (.fl 6 (.fr 7 (.fr 8 (.fr 9 (.fl 10 (.fl 11 .done))))))))))))), (6, (.fl 1 (.fl 2 (.fl 3 (.fr 5 (.fl 8 (.fl 9 (.fl 10 (.br (.st 0 [5] (.br (.st 4 [5] (.st 6 [] (.st 7 [] (.st 11 [] (.fl 12 .done))))) (.st 6 [] (.st 4 [] (.st 7 [] (.st 11 [] (.fl 12 .done))))))) (.st 6 [] (.st 0 [] (.st 4 [] (.st 7 [] (.st 11 [] (.fl 12 .done)))))))))))))))]
def c_rostrumref7_insert : VCode :=
 (.seq (.reg [⟨(some 3), none, .box 24 (.t 1)⟩,
   ⟨(some 4), none, .mov (.c (.raw (.slice none 0 0)))⟩])
 (.seq (.reg [⟨(some 5), none, .mov (.c (.raw (.int .i64 0)))⟩])
 (.seq (.block 0 (.loop (.seq (.seq (.draw [⟨(some 6), none, .mov (.t 5)⟩,
    ⟨(some 7), none, .mov (.t 0)⟩,
    ⟨(some 8), none, .len .sl (.t 7)⟩,
    ⟨(some 9), none, .bin .lss .no (.t 6) (.t 8)⟩,
    ⟨(some 10), none, .mov (.t 9)⟩,
    ⟨(some 11), (some (10, true)), .mov (.t 0)⟩,
    ⟨(some 12), (some (10, true)), .mov (.t 5)⟩,
    ⟨(some 13), (some (10, true)), .iaddr 2 none (.t 11) (.t 12)⟩,
    ⟨(some 14), (some (10, true)), .load (some 2) (.t 13)⟩,
    ⟨(some 15), (some (10, true)), .load (some 2) (.t 3)⟩,
    ⟨(some 16), (some (10, true)), .call 58 [(.t 14), (.t 15)]⟩,
    ⟨(some 17), none, .pick (.t 10) (.t 16) (.c (.kb false))⟩]
    (.fl 0 (.fl 1 (.fl 2 (.fl 3 (.fl 4 (.fl 5 (.fl 6 (.fr 7 (.fr 8 (.fr 9 (.st 10 [] (.fl 11 .done)))))))))))))
  (.cond (.t 17)
   .skip
   (.exit 0)))
  (.block 1 (.reg [⟨(some 18), none, .mov (.t 5)⟩,
    ⟨(some 19), none, .bin .add .no (.t 18) (.c (.raw (.int .i64 1)))⟩,
    ⟨(some 5), none, .mov (.t 19)⟩])))))
 (.seq (.seq (.draw [⟨(some 20), none, .mov (.t 5)⟩,
   ⟨(some 21), none, .mov (.t 0)⟩,
   ⟨(some 22), none, .len .sl (.t 21)⟩,
   ⟨(some 23), none, .bin .lss .no (.t 20) (.t 22)⟩,
   ⟨(some 24), none, .mov (.t 23)⟩,
   ⟨(some 25), (some (24, true)), .mov (.t 0)⟩,
   ⟨(some 26), (some (24, true)), .mov (.t 5)⟩,
   ⟨(some 27), (some (24, true)), .iaddr 2 none (.t 25) (.t 26)⟩,
   ⟨(some 28), (some (24, true)), .load (some 2) (.t 27)⟩,
   ⟨(some 29), (some (24, true)), .load (some 2) (.t 3)⟩,
   ⟨(some 30), (some (24, true)), .bin .eql (.agg [.i, .i]) (.t 28) (.t 29)⟩,
   ⟨(some 31), none, .pick (.t 24) (.t 30) (.c (.kb false))⟩]
   (.fl 0 (.fl 1 (.fl 2 (.fl 3 (.fl 4 (.fl 5 (.fl 6 (.fr 7 (.fr 8 (.fr 9 (.fl 10 (.fl 11 .done)))))))))))))
 (.cond (.t 31)
  (.seq (.reg [⟨(some 32), none, .mov (.t 0)⟩,
    ⟨(some 4), none, .mov (.t 32)⟩])
  .ret)
  .skip))
 (.seq (.draw [⟨(some 33), none, .bslice 24 0 [] []⟩,
   ⟨(some 34), none, .mov (.t 0)⟩,
   ⟨(some 35), none, .mov (.t 5)⟩,
   ⟨(some 36), none, .slice (some 2) (.t 34) none (some (.t 35))⟩,
   ⟨(some 37), none, .append 24 2 16 [(.int .i64 0), (.int .i64 0)] (.t 33) (.t 36)⟩,
   ⟨(some 38), none, .load (some 2) (.t 3)⟩,
   ⟨(some 39), none, .bslice 24 1 [(.int .i64 0), (.int .i64 0)] [(0, 2, (.t 38))]⟩,
   ⟨(some 40), none, .append 24 2 16 [(.int .i64 0), (.int .i64 0)] (.t 37) (.t 39)⟩,
   ⟨(some 41), none, .mov (.t 0)⟩,
   ⟨(some 42), none, .mov (.t 5)⟩,
   ⟨(some 43), none, .slice (some 2) (.t 41) (some (.t 42)) none⟩,
   ⟨(some 44), none, .append 24 2 16 [(.int .i64 0), (.int .i64 0)] (.t 40) (.t 43)⟩,
   ⟨(some 4), none, .mov (.t 44)⟩]
   (.fl 1 (.fl 2 (.fl 3 (.fr 5 (.fl 8 (.fl 9 (.fl 10 (.br (.st 0 [5] (.br (.st 4 [5] (.st 6 [] (.st 7 [] (.st 11 [] (.fl 12 .done))))) (.st 6 [] (.st 4 [] (.st 7 [] (.st 11 [] (.fl 12 .done))))))) (.st 6 [] (.st 0 [] (.st 4 [] (.st 7 [] (.st 11 [] (.fl 12 .done)))))))))))))))
 .ret)))))
theorem i_rostrumref7_insert : Is Try.prog 43 45 [.t 4] c_rostrumref7_insert := ⟨Try.f43, _, p_rostrumref7_insert, rfl, rfl, by kernel_rfl, by kernel_rfl, rfl⟩
def p_rostrumref7_Dots_close : List (Nat × Pl) := [(5, (.fl 0 (.fr 1 (.fl 2 (.fl 3 (.fr 4 (.fr 5 (.fl 6 (.fr 7 (.fr 8 (.fl 9 (.fl 10 (.fl 11 .done))))))))))))), (6, (.fl 0 (.fl 1 (.fr 2 (.fl 3 (.fr 4 (.fr 5 (.fl 6 (.fr 7 (.st 8 [] .done)))))))))), (7, (.fl 0 (.fr 1 (.fl 2 (.fl 3 (.fr 4 (.fr 5 (.fl 6 (.fr 7 (.fr 8 (.fl 9 (.fl 10 .done))))))))))))]
def c_rostrumref7_Dots_close : VCode :=
 (.seq (.reg [⟨(some 2), none, .mov (.c (.raw (.slice none 0 0)))⟩])
 (.seq (.seq (.reg [⟨(some 3), none, .mov (.c (.raw (.int .i64 0)))⟩])
 (.block 0 (.loop (.seq (.seq (.reg [⟨(some 5), none, .mov (.t 3)⟩,
    ⟨(some 6), none, .mov (.t 0)⟩,
    ⟨(some 7), none, .nilck (.t 6)⟩,
    ⟨(some 8), none, .faddr 7 (.t 7)⟩,
    ⟨(some 9), none, .load none (.t 8)⟩,
    ⟨(some 10), none, .len .sl (.t 9)⟩,
    ⟨(some 11), none, .bin .lss .no (.t 5) (.t 10)⟩])
  (.cond (.t 11)
   .skip
   (.exit 0)))
  (.seq (.block 1 (.seq (.reg [⟨(some 14), none, .mov (.t 0)⟩,
    ⟨(some 15), none, .nilck (.t 14)⟩,
    ⟨(some 16), none, .faddr 7 (.t 15)⟩,
    ⟨(some 17), none, .load none (.t 16)⟩,
    ⟨(some 18), none, .mov (.t 3)⟩,
    ⟨(some 19), none, .iaddr 2 none (.t 17) (.t 18)⟩,
    ⟨(some 20), none, .load (some 2) (.t 19)⟩,
    ⟨(some 4), none, .new 24 [(.int .i64 0), (.int .i64 0)]⟩,
    ⟨none, none, .store (some 2) (.t 4) (.t 20)⟩])
  (.block 2 (.seq (.draw [⟨(some 22), none, .faddr 1 (.t 4)⟩,
    ⟨(some 23), none, .load none (.t 22)⟩,
    ⟨(some 24), none, .mov (.t 0)⟩,
    ⟨(some 25), none, .faddr 0 (.t 4)⟩,
    ⟨(some 26), none, .load none (.t 25)⟩,
    ⟨(some 27), none, .nilck (.t 24)⟩,
    ⟨(some 28), none, .faddr 0 (.t 27)⟩,
    ⟨(some 29), none, .iaddr 1 (some 7) (.t 28) (.t 26)⟩,
    ⟨(some 30), none, .load none (.t 29)⟩,
    ⟨(some 31), none, .bin .add .no (.t 30) (.c (.raw (.int .i64 1)))⟩,
    ⟨(some 32), none, .bin .eql .no (.t 23) (.t 31)⟩,
    ⟨(some 21), none, .mov (.t 32)⟩]
    (.fl 0 (.fr 1 (.fl 2 (.fl 3 (.fr 4 (.fr 5 (.fl 6 (.fr 7 (.fr 8 (.fl 9 (.fl 10 (.fl 11 .done)))))))))))))
  (.cond (.t 21)
   (.draw [⟨(some 33), none, .mov (.t 0)⟩,
     ⟨(some 34), none, .faddr 0 (.t 4)⟩,
     ⟨(some 35), none, .load none (.t 34)⟩,
     ⟨(some 36), none, .faddr 1 (.t 4)⟩,
     ⟨(some 37), none, .load none (.t 36)⟩,
     ⟨(some 38), none, .nilck (.t 33)⟩,
     ⟨(some 39), none, .faddr 0 (.t 38)⟩,
     ⟨(some 40), none, .iaddr 1 (some 7) (.t 39) (.t 35)⟩,
     ⟨none, none, .store none (.t 40) (.t 37)⟩]
     (.fl 0 (.fl 1 (.fr 2 (.fl 3 (.fr 4 (.fr 5 (.fl 6 (.fr 7 (.st 8 [] .done))))))))))
   (.seq (.draw [⟨(some 42), none, .faddr 1 (.t 4)⟩,
     ⟨(some 43), none, .load none (.t 42)⟩,
     ⟨(some 44), none, .mov (.t 0)⟩,
     ⟨(some 45), none, .faddr 0 (.t 4)⟩,
     ⟨(some 46), none, .load none (.t 45)⟩,
     ⟨(some 47), none, .nilck (.t 44)⟩,
     ⟨(some 48), none, .faddr 0 (.t 47)⟩,
     ⟨(some 49), none, .iaddr 1 (some 7) (.t 48) (.t 46)⟩,
     ⟨(some 50), none, .load none (.t 49)⟩,
     ⟨(some 51), none, .bin .gtr .no (.t 43) (.t 50)⟩,
     ⟨(some 41), none, .mov (.t 51)⟩]
     (.fl 0 (.fr 1 (.fl 2 (.fl 3 (.fr 4 (.fr 5 (.fl 6 (.fr 7 (.fr 8 (.fl 9 (.fl 10 .done))))))))))))
   (.cond (.t 41)
    (.reg [⟨(some 52), none, .mov (.t 2)⟩,
      ⟨(some 53), none, .load (some 2) (.t 4)⟩,
      ⟨(some 54), none, .bslice 24 1 [(.int .i64 0), (.int .i64 0)] [(0, 2, (.t 53))]⟩,
      ⟨(some 55), none, .append 24 2 16 [(.int .i64 0), (.int .i64 0)] (.t 52) (.t 54)⟩,
      ⟨(some 2), none, .mov (.t 55)⟩])
    .skip)))))))
  (.reg [⟨(some 12), none, .mov (.t 3)⟩,
    ⟨(some 13), none, .bin .add .no (.t 12) (.c (.raw (.int .i64 1)))⟩,
    ⟨(some 3), none, .mov (.t 13)⟩]))))))
 (.reg [⟨(some 56), none, .mov (.t 0)⟩,
   ⟨(some 57), none, .mov (.t 2)⟩,
   ⟨(some 58), none, .nilck (.t 56)⟩,
   ⟨(some 59), none, .faddr 7 (.t 58)⟩,
   ⟨none, none, .store none (.t 59) (.t 57)⟩])))
theorem i_rostrumref7_Dots_close : Is Try.prog 44 60 [] c_rostrumref7_Dots_close := ⟨Try.f44, _, p_rostrumref7_Dots_close, rfl, rfl, by kernel_rfl, by kernel_rfl, rfl⟩
def p_rostrumref7_Has : List (Nat × Pl) := [(1, (.fl 0 (.fr 1 (.fl 2 (.fl 3 (.fl 4 (.fr 5 (.fl 6 (.fl 7 (.fl 8 (.fl 9 (.fr 10 (.fl 11 (.fl 12 (.fl 13 (.fl 14 (.fr 15 (.fl 16 (.fr 17 (.fr 18 (.fr 19 (.fl 20 (.fl 21 (.fl 22 .done))))))))))))))))))))))))]
def c_rostrumref7_Has : VCode :=
 (.seq (.reg [⟨(some 2), none, .box 43 (.t 0)⟩,
   ⟨(some 3), none, .box 24 (.t 1)⟩,
   ⟨(some 4), none, .mov (.c (.kb false))⟩])
 (.seq (.draw [⟨(some 5), none, .faddr 0 (.t 3)⟩,
   ⟨(some 6), none, .load none (.t 5)⟩,
   ⟨(some 7), none, .bin .geq .no (.t 6) (.c (.raw (.int .i64 0)))⟩,
   ⟨(some 8), none, .mov (.t 7)⟩,
   ⟨(some 9), (some (8, true)), .faddr 0 (.t 3)⟩,
   ⟨(some 10), (some (8, true)), .load none (.t 9)⟩,
   ⟨(some 11), (some (8, true)), .bin .lss .no (.t 10) (.c (.raw (.int .i64 7)))⟩,
   ⟨(some 12), none, .pick (.t 8) (.t 11) (.c (.kb false))⟩,
   ⟨(some 13), none, .mov (.t 12)⟩,
   ⟨(some 14), (some (13, true)), .faddr 1 (.t 3)⟩,
   ⟨(some 15), (some (13, true)), .load none (.t 14)⟩,
   ⟨(some 16), (some (13, true)), .bin .geq .no (.t 15) (.c (.raw (.int .i64 1)))⟩,
   ⟨(some 17), none, .pick (.t 13) (.t 16) (.c (.kb false))⟩,
   ⟨(some 18), none, .mov (.t 17)⟩,
   ⟨(some 19), (some (18, true)), .faddr 1 (.t 3)⟩,
   ⟨(some 20), (some (18, true)), .load none (.t 19)⟩,
   ⟨(some 21), (some (18, true)), .faddr 0 (.t 3)⟩,
   ⟨(some 22), (some (18, true)), .load none (.t 21)⟩,
   ⟨(some 23), (some (18, true)), .iaddr 1 (some 7) (.t 2) (.t 22)⟩,
   ⟨(some 24), (some (18, true)), .load none (.t 23)⟩,
   ⟨(some 25), (some (18, true)), .bin .leq .no (.t 20) (.t 24)⟩,
   ⟨(some 26), none, .pick (.t 18) (.t 25) (.c (.kb false))⟩,
   ⟨(some 4), none, .mov (.t 26)⟩]
   (.fl 0 (.fr 1 (.fl 2 (.fl 3 (.fl 4 (.fr 5 (.fl 6 (.fl 7 (.fl 8 (.fl 9 (.fr 10 (.fl 11 (.fl 12 (.fl 13 (.fl 14 (.fr 15 (.fl 16 (.fr 17 (.fr 18 (.fr 19 (.fl 20 (.fl 21 (.fl 22 .done))))))))))))))))))))))))
 .ret))
theorem i_rostrumref7_Has : Is Try.prog 45 27 [.t 4] c_rostrumref7_Has := ⟨Try.f45, _, p_rostrumref7_Has, rfl, rfl, by kernel_rfl, by kernel_rfl, rfl⟩
def p_rostrumref7_in : List (Nat × Pl) := [(4, (.fl 0 (.fl 1 (.fr 2 (.fr 3 (.fr 4 (.fl 5 .done)))))))]
def c_rostrumref7_in : VCode :=
 (.seq (.reg [⟨(some 3), none, .box 24 (.t 1)⟩,
   ⟨(some 4), none, .mov (.c (.kb false))⟩])
 (.seq (.seq (.reg [⟨(some 5), none, .mov (.c (.raw (.int .i64 0)))⟩])
 (.block 0 (.loop (.seq (.seq (.reg [⟨(some 6), none, .mov (.t 5)⟩,
    ⟨(some 7), none, .mov (.t 0)⟩,
    ⟨(some 8), none, .len .sl (.t 7)⟩,
    ⟨(some 9), none, .bin .lss .no (.t 6) (.t 8)⟩])
  (.cond (.t 9)
   .skip
   (.exit 0)))
  (.seq (.block 1 (.seq (.draw [⟨(some 12), none, .mov (.t 0)⟩,
    ⟨(some 13), none, .mov (.t 5)⟩,
    ⟨(some 14), none, .iaddr 2 none (.t 12) (.t 13)⟩,
    ⟨(some 15), none, .load (some 2) (.t 14)⟩,
    ⟨(some 16), none, .load (some 2) (.t 3)⟩,
    ⟨(some 17), none, .bin .eql (.agg [.i, .i]) (.t 15) (.t 16)⟩]
    (.fl 0 (.fl 1 (.fr 2 (.fr 3 (.fr 4 (.fl 5 .done)))))))
  (.cond (.t 17)
   (.seq (.reg [⟨(some 4), none, .mov (.c (.kb true))⟩])
   .ret)
   .skip)))
  (.reg [⟨(some 10), none, .mov (.t 5)⟩,
    ⟨(some 11), none, .bin .add .no (.t 10) (.c (.raw (.int .i64 1)))⟩,
    ⟨(some 5), none, .mov (.t 11)⟩]))))))
 (.seq (.reg [⟨(some 4), none, .mov (.c (.kb false))⟩])
 .ret)))
theorem i_rostrumref7_in : Is Try.prog 46 18 [.t 4] c_rostrumref7_in := ⟨Try.f46, _, p_rostrumref7_in, rfl, rfl, by kernel_rfl, by kernel_rfl, rfl⟩
def p_rostrumref7_Merge : List (Nat × Pl) := [(4, (.fl 0 (.fr 1 (.fr 2 (.fl 3 (.fr 4 (.fr 5 (.fl 6 .done))))))))]
def c_rostrumref7_Merge : VCode :=
 (.seq (.reg [⟨(some 2), none, .box 43 (.t 0)⟩,
   ⟨(some 3), none, .box 43 (.t 1)⟩,
   ⟨(some 4), none, .new 43 [(.int .i64 0), (.int .i64 0), (.int .i64 0), (.int .i64 0), (.int .i64 0), (.int .i64 0), (.int .i64 0)]⟩])
 (.seq (.seq (.reg [⟨(some 5), none, .mov (.c (.raw (.int .i64 0)))⟩])
 (.block 0 (.loop (.seq (.seq (.reg [⟨(some 6), none, .mov (.t 5)⟩,
    ⟨(some 7), none, .bin .lss .no (.t 6) (.c (.raw (.int .i64 7)))⟩])
  (.cond (.t 7)
   .skip
   (.exit 0)))
  (.seq (.block 1 (.seq (.draw [⟨(some 10), none, .mov (.t 5)⟩,
    ⟨(some 11), none, .iaddr 1 (some 7) (.t 3) (.t 10)⟩,
    ⟨(some 12), none, .load none (.t 11)⟩,
    ⟨(some 13), none, .mov (.t 5)⟩,
    ⟨(some 14), none, .iaddr 1 (some 7) (.t 2) (.t 13)⟩,
    ⟨(some 15), none, .load none (.t 14)⟩,
    ⟨(some 16), none, .bin .gtr .no (.t 12) (.t 15)⟩]
    (.fl 0 (.fr 1 (.fr 2 (.fl 3 (.fr 4 (.fr 5 (.fl 6 .done))))))))
  (.cond (.t 16)
   (.reg [⟨(some 17), none, .mov (.t 5)⟩,
     ⟨(some 18), none, .mov (.t 5)⟩,
     ⟨(some 19), none, .iaddr 1 (some 7) (.t 3) (.t 18)⟩,
     ⟨(some 20), none, .load none (.t 19)⟩,
     ⟨(some 21), none, .iaddr 1 (some 7) (.t 2) (.t 17)⟩,
     ⟨none, none, .store none (.t 21) (.t 20)⟩])
   .skip)))
  (.reg [⟨(some 8), none, .mov (.t 5)⟩,
    ⟨(some 9), none, .bin .add .no (.t 8) (.c (.raw (.int .i64 1)))⟩,
    ⟨(some 5), none, .mov (.t 9)⟩]))))))
 (.seq (.reg [⟨(some 22), none, .load (some 7) (.t 2)⟩,
   ⟨none, none, .store (some 7) (.t 4) (.t 22)⟩])
 .ret)))
theorem i_rostrumref7_Merge : Is Try.prog 47 23 [.cell 4 (some 7)] c_rostrumref7_Merge := ⟨Try.f47, _, p_rostrumref7_Merge, rfl, rfl, by kernel_rfl, by kernel_rfl, rfl⟩
def p_pack_Num : List (Nat × Pl) := []
def c_pack_Num : VCode :=
 (.seq (.reg [⟨(some 4), none, .mov (.c (.raw (.slice none 0 0)))⟩])
 (.seq (.reg [⟨(some 7), none, .mov (.t 0)⟩,
   ⟨(some 8), none, .call 52 [(.t 7)]⟩,
   ⟨(some 5), none, .mov (.t 8)⟩])
 (.seq (.reg [⟨(some 9), none, .mov (.t 1)⟩,
   ⟨(some 10), none, .conv (.int .u64) (.t 9)⟩,
   ⟨(some 11), none, .bin .shl .no (.t 10) (.c (.raw (.int .u64 1)))⟩,
   ⟨(some 12), none, .mov (.t 1)⟩,
   ⟨(some 13), none, .bin .shr .no (.t 12) (.c (.raw (.int .u64 63)))⟩,
   ⟨(some 14), none, .conv (.int .u64) (.t 13)⟩,
   ⟨(some 15), none, .bin .xor .no (.t 11) (.t 14)⟩,
   ⟨(some 6), none, .mov (.t 15)⟩])
 (.seq (.block 0 (.loop (.seq (.seq (.reg [⟨(some 16), none, .mov (.t 6)⟩,
    ⟨(some 17), none, .bin .geq .no (.t 16) (.c (.raw (.int .u64 128)))⟩])
  (.cond (.t 17)
   .skip
   (.exit 0)))
  (.seq (.block 1 (.reg [⟨(some 20), none, .mov (.t 5)⟩,
    ⟨(some 21), none, .mov (.t 6)⟩,
    ⟨(some 22), none, .conv (.int .u8) (.t 21)⟩,
    ⟨(some 23), none, .bin .or .no (.t 22) (.c (.raw (.int .u8 128)))⟩,
    ⟨(some 24), none, .bslice 5 1 [(.int .u8 0)] [(0, 1, (.t 23))]⟩,
    ⟨(some 25), none, .append 5 1 1 [(.int .u8 0)] (.t 20) (.t 24)⟩,
    ⟨(some 5), none, .mov (.t 25)⟩]))
  (.reg [⟨(some 18), none, .mov (.t 6)⟩,
    ⟨(some 19), none, .bin .shr .no (.t 18) (.c (.raw (.int .u64 7)))⟩,
    ⟨(some 6), none, .mov (.t 19)⟩])))))
 (.seq (.reg [⟨(some 26), none, .mov (.t 5)⟩,
   ⟨(some 27), none, .mov (.t 6)⟩,
   ⟨(some 28), none, .conv (.int .u8) (.t 27)⟩,
   ⟨(some 29), none, .bslice 5 1 [(.int .u8 0)] [(0, 1, (.t 28))]⟩,
   ⟨(some 30), none, .append 5 1 1 [(.int .u8 0)] (.t 26) (.t 29)⟩,
   ⟨(some 4), none, .mov (.t 30)⟩])
 .ret)))))
theorem i_pack_Num : Is Try.prog 48 31 [.t 4] c_pack_Num := ⟨Try.f48, _, p_pack_Num, rfl, rfl, by kernel_rfl, by kernel_rfl, rfl⟩
def p_vec_Put : List (Nat × Pl) := []
def c_vec_Put : VCode :=
 (.seq (.reg [⟨(some 3), none, .box 33 (.t 1)⟩,
   ⟨(some 4), none, .mov (.c (.raw (.slice none 0 0)))⟩])
 (.seq (.seq (.reg [⟨(some 7), none, .load (some 7) (.t 3)⟩,
   ⟨(some 8), none, .mov (.c (.raw (.int .i64 0)))⟩])
 (.block 0 (.loop (.seq (.reg [⟨(some 9), none, .bin .lss .no (.t 8) (.c (.raw (.int .i64 7)))⟩])
  (.seq (.cond (.t 9)
   .skip
   (.exit 0))
  (.seq (.block 1 (.seq (.reg [⟨(some 10), none, .aindex 7 1 false (.t 7) (.t 8)⟩,
    ⟨(some 6), none, .mov (.t 10)⟩])
  (.reg [⟨(some 11), none, .mov (.t 0)⟩,
    ⟨(some 12), none, .mov (.t 6)⟩,
    ⟨(some 13), none, .call 48 [(.t 11), (.t 12)]⟩,
    ⟨(some 0), none, .mov (.t 13)⟩])))
  (.reg [⟨(some 14), none, .bin .add .no (.t 8) (.c (.raw (.int .i64 1)))⟩,
    ⟨(some 8), none, .mov (.t 14)⟩])))))))
 (.seq (.reg [⟨(some 15), none, .mov (.t 0)⟩,
   ⟨(some 4), none, .mov (.t 15)⟩])
 .ret)))
theorem i_vec_Put : Is Try.prog 49 16 [.t 4] c_vec_Put := ⟨Try.f49, _, p_vec_Put, rfl, rfl, by kernel_rfl, by kernel_rfl, rfl⟩
def p_rostrumref1_Num : List (Nat × Pl) := []
def c_rostrumref1_Num : VCode :=
 (.seq (.reg [⟨(some 4), none, .mov (.c (.raw (.slice none 0 0)))⟩])
 (.seq (.reg [⟨(some 7), none, .mov (.t 1)⟩,
   ⟨(some 8), none, .conv (.int .u64) (.t 7)⟩,
   ⟨(some 9), none, .bin .shl .no (.t 8) (.c (.raw (.int .u64 1)))⟩,
   ⟨(some 5), none, .mov (.t 9)⟩])
 (.seq (.seq (.reg [⟨(some 10), none, .mov (.t 1)⟩,
   ⟨(some 11), none, .bin .lss .no (.t 10) (.c (.raw (.int .i64 0)))⟩])
 (.cond (.t 11)
  (.reg [⟨(some 12), none, .mov (.t 5)⟩,
    ⟨(some 13), none, .un .xor (.t 12)⟩,
    ⟨(some 5), none, .mov (.t 13)⟩])
  .skip))
 (.seq (.reg [⟨(some 14), none, .bslice 5 0 [] []⟩,
   ⟨(some 15), none, .mov (.t 0)⟩,
   ⟨(some 16), none, .append 5 1 1 [(.int .u8 0)] (.t 14) (.t 15)⟩,
   ⟨(some 6), none, .mov (.t 16)⟩])
 (.seq (.block 0 (.loop (.seq (.seq (.reg [⟨(some 17), none, .mov (.t 5)⟩,
    ⟨(some 18), none, .bin .geq .no (.t 17) (.c (.raw (.int .u64 128)))⟩])
  (.cond (.t 18)
   .skip
   (.exit 0)))
  (.block 1 (.seq (.reg [⟨(some 19), none, .mov (.t 6)⟩,
    ⟨(some 20), none, .mov (.t 5)⟩,
    ⟨(some 21), none, .bin .rem .no (.t 20) (.c (.raw (.int .u64 128)))⟩,
    ⟨(some 22), none, .conv (.int .u8) (.t 21)⟩,
    ⟨(some 23), none, .bin .add .no (.t 22) (.c (.raw (.int .u8 128)))⟩,
    ⟨(some 24), none, .bslice 5 1 [(.int .u8 0)] [(0, 1, (.t 23))]⟩,
    ⟨(some 25), none, .append 5 1 1 [(.int .u8 0)] (.t 19) (.t 24)⟩,
    ⟨(some 6), none, .mov (.t 25)⟩])
  (.reg [⟨(some 26), none, .mov (.t 5)⟩,
    ⟨(some 27), none, .bin .quo .no (.t 26) (.c (.raw (.int .u64 128)))⟩,
    ⟨(some 5), none, .mov (.t 27)⟩]))))))
 (.seq (.reg [⟨(some 28), none, .mov (.t 6)⟩,
   ⟨(some 29), none, .mov (.t 5)⟩,
   ⟨(some 30), none, .conv (.int .u8) (.t 29)⟩,
   ⟨(some 31), none, .bslice 5 1 [(.int .u8 0)] [(0, 1, (.t 30))]⟩,
   ⟨(some 32), none, .append 5 1 1 [(.int .u8 0)] (.t 28) (.t 31)⟩,
   ⟨(some 4), none, .mov (.t 32)⟩])
 .ret))))))
theorem i_rostrumref1_Num : Is Try.prog 50 33 [.t 4] c_rostrumref1_Num := ⟨Try.f50, _, p_rostrumref1_Num, rfl, rfl, by kernel_rfl, by kernel_rfl, rfl⟩
def p_rostrumref7_PutVec : List (Nat × Pl) := []
def c_rostrumref7_PutVec : VCode :=
 (.seq (.reg [⟨(some 3), none, .box 43 (.t 1)⟩,
   ⟨(some 4), none, .mov (.c (.raw (.slice none 0 0)))⟩])
 (.seq (.seq (.reg [⟨(some 5), none, .mov (.c (.raw (.int .i64 0)))⟩])
 (.block 0 (.loop (.seq (.seq (.reg [⟨(some 6), none, .mov (.t 5)⟩,
    ⟨(some 7), none, .bin .lss .no (.t 6) (.c (.raw (.int .i64 7)))⟩])
  (.cond (.t 7)
   .skip
   (.exit 0)))
  (.seq (.block 1 (.reg [⟨(some 10), none, .mov (.t 0)⟩,
    ⟨(some 11), none, .mov (.t 5)⟩,
    ⟨(some 12), none, .iaddr 1 (some 7) (.t 3) (.t 11)⟩,
    ⟨(some 13), none, .load none (.t 12)⟩,
    ⟨(some 14), none, .call 50 [(.t 10), (.t 13)]⟩,
    ⟨(some 0), none, .mov (.t 14)⟩]))
  (.reg [⟨(some 8), none, .mov (.t 5)⟩,
    ⟨(some 9), none, .bin .add .no (.t 8) (.c (.raw (.int .i64 1)))⟩,
    ⟨(some 5), none, .mov (.t 9)⟩]))))))
 (.seq (.reg [⟨(some 15), none, .mov (.t 0)⟩,
   ⟨(some 4), none, .mov (.t 15)⟩])
 .ret)))
theorem i_rostrumref7_PutVec : Is Try.prog 51 16 [.t 4] c_rostrumref7_PutVec := ⟨Try.f51, _, p_rostrumref7_PutVec, rfl, rfl, by kernel_rfl, by kernel_rfl, rfl⟩
def p_bytes_Clone : List (Nat × Pl) := []
def c_bytes_Clone : VCode :=
 (.seq (.reg [⟨(some 2), none, .mov (.c (.raw (.slice none 0 0)))⟩])
 (.seq (.seq (.reg [⟨(some 3), none, .mov (.t 0)⟩,
   ⟨(some 4), none, .bin .eql .sl (.t 3) (.c (.raw (.slice none 0 0)))⟩])
 (.cond (.t 4)
  (.seq (.reg [⟨(some 2), none, .mov (.c (.raw (.slice none 0 0)))⟩])
  .ret)
  .skip))
 (.seq (.reg [⟨(some 5), none, .bslice 5 0 [] []⟩,
   ⟨(some 6), none, .mov (.t 0)⟩,
   ⟨(some 7), none, .append 5 1 1 [(.int .u8 0)] (.t 5) (.t 6)⟩,
   ⟨(some 2), none, .mov (.t 7)⟩])
 .ret)))
theorem i_bytes_Clone : Is Try.prog 52 8 [.t 2] c_bytes_Clone := ⟨Try.f52, _, p_bytes_Clone, rfl, rfl, by kernel_rfl, by kernel_rfl, rfl⟩
def p_vec_Get : List (Nat × Pl) := []
def c_vec_Get : VCode :=
 (.seq (.reg [⟨(some 2), none, .new 33 [(.int .i64 0), (.int .i64 0), (.int .i64 0), (.int .i64 0), (.int .i64 0), (.int .i64 0), (.int .i64 0)]⟩])
 (.seq (.reg [⟨(some 3), none, .new 33 [(.int .i64 0), (.int .i64 0), (.int .i64 0), (.int .i64 0), (.int .i64 0), (.int .i64 0), (.int .i64 0)]⟩])
 (.seq (.seq (.reg [⟨(some 5), none, .mov (.c (.raw (.int .i64 0)))⟩])
 (.block 0 (.loop (.seq (.reg [⟨(some 6), none, .bin .lss .no (.t 5) (.c (.raw (.int .i64 7)))⟩])
  (.seq (.cond (.t 6)
   .skip
   (.exit 0))
  (.seq (.block 1 (.seq (.reg [⟨(some 7), none, .mov (.t 5)⟩,
    ⟨(some 4), none, .mov (.t 7)⟩])
  (.reg [⟨(some 8), none, .mov (.t 4)⟩,
    ⟨(some 9), none, .mov (.t 0)⟩,
    ⟨(some 10), none, .call 54 [(.t 9), (.c (.raw (.int .i64 0))), (.c (.raw (.int .i64 1099511627776)))]⟩,
    ⟨(some 11), none, .iaddr 1 (some 7) (.t 3) (.t 8)⟩,
    ⟨none, none, .store none (.t 11) (.t 10)⟩])))
  (.reg [⟨(some 12), none, .bin .add .no (.t 5) (.c (.raw (.int .i64 1)))⟩,
    ⟨(some 5), none, .mov (.t 12)⟩])))))))
 (.seq (.seq (.reg [⟨(some 13), none, .mov (.t 0)⟩,
   ⟨(some 14), none, .call 55 [(.t 13)]⟩])
 (.cond (.t 14)
  (.seq (.reg [⟨(some 15), none, .build [(.int .i64 0), (.int .i64 0), (.int .i64 0), (.int .i64 0), (.int .i64 0), (.int .i64 0), (.int .i64 0)] []⟩,
    ⟨none, none, .store (some 7) (.t 2) (.t 15)⟩])
  .ret)
  .skip))
 (.seq (.reg [⟨(some 16), none, .load (some 7) (.t 3)⟩,
   ⟨none, none, .store (some 7) (.t 2) (.t 16)⟩])
 .ret)))))
theorem i_vec_Get : Is Try.prog 53 17 [.cell 2 (some 7)] c_vec_Get := ⟨Try.f53, _, p_vec_Get, rfl, rfl, by kernel_rfl, by kernel_rfl, rfl⟩
def p_pack_Reader_Num : List (Nat × Pl) := [(2, (.fl 0 (.fr 1 (.fl 2 (.fr 3 (.fl 4 (.fr 5 (.fl 6 (.fr 7 (.fl 8 (.fl 9 (.fl 10 (.fl 11 (.fl 12 .done))))))))))))))]
def c_pack_Reader_Num : VCode :=
 (.seq (.reg [⟨(some 6), none, .mov (.c (.raw (.int .i64 0)))⟩])
 (.seq (.reg [⟨(some 7), none, .mov (.c (.raw (.int .u64 0)))⟩])
 (.seq (.seq (.draw [⟨(some 11), none, .mov (.t 0)⟩,
   ⟨(some 12), none, .nilck (.t 11)⟩,
   ⟨(some 13), none, .faddr 0 (.t 12)⟩,
   ⟨(some 14), none, .load none (.t 13)⟩,
   ⟨(some 15), none, .mov (.t 0)⟩,
   ⟨(some 16), none, .nilck (.t 15)⟩,
   ⟨(some 17), none, .faddr 0 (.t 16)⟩,
   ⟨(some 18), none, .load none (.t 17)⟩,
   ⟨(some 19), none, .len .sl (.t 18)⟩,
   ⟨(some 20), none, .min (.t 19) (.c (.raw (.int .i64 10)))⟩,
   ⟨(some 21), none, .slice (some 1) (.t 14) none (some (.t 20))⟩,
   ⟨(some 22), none, .len .sl (.t 21)⟩,
   ⟨(some 23), none, .mov (.c (.raw (.int .i64 0)))⟩]
   (.fl 0 (.fr 1 (.fl 2 (.fr 3 (.fl 4 (.fr 5 (.fl 6 (.fr 7 (.fl 8 (.fl 9 (.fl 10 (.fl 11 (.fl 12 .done))))))))))))))
 (.block 0 (.loop (.seq (.reg [⟨(some 24), none, .bin .lss .no (.t 23) (.t 22)⟩])
  (.seq (.cond (.t 24)
   .skip
   (.exit 0))
  (.seq (.block 1 (.seq (.reg [⟨(some 25), none, .mov (.t 23)⟩,
    ⟨(some 26), none, .iaddr 1 none (.t 21) (.t 23)⟩,
    ⟨(some 27), none, .load none (.t 26)⟩,
    ⟨(some 8), none, .mov (.t 25)⟩,
    ⟨(some 9), none, .mov (.t 27)⟩])
  (.seq (.reg [⟨(some 28), none, .mov (.t 7)⟩,
    ⟨(some 29), none, .mov (.t 9)⟩,
    ⟨(some 30), none, .bin .andNot .no (.t 29) (.c (.raw (.int .u8 128)))⟩,
    ⟨(some 31), none, .conv (.int .u64) (.t 30)⟩,
    ⟨(some 32), none, .mov (.t 8)⟩,
    ⟨(some 33), none, .bin .mul .no (.c (.raw (.int .i64 7))) (.t 32)⟩,
    ⟨(some 34), none, .bin .shl .no (.t 31) (.t 33)⟩,
    ⟨(some 35), none, .bin .or .no (.t 28) (.t 34)⟩,
    ⟨(some 7), none, .mov (.t 35)⟩])
  (.seq (.seq (.reg [⟨(some 36), none, .mov (.t 9)⟩,
    ⟨(some 37), none, .bin .and .no (.t 36) (.c (.raw (.int .u8 128)))⟩,
    ⟨(some 38), none, .bin .neq .no (.t 37) (.c (.raw (.int .u8 0)))⟩])
  (.cond (.t 38)
   (.exit 1)
   .skip))
  (.seq (.reg [⟨(some 39), none, .mov (.t 7)⟩,
    ⟨(some 40), none, .bin .shr .no (.t 39) (.c (.raw (.int .u64 1)))⟩,
    ⟨(some 41), none, .conv (.int .i64) (.t 40)⟩,
    ⟨(some 42), none, .mov (.t 7)⟩,
    ⟨(some 43), none, .bin .and .no (.t 42) (.c (.raw (.int .u64 1)))⟩,
    ⟨(some 44), none, .conv (.int .i64) (.t 43)⟩,
    ⟨(some 45), none, .un .neg (.t 44)⟩,
    ⟨(some 46), none, .bin .xor .no (.t 41) (.t 45)⟩,
    ⟨(some 10), none, .mov (.t 46)⟩])
  (.seq (.seq (.reg [⟨(some 47), none, .mov (.t 8)⟩,
    ⟨(some 48), none, .bin .gtr .no (.t 47) (.c (.raw (.int .i64 0)))⟩,
    ⟨(some 49), none, .mov (.t 48)⟩,
    ⟨(some 50), (some (49, true)), .mov (.t 9)⟩,
    ⟨(some 51), (some (49, true)), .bin .eql .no (.t 50) (.c (.raw (.int .u8 0)))⟩,
    ⟨(some 52), none, .pick (.t 49) (.t 51) (.c (.kb false))⟩,
    ⟨(some 53), none, .mov (.t 52)⟩,
    ⟨(some 54), (some (53, false)), .mov (.t 8)⟩,
    ⟨(some 55), (some (53, false)), .bin .eql .no (.t 54) (.c (.raw (.int .i64 9)))⟩,
    ⟨(some 56), (some (53, false)), .mov (.t 55)⟩,
    ⟨(some 57), (some (56, true)), .mov (.t 9)⟩,
    ⟨(some 58), (some (56, true)), .bin .gtr .no (.t 57) (.c (.raw (.int .u8 1)))⟩,
    ⟨(some 59), (some (53, false)), .pick (.t 56) (.t 58) (.c (.kb false))⟩,
    ⟨(some 60), none, .pick (.t 53) (.c (.kb true)) (.t 59)⟩,
    ⟨(some 61), none, .mov (.t 60)⟩,
    ⟨(some 62), (some (61, false)), .mov (.t 10)⟩,
    ⟨(some 63), (some (61, false)), .mov (.t 1)⟩,
    ⟨(some 64), (some (61, false)), .bin .lss .no (.t 62) (.t 63)⟩,
    ⟨(some 65), none, .pick (.t 61) (.c (.kb true)) (.t 64)⟩,
    ⟨(some 66), none, .mov (.t 65)⟩,
    ⟨(some 67), (some (66, false)), .mov (.t 10)⟩,
    ⟨(some 68), (some (66, false)), .mov (.t 2)⟩,
    ⟨(some 69), (some (66, false)), .bin .gtr .no (.t 67) (.t 68)⟩,
    ⟨(some 70), none, .pick (.t 66) (.c (.kb true)) (.t 69)⟩])
  (.cond (.t 70)
   (.seq (.reg [⟨(some 71), none, .mov (.t 0)⟩,
     ⟨(some 72), none, .call 66 [(.t 71)]⟩,
     ⟨(some 6), none, .mov (.t 72)⟩])
   .ret)
   .skip))
  (.seq (.reg [⟨(some 73), none, .mov (.t 0)⟩,
    ⟨(some 74), none, .mov (.t 0)⟩,
    ⟨(some 75), none, .nilck (.t 74)⟩,
    ⟨(some 76), none, .faddr 0 (.t 75)⟩,
    ⟨(some 77), none, .load none (.t 76)⟩,
    ⟨(some 78), none, .mov (.t 8)⟩,
    ⟨(some 79), none, .bin .add .no (.t 78) (.c (.raw (.int .i64 1)))⟩,
    ⟨(some 80), none, .slice (some 1) (.t 77) (some (.t 79)) none⟩,
    ⟨(some 81), none, .nilck (.t 73)⟩,
    ⟨(some 82), none, .faddr 0 (.t 81)⟩,
    ⟨none, none, .store none (.t 82) (.t 80)⟩])
  (.seq (.reg [⟨(some 83), none, .mov (.t 10)⟩,
    ⟨(some 6), none, .mov (.t 83)⟩])
  .ret))))))))
  (.reg [⟨(some 84), none, .bin .add .no (.t 23) (.c (.raw (.int .i64 1)))⟩,
    ⟨(some 23), none, .mov (.t 84)⟩])))))))
 (.seq (.reg [⟨(some 85), none, .mov (.t 0)⟩,
   ⟨(some 86), none, .call 66 [(.t 85)]⟩,
   ⟨(some 6), none, .mov (.t 86)⟩])
 .ret))))
theorem i_pack_Reader_Num : Is Try.prog 54 87 [.t 6] c_pack_Reader_Num := ⟨Try.f54, _, p_pack_Reader_Num, rfl, rfl, by kernel_rfl, by kernel_rfl, rfl⟩
def p_pack_Reader_Bad : List (Nat × Pl) := []
def c_pack_Reader_Bad : VCode :=
 (.seq (.reg [⟨(some 2), none, .mov (.c (.kb false))⟩])
 (.seq (.reg [⟨(some 3), none, .mov (.t 0)⟩,
   ⟨(some 4), none, .nilck (.t 3)⟩,
   ⟨(some 5), none, .faddr 1 (.t 4)⟩,
   ⟨(some 6), none, .load none (.t 5)⟩,
   ⟨(some 2), none, .mov (.t 6)⟩])
 .ret))
theorem i_pack_Reader_Bad : Is Try.prog 55 7 [.t 2] c_pack_Reader_Bad := ⟨Try.f55, _, p_pack_Reader_Bad, rfl, rfl, by kernel_rfl, by kernel_rfl, rfl⟩
def p_rostrumref7_GetVec : List (Nat × Pl) := []
def c_rostrumref7_GetVec : VCode :=
 (.seq (.reg [⟨(some 2), none, .new 43 [(.int .i64 0), (.int .i64 0), (.int .i64 0), (.int .i64 0), (.int .i64 0), (.int .i64 0), (.int .i64 0)]⟩])
 (.seq (.reg [⟨(some 5), none, .build [(.int .i64 0), (.int .i64 0), (.int .i64 0), (.int .i64 0), (.int .i64 0), (.int .i64 0), (.int .i64 0)] []⟩,
   ⟨(some 3), none, .new 43 [(.int .i64 0), (.int .i64 0), (.int .i64 0), (.int .i64 0), (.int .i64 0), (.int .i64 0), (.int .i64 0)]⟩,
   ⟨none, none, .store (some 7) (.t 3) (.t 5)⟩])
 (.seq (.seq (.reg [⟨(some 4), none, .mov (.c (.raw (.int .i64 0)))⟩])
 (.block 0 (.loop (.seq (.seq (.reg [⟨(some 6), none, .mov (.t 4)⟩,
    ⟨(some 7), none, .bin .lss .no (.t 6) (.c (.raw (.int .i64 7)))⟩])
  (.cond (.t 7)
   .skip
   (.exit 0)))
  (.seq (.block 1 (.reg [⟨(some 10), none, .mov (.t 4)⟩,
    ⟨(some 11), none, .mov (.t 0)⟩,
    ⟨(some 12), none, .call 57 [(.t 11), (.c (.raw (.int .i64 0))), (.c (.raw (.int .i64 1099511627776)))]⟩,
    ⟨(some 13), none, .iaddr 1 (some 7) (.t 3) (.t 10)⟩,
    ⟨none, none, .store none (.t 13) (.t 12)⟩]))
  (.reg [⟨(some 8), none, .mov (.t 4)⟩,
    ⟨(some 9), none, .bin .add .no (.t 8) (.c (.raw (.int .i64 1)))⟩,
    ⟨(some 4), none, .mov (.t 9)⟩]))))))
 (.seq (.seq (.reg [⟨(some 14), none, .mov (.t 0)⟩,
   ⟨(some 15), none, .nilck (.t 14)⟩,
   ⟨(some 16), none, .faddr 2 (.t 15)⟩,
   ⟨(some 17), none, .load none (.t 16)⟩])
 (.cond (.t 17)
  (.seq (.reg [⟨(some 18), none, .build [(.int .i64 0), (.int .i64 0), (.int .i64 0), (.int .i64 0), (.int .i64 0), (.int .i64 0), (.int .i64 0)] []⟩,
    ⟨none, none, .store (some 7) (.t 2) (.t 18)⟩])
  .ret)
  .skip))
 (.seq (.reg [⟨(some 19), none, .load (some 7) (.t 3)⟩,
   ⟨none, none, .store (some 7) (.t 2) (.t 19)⟩])
 .ret)))))
theorem i_rostrumref7_GetVec : Is Try.prog 56 20 [.cell 2 (some 7)] c_rostrumref7_GetVec := ⟨Try.f56, _, p_rostrumref7_GetVec, rfl, rfl, by kernel_rfl, by kernel_rfl, rfl⟩
def p_rostrumref1_Reader_Num : List (Nat × Pl) := []
def c_rostrumref1_Reader_Num : VCode :=
 (.seq (.reg [⟨(some 6), none, .mov (.c (.raw (.int .i64 0)))⟩])
 (.seq (.seq (.reg [⟨(some 10), none, .mov (.t 0)⟩,
   ⟨(some 11), none, .nilck (.t 10)⟩,
   ⟨(some 12), none, .faddr 2 (.t 11)⟩,
   ⟨(some 13), none, .load none (.t 12)⟩])
 (.cond (.t 13)
  (.seq (.reg [⟨(some 6), none, .mov (.c (.raw (.int .i64 0)))⟩])
  .ret)
  .skip))
 (.seq (.reg [⟨(some 15), none, .mov (.t 0)⟩,
   ⟨(some 16), none, .call 67 [(.t 15)]⟩,
   ⟨(some 14), none, .mov (.t 16)⟩,
   ⟨(some 17), none, .extr (.t 14) 0⟩,
   ⟨(some 18), none, .extr (.t 14) 1⟩,
   ⟨(some 7), none, .mov (.t 17)⟩,
   ⟨(some 8), none, .mov (.t 18)⟩])
 (.seq (.reg [⟨(some 19), none, .mov (.t 7)⟩,
   ⟨(some 20), none, .bin .shr .no (.t 19) (.c (.raw (.int .u64 1)))⟩,
   ⟨(some 21), none, .conv (.int .i64) (.t 20)⟩,
   ⟨(some 9), none, .mov (.t 21)⟩])
 (.seq (.seq (.reg [⟨(some 22), none, .mov (.t 7)⟩,
   ⟨(some 23), none, .bin .and .no (.t 22) (.c (.raw (.int .u64 1)))⟩,
   ⟨(some 24), none, .bin .eql .no (.t 23) (.c (.raw (.int .u64 1)))⟩])
 (.cond (.t 24)
  (.reg [⟨(some 25), none, .mov (.t 9)⟩,
    ⟨(some 26), none, .bin .sub .no (.c (.raw (.int .i64 (-1)))) (.t 25)⟩,
    ⟨(some 9), none, .mov (.t 26)⟩])
  .skip))
 (.seq (.seq (.reg [⟨(some 27), none, .mov (.t 8)⟩,
   ⟨(some 28), none, .un .not (.t 27)⟩,
   ⟨(some 29), none, .mov (.t 28)⟩,
   ⟨(some 30), (some (29, false)), .mov (.t 9)⟩,
   ⟨(some 31), (some (29, false)), .mov (.t 1)⟩,
   ⟨(some 32), (some (29, false)), .bin .lss .no (.t 30) (.t 31)⟩,
   ⟨(some 33), none, .pick (.t 29) (.c (.kb true)) (.t 32)⟩,
   ⟨(some 34), none, .mov (.t 33)⟩,
   ⟨(some 35), (some (34, false)), .mov (.t 9)⟩,
   ⟨(some 36), (some (34, false)), .mov (.t 2)⟩,
   ⟨(some 37), (some (34, false)), .bin .gtr .no (.t 35) (.t 36)⟩,
   ⟨(some 38), none, .pick (.t 34) (.c (.kb true)) (.t 37)⟩])
 (.cond (.t 38)
  (.seq (.reg [⟨(some 39), none, .mov (.t 0)⟩,
    ⟨(some 40), none, .nilck (.t 39)⟩,
    ⟨(some 41), none, .faddr 2 (.t 40)⟩,
    ⟨none, none, .store none (.t 41) (.c (.kb true))⟩])
  (.seq (.reg [⟨(some 6), none, .mov (.c (.raw (.int .i64 0)))⟩])
  .ret))
  .skip))
 (.seq (.reg [⟨(some 42), none, .mov (.t 9)⟩,
   ⟨(some 6), none, .mov (.t 42)⟩])
 .ret)))))))
theorem i_rostrumref1_Reader_Num : Is Try.prog 57 43 [.t 6] c_rostrumref1_Reader_Num := ⟨Try.f57, _, p_rostrumref1_Reader_Num, rfl, rfl, by kernel_rfl, by kernel_rfl, rfl⟩
def p_rostrumref7_Less : List (Nat × Pl) := []
def c_rostrumref7_Less : VCode :=
 (.seq (.reg [⟨(some 2), none, .box 24 (.t 0)⟩,
   ⟨(some 3), none, .box 24 (.t 1)⟩,
   ⟨(some 4), none, .mov (.c (.kb false))⟩])
 (.seq (.reg [⟨(some 5), none, .faddr 0 (.t 2)⟩,
   ⟨(some 6), none, .load none (.t 5)⟩,
   ⟨(some 7), none, .faddr 0 (.t 3)⟩,
   ⟨(some 8), none, .load none (.t 7)⟩,
   ⟨(some 9), none, .bin .lss .no (.t 6) (.t 8)⟩,
   ⟨(some 10), none, .mov (.t 9)⟩,
   ⟨(some 11), (some (10, false)), .faddr 0 (.t 2)⟩,
   ⟨(some 12), (some (10, false)), .load none (.t 11)⟩,
   ⟨(some 13), (some (10, false)), .faddr 0 (.t 3)⟩,
   ⟨(some 14), (some (10, false)), .load none (.t 13)⟩,
   ⟨(some 15), (some (10, false)), .bin .eql .no (.t 12) (.t 14)⟩,
   ⟨(some 16), (some (10, false)), .mov (.t 15)⟩,
   ⟨(some 17), (some (16, true)), .faddr 1 (.t 2)⟩,
   ⟨(some 18), (some (16, true)), .load none (.t 17)⟩,
   ⟨(some 19), (some (16, true)), .faddr 1 (.t 3)⟩,
   ⟨(some 20), (some (16, true)), .load none (.t 19)⟩,
   ⟨(some 21), (some (16, true)), .bin .lss .no (.t 18) (.t 20)⟩,
   ⟨(some 22), (some (10, false)), .pick (.t 16) (.t 21) (.c (.kb false))⟩,
   ⟨(some 23), none, .pick (.t 10) (.c (.kb true)) (.t 22)⟩,
   ⟨(some 4), none, .mov (.t 23)⟩])
 .ret))
theorem i_rostrumref7_Less : Is Try.prog 58 24 [.t 4] c_rostrumref7_Less := ⟨Try.f58, _, p_rostrumref7_Less, rfl, rfl, by kernel_rfl, by kernel_rfl, rfl⟩
def p_slices_Collect_api_Dot : List (Nat × Pl) := []
def c_slices_Collect_api_Dot : VCode :=
 (.seq (.reg [⟨(some 2), none, .mov (.c (.raw (.slice none 0 0)))⟩])
 (.seq (.reg [⟨(some 3), none, .mov (.t 0)⟩,
   ⟨(some 4), none, .call 68 [(.c (.raw (.slice none 0 0))), (.t 3)]⟩,
   ⟨(some 2), none, .mov (.t 4)⟩])
 .ret))
theorem i_slices_Collect_api_Dot : Is Try.prog 59 5 [.t 2] c_slices_Collect_api_Dot := ⟨Try.f59, _, p_slices_Collect_api_Dot, rfl, rfl, by kernel_rfl, by kernel_rfl, rfl⟩
def p_slices_SortFunc_sl_api_Dot_api_Dot : List (Nat × Pl) := []
def c_slices_SortFunc_sl_api_Dot_api_Dot : VCode :=
 (.seq (.reg [⟨(some 5), none, .mov (.t 0)⟩,
   ⟨(some 6), none, .len .sl (.t 5)⟩,
   ⟨(some 4), none, .mov (.t 6)⟩])
 (.reg [⟨(some 7), none, .mov (.t 0)⟩,
   ⟨(some 8), none, .mov (.t 4)⟩,
   ⟨(some 9), none, .mov (.t 4)⟩,
   ⟨(some 10), none, .conv (.int .u64) (.t 9)⟩,
   ⟨(some 11), none, .call 70 [(.t 10)]⟩,
   ⟨(some 12), none, .mov (.t 1)⟩,
   ⟨(some 13), none, .call 69 [(.t 7), (.c (.raw (.int .i64 0))), (.t 8), (.t 11), (.t 12)]⟩]))
theorem i_slices_SortFunc_sl_api_Dot_api_Dot : Is Try.prog 60 14 [] c_slices_SortFunc_sl_api_Dot_api_Dot := ⟨Try.f60, _, p_slices_SortFunc_sl_api_Dot_api_Dot, rfl, rfl, by kernel_rfl, by kernel_rfl, rfl⟩
def p_maps_Keys_map_api_Dot_bool_api_Dot_bool_1 : List (Nat × Pl) := []
def c_maps_Keys_map_api_Dot_bool_api_Dot_bool_1 : VCode :=
 (.seq (.reg [⟨(some 4), none, .load none (.t 1)⟩,
   ⟨(some 5), none, .range false (.t 4)⟩])
 (.block 0 (.loop (.seq (.reg [⟨(some 6), none, .next false (.t 5)⟩,
    ⟨(some 7), none, .extr (.t 6) 0⟩])
  (.seq (.cond (.t 7)
   .skip
   (.exit 0))
  (.block 1 (.seq (.reg [⟨(some 8), none, .entry (.t 5)⟩,
    ⟨(some 9), none, .extr (.t 8) 0⟩,
    ⟨(some 3), none, .new 24 [(.int .i64 0), (.int .i64 0)]⟩,
    ⟨none, none, .store (some 2) (.t 3) (.t 9)⟩])
  (.seq (.reg [⟨(some 10), none, .mov (.t 0)⟩,
    ⟨(some 11), none, .load (some 2) (.t 3)⟩,
    ⟨(some 12), none, .callv (.t 10) [(.t 11)]⟩,
    ⟨(some 13), none, .un .not (.t 12)⟩])
  (.cond (.t 13)
   .ret
   .skip)))))))))
theorem i_maps_Keys_map_api_Dot_bool_api_Dot_bool_1 : Is Try.prog 61 14 [] c_maps_Keys_map_api_Dot_bool_api_Dot_bool_1 := ⟨Try.f61, _, p_maps_Keys_map_api_Dot_bool_api_Dot_bool_1, rfl, rfl, by kernel_rfl, by kernel_rfl, rfl⟩
def p_cmp_Or_int : List (Nat × Pl) := []
def c_cmp_Or_int : VCode :=
 (.seq (.reg [⟨(some 2), none, .mov (.c (.raw (.int .i64 0)))⟩])
 (.seq (.reg [⟨(some 3), none, .mov (.c (.raw (.int .i64 0)))⟩])
 (.seq (.seq (.reg [⟨(some 6), none, .mov (.t 0)⟩,
   ⟨(some 7), none, .len .sl (.t 6)⟩,
   ⟨(some 8), none, .mov (.c (.raw (.int .i64 0)))⟩])
 (.block 0 (.loop (.seq (.reg [⟨(some 9), none, .bin .lss .no (.t 8) (.t 7)⟩])
  (.seq (.cond (.t 9)
   .skip
   (.exit 0))
  (.seq (.block 1 (.seq (.reg [⟨(some 10), none, .iaddr 1 none (.t 6) (.t 8)⟩,
    ⟨(some 11), none, .load none (.t 10)⟩,
    ⟨(some 5), none, .mov (.t 11)⟩])
  (.seq (.reg [⟨(some 12), none, .mov (.t 5)⟩,
    ⟨(some 13), none, .mov (.t 3)⟩,
    ⟨(some 14), none, .bin .neq .no (.t 12) (.t 13)⟩])
  (.cond (.t 14)
   (.seq (.reg [⟨(some 15), none, .mov (.t 5)⟩,
     ⟨(some 2), none, .mov (.t 15)⟩])
   .ret)
   .skip))))
  (.reg [⟨(some 16), none, .bin .add .no (.t 8) (.c (.raw (.int .i64 1)))⟩,
    ⟨(some 8), none, .mov (.t 16)⟩])))))))
 (.seq (.reg [⟨(some 17), none, .mov (.t 3)⟩,
   ⟨(some 2), none, .mov (.t 17)⟩])
 .ret))))
theorem i_cmp_Or_int : Is Try.prog 62 18 [.t 2] c_cmp_Or_int := ⟨Try.f62, _, p_cmp_Or_int, rfl, rfl, by kernel_rfl, by kernel_rfl, rfl⟩
def p_cmp_Compare_int : List (Nat × Pl) := []
def c_cmp_Compare_int : VCode :=
 (.seq (.reg [⟨(some 4), none, .mov (.c (.raw (.int .i64 0)))⟩])
 (.seq (.reg [⟨(some 7), none, .mov (.t 0)⟩,
   ⟨(some 8), none, .call 71 [(.t 7)]⟩,
   ⟨(some 5), none, .mov (.t 8)⟩])
 (.seq (.reg [⟨(some 9), none, .mov (.t 1)⟩,
   ⟨(some 10), none, .call 71 [(.t 9)]⟩,
   ⟨(some 6), none, .mov (.t 10)⟩])
 (.seq (.seq (.reg [⟨(some 11), none, .mov (.t 5)⟩])
 (.cond (.t 11)
  (.seq (.seq (.reg [⟨(some 12), none, .mov (.t 6)⟩])
  (.cond (.t 12)
   (.seq (.reg [⟨(some 4), none, .mov (.c (.raw (.int .i64 0)))⟩])
   .ret)
   .skip))
  (.seq (.reg [⟨(some 4), none, .mov (.c (.raw (.int .i64 (-1))))⟩])
  .ret))
  .skip))
 (.seq (.seq (.reg [⟨(some 13), none, .mov (.t 6)⟩])
 (.cond (.t 13)
  (.seq (.reg [⟨(some 4), none, .mov (.c (.raw (.int .i64 1)))⟩])
  .ret)
  .skip))
 (.seq (.seq (.reg [⟨(some 14), none, .mov (.t 0)⟩,
   ⟨(some 15), none, .mov (.t 1)⟩,
   ⟨(some 16), none, .bin .lss .no (.t 14) (.t 15)⟩])
 (.cond (.t 16)
  (.seq (.reg [⟨(some 4), none, .mov (.c (.raw (.int .i64 (-1))))⟩])
  .ret)
  .skip))
 (.seq (.seq (.reg [⟨(some 17), none, .mov (.t 0)⟩,
   ⟨(some 18), none, .mov (.t 1)⟩,
   ⟨(some 19), none, .bin .gtr .no (.t 17) (.t 18)⟩])
 (.cond (.t 19)
  (.seq (.reg [⟨(some 4), none, .mov (.c (.raw (.int .i64 1)))⟩])
  .ret)
  .skip))
 (.seq (.reg [⟨(some 4), none, .mov (.c (.raw (.int .i64 0)))⟩])
 .ret))))))))
theorem i_cmp_Compare_int : Is Try.prog 63 20 [.t 4] c_cmp_Compare_int := ⟨Try.f63, _, p_cmp_Compare_int, rfl, rfl, by kernel_rfl, by kernel_rfl, rfl⟩
def p_cmp_Compare_int64 : List (Nat × Pl) := []
def c_cmp_Compare_int64 : VCode :=
 (.seq (.reg [⟨(some 4), none, .mov (.c (.raw (.int .i64 0)))⟩])
 (.seq (.reg [⟨(some 7), none, .mov (.t 0)⟩,
   ⟨(some 8), none, .call 72 [(.t 7)]⟩,
   ⟨(some 5), none, .mov (.t 8)⟩])
 (.seq (.reg [⟨(some 9), none, .mov (.t 1)⟩,
   ⟨(some 10), none, .call 72 [(.t 9)]⟩,
   ⟨(some 6), none, .mov (.t 10)⟩])
 (.seq (.seq (.reg [⟨(some 11), none, .mov (.t 5)⟩])
 (.cond (.t 11)
  (.seq (.seq (.reg [⟨(some 12), none, .mov (.t 6)⟩])
  (.cond (.t 12)
   (.seq (.reg [⟨(some 4), none, .mov (.c (.raw (.int .i64 0)))⟩])
   .ret)
   .skip))
  (.seq (.reg [⟨(some 4), none, .mov (.c (.raw (.int .i64 (-1))))⟩])
  .ret))
  .skip))
 (.seq (.seq (.reg [⟨(some 13), none, .mov (.t 6)⟩])
 (.cond (.t 13)
  (.seq (.reg [⟨(some 4), none, .mov (.c (.raw (.int .i64 1)))⟩])
  .ret)
  .skip))
 (.seq (.seq (.reg [⟨(some 14), none, .mov (.t 0)⟩,
   ⟨(some 15), none, .mov (.t 1)⟩,
   ⟨(some 16), none, .bin .lss .no (.t 14) (.t 15)⟩])
 (.cond (.t 16)
  (.seq (.reg [⟨(some 4), none, .mov (.c (.raw (.int .i64 (-1))))⟩])
  .ret)
  .skip))
 (.seq (.seq (.reg [⟨(some 17), none, .mov (.t 0)⟩,
   ⟨(some 18), none, .mov (.t 1)⟩,
   ⟨(some 19), none, .bin .gtr .no (.t 17) (.t 18)⟩])
 (.cond (.t 19)
  (.seq (.reg [⟨(some 4), none, .mov (.c (.raw (.int .i64 1)))⟩])
  .ret)
  .skip))
 (.seq (.reg [⟨(some 4), none, .mov (.c (.raw (.int .i64 0)))⟩])
 .ret))))))))
theorem i_cmp_Compare_int64 : Is Try.prog 64 20 [.t 4] c_cmp_Compare_int64 := ⟨Try.f64, _, p_cmp_Compare_int64, rfl, rfl, by kernel_rfl, by kernel_rfl, rfl⟩
def p_pack_Reader_fail : List (Nat × Pl) := []
def c_pack_Reader_fail : VCode :=
 (.seq (.reg [⟨(some 2), none, .mov (.c (.raw (.int .i64 0)))⟩])
 (.seq (.reg [⟨(some 3), none, .mov (.t 0)⟩,
   ⟨(some 4), none, .mov (.t 0)⟩,
   ⟨(some 5), none, .nilck (.t 3)⟩,
   ⟨(some 6), none, .faddr 0 (.t 5)⟩,
   ⟨none, none, .store none (.t 6) (.c (.raw (.slice none 0 0)))⟩,
   ⟨(some 7), none, .nilck (.t 4)⟩,
   ⟨(some 8), none, .faddr 1 (.t 7)⟩,
   ⟨none, none, .store none (.t 8) (.c (.kb true))⟩])
 (.seq (.reg [⟨(some 2), none, .mov (.c (.raw (.int .i64 0)))⟩])
 .ret)))
theorem i_pack_Reader_fail : Is Try.prog 66 9 [.t 2] c_pack_Reader_fail := ⟨Try.f66, _, p_pack_Reader_fail, rfl, rfl, by kernel_rfl, by kernel_rfl, rfl⟩
def p_rostrumref1_Reader_raw : List (Nat × Pl) := [(3, (.fl 0 (.fl 1 (.fl 2 (.fl 3 (.fr 4 (.fl 5 (.fr 6 (.fl 7 (.fl 8 (.fl 9 (.fr 10 (.fl 11 (.fr 12 (.fl 13 (.fl 14 (.fl 15 .done))))))))))))))))), (5, (.fl 0 (.fr 1 (.fl 2 (.fr 3 (.fl 4 (.fr 5 (.fl 6 (.fr 7 (.fl 8 (.fl 9 (.fr 10 (.fr 11 (.fl 12 .done))))))))))))))]
def c_rostrumref1_Reader_raw : VCode :=
 (.seq (.reg [⟨(some 2), none, .mov (.c (.raw (.int .u64 0)))⟩,
   ⟨(some 3), none, .mov (.c (.kb false))⟩])
 (.seq (.reg [⟨(some 4), none, .mov (.c (.raw (.int .u64 0)))⟩])
 (.seq (.seq (.reg [⟨(some 5), none, .mov (.c (.raw (.int .i64 0)))⟩])
 (.block 0 (.loop (.seq (.seq (.draw [⟨(some 7), none, .mov (.t 5)⟩,
    ⟨(some 8), none, .bin .lss .no (.t 7) (.c (.raw (.int .i64 10)))⟩,
    ⟨(some 9), none, .mov (.t 8)⟩,
    ⟨(some 10), (some (9, true)), .mov (.t 0)⟩,
    ⟨(some 11), (some (9, true)), .nilck (.t 10)⟩,
    ⟨(some 12), (some (9, true)), .faddr 1 (.t 11)⟩,
    ⟨(some 13), (some (9, true)), .load none (.t 12)⟩,
    ⟨(some 14), (some (9, true)), .mov (.t 5)⟩,
    ⟨(some 15), (some (9, true)), .bin .add .no (.t 13) (.t 14)⟩,
    ⟨(some 16), (some (9, true)), .mov (.t 0)⟩,
    ⟨(some 17), (some (9, true)), .nilck (.t 16)⟩,
    ⟨(some 18), (some (9, true)), .faddr 0 (.t 17)⟩,
    ⟨(some 19), (some (9, true)), .load none (.t 18)⟩,
    ⟨(some 20), (some (9, true)), .len .sl (.t 19)⟩,
    ⟨(some 21), (some (9, true)), .bin .lss .no (.t 15) (.t 20)⟩,
    ⟨(some 22), none, .pick (.t 9) (.t 21) (.c (.kb false))⟩]
    (.fl 0 (.fl 1 (.fl 2 (.fl 3 (.fr 4 (.fl 5 (.fr 6 (.fl 7 (.fl 8 (.fl 9 (.fr 10 (.fl 11 (.fr 12 (.fl 13 (.fl 14 (.fl 15 .done)))))))))))))))))
  (.cond (.t 22)
   .skip
   (.exit 0)))
  (.seq (.block 1 (.seq (.draw [⟨(some 25), none, .mov (.t 0)⟩,
    ⟨(some 26), none, .nilck (.t 25)⟩,
    ⟨(some 27), none, .faddr 0 (.t 26)⟩,
    ⟨(some 28), none, .load none (.t 27)⟩,
    ⟨(some 29), none, .mov (.t 0)⟩,
    ⟨(some 30), none, .nilck (.t 29)⟩,
    ⟨(some 31), none, .faddr 1 (.t 30)⟩,
    ⟨(some 32), none, .load none (.t 31)⟩,
    ⟨(some 33), none, .mov (.t 5)⟩,
    ⟨(some 34), none, .bin .add .no (.t 32) (.t 33)⟩,
    ⟨(some 35), none, .iaddr 1 none (.t 28) (.t 34)⟩,
    ⟨(some 36), none, .load none (.t 35)⟩,
    ⟨(some 6), none, .mov (.t 36)⟩]
    (.fl 0 (.fr 1 (.fl 2 (.fr 3 (.fl 4 (.fr 5 (.fl 6 (.fr 7 (.fl 8 (.fl 9 (.fr 10 (.fr 11 (.fl 12 .done))))))))))))))
  (.seq (.seq (.reg [⟨(some 37), none, .mov (.t 5)⟩,
    ⟨(some 38), none, .bin .eql .no (.t 37) (.c (.raw (.int .i64 9)))⟩,
    ⟨(some 39), none, .mov (.t 38)⟩,
    ⟨(some 40), (some (39, true)), .mov (.t 6)⟩,
    ⟨(some 41), (some (39, true)), .bin .gtr .no (.t 40) (.c (.raw (.int .u8 1)))⟩,
    ⟨(some 42), none, .pick (.t 39) (.t 41) (.c (.kb false))⟩])
  (.cond (.t 42)
   (.seq (.reg [⟨(some 2), none, .mov (.c (.raw (.int .u64 0)))⟩,
     ⟨(some 3), none, .mov (.c (.kb false))⟩])
   .ret)
   .skip))
  (.seq (.reg [⟨(some 43), none, .mov (.t 4)⟩,
    ⟨(some 44), none, .mov (.t 6)⟩,
    ⟨(some 45), none, .bin .and .no (.t 44) (.c (.raw (.int .u8 127)))⟩,
    ⟨(some 46), none, .conv (.int .u64) (.t 45)⟩,
    ⟨(some 47), none, .mov (.t 5)⟩,
    ⟨(some 48), none, .bin .mul .no (.c (.raw (.int .i64 7))) (.t 47)⟩,
    ⟨(some 49), none, .conv (.int .u64) (.t 48)⟩,
    ⟨(some 50), none, .bin .shl .no (.t 46) (.t 49)⟩,
    ⟨(some 51), none, .bin .or .no (.t 43) (.t 50)⟩,
    ⟨(some 4), none, .mov (.t 51)⟩])
  (.seq (.reg [⟨(some 52), none, .mov (.t 6)⟩,
    ⟨(some 53), none, .bin .lss .no (.t 52) (.c (.raw (.int .u8 128)))⟩])
  (.cond (.t 53)
   (.seq (.reg [⟨(some 54), none, .mov (.t 0)⟩,
     ⟨(some 55), none, .mov (.t 0)⟩,
     ⟨(some 56), none, .nilck (.t 55)⟩,
     ⟨(some 57), none, .faddr 1 (.t 56)⟩,
     ⟨(some 58), none, .load none (.t 57)⟩,
     ⟨(some 59), none, .mov (.t 5)⟩,
     ⟨(some 60), none, .bin .add .no (.t 58) (.t 59)⟩,
     ⟨(some 61), none, .bin .add .no (.t 60) (.c (.raw (.int .i64 1)))⟩,
     ⟨(some 62), none, .nilck (.t 54)⟩,
     ⟨(some 63), none, .faddr 1 (.t 62)⟩,
     ⟨none, none, .store none (.t 63) (.t 61)⟩])
   (.seq (.reg [⟨(some 64), none, .mov (.t 4)⟩,
     ⟨(some 65), none, .mov (.t 6)⟩,
     ⟨(some 66), none, .bin .gtr .no (.t 65) (.c (.raw (.int .u8 0)))⟩,
     ⟨(some 67), none, .mov (.t 66)⟩,
     ⟨(some 68), (some (67, false)), .mov (.t 5)⟩,
     ⟨(some 69), (some (67, false)), .bin .eql .no (.t 68) (.c (.raw (.int .i64 0)))⟩,
     ⟨(some 70), none, .pick (.t 67) (.c (.kb true)) (.t 69)⟩,
     ⟨(some 2), none, .mov (.t 64)⟩,
     ⟨(some 3), none, .mov (.t 70)⟩])
   .ret))
   .skip))))))
  (.reg [⟨(some 23), none, .mov (.t 5)⟩,
    ⟨(some 24), none, .bin .add .no (.t 23) (.c (.raw (.int .i64 1)))⟩,
    ⟨(some 5), none, .mov (.t 24)⟩]))))))
 (.seq (.reg [⟨(some 2), none, .mov (.c (.raw (.int .u64 0)))⟩,
   ⟨(some 3), none, .mov (.c (.kb false))⟩])
 .ret))))
theorem i_rostrumref1_Reader_raw : Is Try.prog 67 71 [.t 2, .t 3] c_rostrumref1_Reader_raw := ⟨Try.f67, _, p_rostrumref1_Reader_raw, rfl, rfl, by kernel_rfl, by kernel_rfl, rfl⟩
def p_slices_pdqsortCmpFunc_api_Dot : List (Nat × Pl) := [(17, (.fl 0 (.fl 1 (.fl 2 (.fl 3 (.fl 4 (.fl 5 (.fl 6 (.fr 7 (.fr 8 (.fl 9 (.fl 10 (.fr 11 (.fr 12 (.st 13 [] (.fl 14 (.fl 15 (.fl 16 .done))))))))))))))))))]
def c_slices_pdqsortCmpFunc_api_Dot : VCode :=
 (.seq (.reg [⟨(some 10), none, .mov (.c (.kb true))⟩])
 (.seq (.reg [⟨(some 11), none, .mov (.c (.kb true))⟩])
 (.block 0 (.loop (.block 1 (.seq (.reg [⟨(some 21), none, .mov (.t 2)⟩,
    ⟨(some 22), none, .mov (.t 1)⟩,
    ⟨(some 23), none, .bin .sub .no (.t 21) (.t 22)⟩,
    ⟨(some 12), none, .mov (.t 23)⟩])
  (.seq (.seq (.reg [⟨(some 24), none, .mov (.t 12)⟩,
    ⟨(some 25), none, .bin .leq .no (.t 24) (.c (.raw (.int .i64 12)))⟩])
  (.cond (.t 25)
   (.seq (.reg [⟨(some 26), none, .mov (.t 0)⟩,
     ⟨(some 27), none, .mov (.t 1)⟩,
     ⟨(some 28), none, .mov (.t 2)⟩,
     ⟨(some 29), none, .mov (.t 4)⟩,
     ⟨(some 30), none, .call 73 [(.t 26), (.t 27), (.t 28), (.t 29)]⟩])
   .ret)
   .skip))
  (.seq (.seq (.reg [⟨(some 31), none, .mov (.t 3)⟩,
    ⟨(some 32), none, .bin .eql .no (.t 31) (.c (.raw (.int .i64 0)))⟩])
  (.cond (.t 32)
   (.seq (.reg [⟨(some 33), none, .mov (.t 0)⟩,
     ⟨(some 34), none, .mov (.t 1)⟩,
     ⟨(some 35), none, .mov (.t 2)⟩,
     ⟨(some 36), none, .mov (.t 4)⟩,
     ⟨(some 37), none, .call 74 [(.t 33), (.t 34), (.t 35), (.t 36)]⟩])
   .ret)
   .skip))
  (.seq (.seq (.reg [⟨(some 38), none, .mov (.t 10)⟩,
    ⟨(some 39), none, .un .not (.t 38)⟩])
  (.cond (.t 39)
   (.seq (.reg [⟨(some 40), none, .mov (.t 0)⟩,
     ⟨(some 41), none, .mov (.t 1)⟩,
     ⟨(some 42), none, .mov (.t 2)⟩,
     ⟨(some 43), none, .mov (.t 4)⟩,
     ⟨(some 44), none, .call 75 [(.t 40), (.t 41), (.t 42), (.t 43)]⟩])
   (.reg [⟨(some 45), none, .mov (.t 3)⟩,
     ⟨(some 46), none, .bin .sub .no (.t 45) (.c (.raw (.int .i64 1)))⟩,
     ⟨(some 3), none, .mov (.t 46)⟩]))
   .skip))
  (.seq (.reg [⟨(some 48), none, .mov (.t 0)⟩,
    ⟨(some 49), none, .mov (.t 1)⟩,
    ⟨(some 50), none, .mov (.t 2)⟩,
    ⟨(some 51), none, .mov (.t 4)⟩,
    ⟨(some 52), none, .call 76 [(.t 48), (.t 49), (.t 50), (.t 51)]⟩,
    ⟨(some 47), none, .mov (.t 52)⟩,
    ⟨(some 53), none, .extr (.t 47) 0⟩,
    ⟨(some 54), none, .extr (.t 47) 1⟩,
    ⟨(some 13), none, .mov (.t 53)⟩,
    ⟨(some 14), none, .mov (.t 54)⟩])
  (.seq (.seq (.reg [⟨(some 55), none, .mov (.t 14)⟩,
    ⟨(some 56), none, .bin .eql .no (.t 55) (.c (.raw (.int .i64 2)))⟩])
  (.cond (.t 56)
   (.seq (.reg [⟨(some 57), none, .mov (.t 0)⟩,
     ⟨(some 58), none, .mov (.t 1)⟩,
     ⟨(some 59), none, .mov (.t 2)⟩,
     ⟨(some 60), none, .mov (.t 4)⟩,
     ⟨(some 61), none, .call 77 [(.t 57), (.t 58), (.t 59), (.t 60)]⟩])
   (.seq (.reg [⟨(some 62), none, .mov (.t 2)⟩,
     ⟨(some 63), none, .bin .sub .no (.t 62) (.c (.raw (.int .i64 1)))⟩,
     ⟨(some 64), none, .mov (.t 13)⟩,
     ⟨(some 65), none, .mov (.t 1)⟩,
     ⟨(some 66), none, .bin .sub .no (.t 64) (.t 65)⟩,
     ⟨(some 67), none, .bin .sub .no (.t 63) (.t 66)⟩,
     ⟨(some 13), none, .mov (.t 67)⟩])
   (.reg [⟨(some 14), none, .mov (.c (.raw (.int .i64 1)))⟩])))
   .skip))
  (.seq (.seq (.reg [⟨(some 68), none, .mov (.t 10)⟩,
    ⟨(some 69), none, .mov (.t 68)⟩,
    ⟨(some 70), (some (69, true)), .mov (.t 11)⟩,
    ⟨(some 71), none, .pick (.t 69) (.t 70) (.c (.kb false))⟩,
    ⟨(some 72), none, .mov (.t 71)⟩,
    ⟨(some 73), (some (72, true)), .mov (.t 14)⟩,
    ⟨(some 74), (some (72, true)), .bin .eql .no (.t 73) (.c (.raw (.int .i64 1)))⟩,
    ⟨(some 75), none, .pick (.t 72) (.t 74) (.c (.kb false))⟩])
  (.cond (.t 75)
   (.seq (.reg [⟨(some 76), none, .mov (.t 0)⟩,
     ⟨(some 77), none, .mov (.t 1)⟩,
     ⟨(some 78), none, .mov (.t 2)⟩,
     ⟨(some 79), none, .mov (.t 4)⟩,
     ⟨(some 80), none, .call 78 [(.t 76), (.t 77), (.t 78), (.t 79)]⟩])
   (.cond (.t 80)
    .ret
    .skip))
   .skip))
  (.seq (.seq (.draw [⟨(some 81), none, .mov (.t 1)⟩,
    ⟨(some 82), none, .bin .gtr .no (.t 81) (.c (.raw (.int .i64 0)))⟩,
    ⟨(some 83), none, .mov (.t 82)⟩,
    ⟨(some 84), (some (83, true)), .mov (.t 4)⟩,
    ⟨(some 85), (some (83, true)), .mov (.t 0)⟩,
    ⟨(some 86), (some (83, true)), .mov (.t 1)⟩,
    ⟨(some 87), (some (83, true)), .bin .sub .no (.t 86) (.c (.raw (.int .i64 1)))⟩,
    ⟨(some 88), (some (83, true)), .iaddr 2 none (.t 85) (.t 87)⟩,
    ⟨(some 89), (some (83, true)), .load (some 2) (.t 88)⟩,
    ⟨(some 90), (some (83, true)), .mov (.t 0)⟩,
    ⟨(some 91), (some (83, true)), .mov (.t 13)⟩,
    ⟨(some 92), (some (83, true)), .iaddr 2 none (.t 90) (.t 91)⟩,
    ⟨(some 93), (some (83, true)), .load (some 2) (.t 92)⟩,
    ⟨(some 94), (some (83, true)), .callv (.t 84) [(.t 89), (.t 93)]⟩,
    ⟨(some 95), (some (83, true)), .bin .lss .no (.t 94) (.c (.raw (.int .i64 0)))⟩,
    ⟨(some 96), (some (83, true)), .un .not (.t 95)⟩,
    ⟨(some 97), none, .pick (.t 83) (.t 96) (.c (.kb false))⟩]
    (.fl 0 (.fl 1 (.fl 2 (.fl 3 (.fl 4 (.fl 5 (.fl 6 (.fr 7 (.fr 8 (.fl 9 (.fl 10 (.fr 11 (.fr 12 (.st 13 [] (.fl 14 (.fl 15 (.fl 16 .done))))))))))))))))))
  (.cond (.t 97)
   (.seq (.reg [⟨(some 98), none, .mov (.t 0)⟩,
     ⟨(some 99), none, .mov (.t 1)⟩,
     ⟨(some 100), none, .mov (.t 2)⟩,
     ⟨(some 101), none, .mov (.t 13)⟩,
     ⟨(some 102), none, .mov (.t 4)⟩,
     ⟨(some 103), none, .call 79 [(.t 98), (.t 99), (.t 100), (.t 101), (.t 102)]⟩,
     ⟨(some 15), none, .mov (.t 103)⟩])
   (.seq (.reg [⟨(some 104), none, .mov (.t 15)⟩,
     ⟨(some 1), none, .mov (.t 104)⟩])
   (.exit 1)))
   .skip))
  (.seq (.reg [⟨(some 106), none, .mov (.t 0)⟩,
    ⟨(some 107), none, .mov (.t 1)⟩,
    ⟨(some 108), none, .mov (.t 2)⟩,
    ⟨(some 109), none, .mov (.t 13)⟩,
    ⟨(some 110), none, .mov (.t 4)⟩,
    ⟨(some 111), none, .call 80 [(.t 106), (.t 107), (.t 108), (.t 109), (.t 110)]⟩,
    ⟨(some 105), none, .mov (.t 111)⟩,
    ⟨(some 112), none, .extr (.t 105) 0⟩,
    ⟨(some 113), none, .extr (.t 105) 1⟩,
    ⟨(some 16), none, .mov (.t 112)⟩,
    ⟨(some 17), none, .mov (.t 113)⟩])
  (.seq (.reg [⟨(some 114), none, .mov (.t 17)⟩,
    ⟨(some 11), none, .mov (.t 114)⟩])
  (.seq (.reg [⟨(some 115), none, .mov (.t 16)⟩,
    ⟨(some 116), none, .mov (.t 1)⟩,
    ⟨(some 117), none, .bin .sub .no (.t 115) (.t 116)⟩,
    ⟨(some 118), none, .mov (.t 2)⟩,
    ⟨(some 119), none, .mov (.t 16)⟩,
    ⟨(some 120), none, .bin .sub .no (.t 118) (.t 119)⟩,
    ⟨(some 18), none, .mov (.t 117)⟩,
    ⟨(some 19), none, .mov (.t 120)⟩])
  (.seq (.reg [⟨(some 121), none, .mov (.t 12)⟩,
    ⟨(some 122), none, .bin .quo .no (.t 121) (.c (.raw (.int .i64 8)))⟩,
    ⟨(some 20), none, .mov (.t 122)⟩])
  (.seq (.reg [⟨(some 123), none, .mov (.t 18)⟩,
    ⟨(some 124), none, .mov (.t 19)⟩,
    ⟨(some 125), none, .bin .lss .no (.t 123) (.t 124)⟩])
  (.cond (.t 125)
   (.seq (.reg [⟨(some 126), none, .mov (.t 18)⟩,
     ⟨(some 127), none, .mov (.t 20)⟩,
     ⟨(some 128), none, .bin .geq .no (.t 126) (.t 127)⟩,
     ⟨(some 10), none, .mov (.t 128)⟩])
   (.seq (.reg [⟨(some 129), none, .mov (.t 0)⟩,
     ⟨(some 130), none, .mov (.t 1)⟩,
     ⟨(some 131), none, .mov (.t 16)⟩,
     ⟨(some 132), none, .mov (.t 3)⟩,
     ⟨(some 133), none, .mov (.t 4)⟩,
     ⟨(some 134), none, .call 69 [(.t 129), (.t 130), (.t 131), (.t 132), (.t 133)]⟩])
   (.reg [⟨(some 135), none, .mov (.t 16)⟩,
     ⟨(some 136), none, .bin .add .no (.t 135) (.c (.raw (.int .i64 1)))⟩,
     ⟨(some 1), none, .mov (.t 136)⟩])))
   (.seq (.reg [⟨(some 137), none, .mov (.t 19)⟩,
     ⟨(some 138), none, .mov (.t 20)⟩,
     ⟨(some 139), none, .bin .geq .no (.t 137) (.t 138)⟩,
     ⟨(some 10), none, .mov (.t 139)⟩])
   (.seq (.reg [⟨(some 140), none, .mov (.t 0)⟩,
     ⟨(some 141), none, .mov (.t 16)⟩,
     ⟨(some 142), none, .bin .add .no (.t 141) (.c (.raw (.int .i64 1)))⟩,
     ⟨(some 143), none, .mov (.t 2)⟩,
     ⟨(some 144), none, .mov (.t 3)⟩,
     ⟨(some 145), none, .mov (.t 4)⟩,
     ⟨(some 146), none, .call 69 [(.t 140), (.t 142), (.t 143), (.t 144), (.t 145)]⟩])
   (.reg [⟨(some 147), none, .mov (.t 16)⟩,
     ⟨(some 2), none, .mov (.t 147)⟩]))))))))))))))))))))))
theorem i_slices_pdqsortCmpFunc_api_Dot : Is Try.prog 69 148 [] c_slices_pdqsortCmpFunc_api_Dot := ⟨Try.f69, _, p_slices_pdqsortCmpFunc_api_Dot, rfl, rfl, by kernel_rfl, by kernel_rfl, rfl⟩
def p_math_bits_Len : List (Nat × Pl) := []
def c_math_bits_Len : VCode :=
 (.seq (.reg [⟨(some 2), none, .mov (.c (.raw (.int .i64 0)))⟩])
 (.seq (.cond (.c (.kb false))
  (.seq (.reg [⟨(some 3), none, .mov (.t 0)⟩,
    ⟨(some 4), none, .conv (.int .u32) (.t 3)⟩,
    ⟨(some 5), none, .call 81 [(.t 4)]⟩,
    ⟨(some 2), none, .mov (.t 5)⟩])
  .ret)
  .skip)
 (.seq (.reg [⟨(some 6), none, .mov (.t 0)⟩,
   ⟨(some 7), none, .call 82 [(.t 6)]⟩,
   ⟨(some 2), none, .mov (.t 7)⟩])
 .ret)))
theorem i_math_bits_Len : Is Try.prog 70 8 [.t 2] c_math_bits_Len := ⟨Try.f70, _, p_math_bits_Len, rfl, rfl, by kernel_rfl, by kernel_rfl, rfl⟩
def p_cmp_isNaN_int : List (Nat × Pl) := []
def c_cmp_isNaN_int : VCode :=
 (.seq (.reg [⟨(some 2), none, .mov (.c (.kb false))⟩])
 (.seq (.reg [⟨(some 3), none, .mov (.t 0)⟩,
   ⟨(some 4), none, .mov (.t 0)⟩,
   ⟨(some 5), none, .bin .neq .no (.t 3) (.t 4)⟩,
   ⟨(some 2), none, .mov (.t 5)⟩])
 .ret))
theorem i_cmp_isNaN_int : Is Try.prog 71 6 [.t 2] c_cmp_isNaN_int := ⟨Try.f71, _, p_cmp_isNaN_int, rfl, rfl, by kernel_rfl, by kernel_rfl, rfl⟩
def p_cmp_isNaN_int64 : List (Nat × Pl) := []
def c_cmp_isNaN_int64 : VCode :=
 (.seq (.reg [⟨(some 2), none, .mov (.c (.kb false))⟩])
 (.seq (.reg [⟨(some 3), none, .mov (.t 0)⟩,
   ⟨(some 4), none, .mov (.t 0)⟩,
   ⟨(some 5), none, .bin .neq .no (.t 3) (.t 4)⟩,
   ⟨(some 2), none, .mov (.t 5)⟩])
 .ret))
theorem i_cmp_isNaN_int64 : Is Try.prog 72 6 [.t 2] c_cmp_isNaN_int64 := ⟨Try.f72, _, p_cmp_isNaN_int64, rfl, rfl, by kernel_rfl, by kernel_rfl, rfl⟩
def p_slices_insertionSortCmpFunc_api_Dot : List (Nat × Pl) := [(4, (.fl 0 (.fl 1 (.fl 2 (.fl 3 (.fl 4 (.fl 5 (.fl 6 (.fr 7 (.fr 8 (.fl 9 (.fl 10 (.fl 11 (.fr 12 (.fr 13 (.st 14 [] (.fl 15 (.fl 16 .done)))))))))))))))))), (6, (.fl 0 (.fl 1 (.fl 2 (.fl 3 (.fl 4 (.fl 5 (.fl 6 (.fl 7 (.fr 8 (.fr 9 (.fl 10 (.fl 11 (.fr 12 (.fr 13 (.fr 14 (.st 15 [] (.fr 16 (.st 17 [] .done)))))))))))))))))))]
def c_slices_insertionSortCmpFunc_api_Dot : VCode :=
 (.seq (.reg [⟨(some 10), none, .mov (.t 1)⟩,
   ⟨(some 11), none, .bin .add .no (.t 10) (.c (.raw (.int .i64 1)))⟩,
   ⟨(some 8), none, .mov (.t 11)⟩])
 (.block 0 (.loop (.seq (.seq (.reg [⟨(some 12), none, .mov (.t 8)⟩,
    ⟨(some 13), none, .mov (.t 2)⟩,
    ⟨(some 14), none, .bin .lss .no (.t 12) (.t 13)⟩])
  (.cond (.t 14)
   .skip
   (.exit 0)))
  (.seq (.block 1 (.seq (.reg [⟨(some 17), none, .mov (.t 8)⟩,
    ⟨(some 9), none, .mov (.t 17)⟩])
  (.block 2 (.loop (.seq (.seq (.draw [⟨(some 18), none, .mov (.t 9)⟩,
     ⟨(some 19), none, .mov (.t 1)⟩,
     ⟨(some 20), none, .bin .gtr .no (.t 18) (.t 19)⟩,
     ⟨(some 21), none, .mov (.t 20)⟩,
     ⟨(some 22), (some (21, true)), .mov (.t 3)⟩,
     ⟨(some 23), (some (21, true)), .mov (.t 0)⟩,
     ⟨(some 24), (some (21, true)), .mov (.t 9)⟩,
     ⟨(some 25), (some (21, true)), .iaddr 2 none (.t 23) (.t 24)⟩,
     ⟨(some 26), (some (21, true)), .load (some 2) (.t 25)⟩,
     ⟨(some 27), (some (21, true)), .mov (.t 0)⟩,
     ⟨(some 28), (some (21, true)), .mov (.t 9)⟩,
     ⟨(some 29), (some (21, true)), .bin .sub .no (.t 28) (.c (.raw (.int .i64 1)))⟩,
     ⟨(some 30), (some (21, true)), .iaddr 2 none (.t 27) (.t 29)⟩,
     ⟨(some 31), (some (21, true)), .load (some 2) (.t 30)⟩,
     ⟨(some 32), (some (21, true)), .callv (.t 22) [(.t 26), (.t 31)]⟩,
     ⟨(some 33), (some (21, true)), .bin .lss .no (.t 32) (.c (.raw (.int .i64 0)))⟩,
     ⟨(some 34), none, .pick (.t 21) (.t 33) (.c (.kb false))⟩]
     (.fl 0 (.fl 1 (.fl 2 (.fl 3 (.fl 4 (.fl 5 (.fl 6 (.fr 7 (.fr 8 (.fl 9 (.fl 10 (.fl 11 (.fr 12 (.fr 13 (.st 14 [] (.fl 15 (.fl 16 .done))))))))))))))))))
   (.cond (.t 34)
    .skip
    (.exit 2)))
   (.seq (.block 3 (.draw [⟨(some 37), none, .mov (.t 0)⟩,
     ⟨(some 38), none, .mov (.t 9)⟩,
     ⟨(some 39), none, .mov (.t 0)⟩,
     ⟨(some 40), none, .mov (.t 9)⟩,
     ⟨(some 41), none, .bin .sub .no (.t 40) (.c (.raw (.int .i64 1)))⟩,
     ⟨(some 42), none, .mov (.t 0)⟩,
     ⟨(some 43), none, .mov (.t 9)⟩,
     ⟨(some 44), none, .bin .sub .no (.t 43) (.c (.raw (.int .i64 1)))⟩,
     ⟨(some 45), none, .iaddr 2 none (.t 42) (.t 44)⟩,
     ⟨(some 46), none, .load (some 2) (.t 45)⟩,
     ⟨(some 47), none, .mov (.t 0)⟩,
     ⟨(some 48), none, .mov (.t 9)⟩,
     ⟨(some 49), none, .iaddr 2 none (.t 47) (.t 48)⟩,
     ⟨(some 50), none, .load (some 2) (.t 49)⟩,
     ⟨(some 51), none, .iaddr 2 none (.t 37) (.t 38)⟩,
     ⟨none, none, .store (some 2) (.t 51) (.t 46)⟩,
     ⟨(some 52), none, .iaddr 2 none (.t 39) (.t 41)⟩,
     ⟨none, none, .store (some 2) (.t 52) (.t 50)⟩]
     (.fl 0 (.fl 1 (.fl 2 (.fl 3 (.fl 4 (.fl 5 (.fl 6 (.fl 7 (.fr 8 (.fr 9 (.fl 10 (.fl 11 (.fr 12 (.fr 13 (.fr 14 (.st 15 [] (.fr 16 (.st 17 [] .done))))))))))))))))))))
   (.reg [⟨(some 35), none, .mov (.t 9)⟩,
     ⟨(some 36), none, .bin .sub .no (.t 35) (.c (.raw (.int .i64 1)))⟩,
     ⟨(some 9), none, .mov (.t 36)⟩])))))))
  (.reg [⟨(some 15), none, .mov (.t 8)⟩,
    ⟨(some 16), none, .bin .add .no (.t 15) (.c (.raw (.int .i64 1)))⟩,
    ⟨(some 8), none, .mov (.t 16)⟩]))))))
theorem i_slices_insertionSortCmpFunc_api_Dot : Is Try.prog 73 53 [] c_slices_insertionSortCmpFunc_api_Dot := ⟨Try.f73, _, p_slices_insertionSortCmpFunc_api_Dot, rfl, rfl, by kernel_rfl, by kernel_rfl, rfl⟩
def p_slices_heapSortCmpFunc_api_Dot : List (Nat × Pl) := [(10, (.fl 0 (.fl 1 (.fl 2 (.fl 3 (.fl 4 (.fl 5 (.fl 6 (.fl 7 (.fl 8 (.fl 9 (.fr 10 (.fr 11 (.fl 12 (.fl 13 (.fr 14 (.fr 15 (.fr 16 (.st 17 [] (.fr 18 (.st 19 [] .done)))))))))))))))))))))]
def c_slices_heapSortCmpFunc_api_Dot : VCode :=
 (.seq (.reg [⟨(some 13), none, .mov (.t 1)⟩,
   ⟨(some 8), none, .mov (.t 13)⟩])
 (.seq (.reg [⟨(some 9), none, .mov (.c (.raw (.int .i64 0)))⟩])
 (.seq (.reg [⟨(some 14), none, .mov (.t 2)⟩,
   ⟨(some 15), none, .mov (.t 1)⟩,
   ⟨(some 16), none, .bin .sub .no (.t 14) (.t 15)⟩,
   ⟨(some 10), none, .mov (.t 16)⟩])
 (.seq (.seq (.reg [⟨(some 17), none, .mov (.t 10)⟩,
   ⟨(some 18), none, .bin .sub .no (.t 17) (.c (.raw (.int .i64 1)))⟩,
   ⟨(some 19), none, .bin .quo .no (.t 18) (.c (.raw (.int .i64 2)))⟩,
   ⟨(some 11), none, .mov (.t 19)⟩])
 (.block 0 (.loop (.seq (.seq (.reg [⟨(some 20), none, .mov (.t 11)⟩,
    ⟨(some 21), none, .bin .geq .no (.t 20) (.c (.raw (.int .i64 0)))⟩])
  (.cond (.t 21)
   .skip
   (.exit 0)))
  (.seq (.block 1 (.reg [⟨(some 24), none, .mov (.t 0)⟩,
    ⟨(some 25), none, .mov (.t 11)⟩,
    ⟨(some 26), none, .mov (.t 10)⟩,
    ⟨(some 27), none, .mov (.t 8)⟩,
    ⟨(some 28), none, .mov (.t 3)⟩,
    ⟨(some 29), none, .call 83 [(.t 24), (.t 25), (.t 26), (.t 27), (.t 28)]⟩]))
  (.reg [⟨(some 22), none, .mov (.t 11)⟩,
    ⟨(some 23), none, .bin .sub .no (.t 22) (.c (.raw (.int .i64 1)))⟩,
    ⟨(some 11), none, .mov (.t 23)⟩]))))))
 (.seq (.reg [⟨(some 30), none, .mov (.t 10)⟩,
   ⟨(some 31), none, .bin .sub .no (.t 30) (.c (.raw (.int .i64 1)))⟩,
   ⟨(some 12), none, .mov (.t 31)⟩])
 (.block 2 (.loop (.seq (.seq (.reg [⟨(some 32), none, .mov (.t 12)⟩,
    ⟨(some 33), none, .bin .geq .no (.t 32) (.c (.raw (.int .i64 0)))⟩])
  (.cond (.t 33)
   .skip
   (.exit 2)))
  (.seq (.block 3 (.seq (.draw [⟨(some 36), none, .mov (.t 0)⟩,
    ⟨(some 37), none, .mov (.t 8)⟩,
    ⟨(some 38), none, .mov (.t 0)⟩,
    ⟨(some 39), none, .mov (.t 8)⟩,
    ⟨(some 40), none, .mov (.t 12)⟩,
    ⟨(some 41), none, .bin .add .no (.t 39) (.t 40)⟩,
    ⟨(some 42), none, .mov (.t 0)⟩,
    ⟨(some 43), none, .mov (.t 8)⟩,
    ⟨(some 44), none, .mov (.t 12)⟩,
    ⟨(some 45), none, .bin .add .no (.t 43) (.t 44)⟩,
    ⟨(some 46), none, .iaddr 2 none (.t 42) (.t 45)⟩,
    ⟨(some 47), none, .load (some 2) (.t 46)⟩,
    ⟨(some 48), none, .mov (.t 0)⟩,
    ⟨(some 49), none, .mov (.t 8)⟩,
    ⟨(some 50), none, .iaddr 2 none (.t 48) (.t 49)⟩,
    ⟨(some 51), none, .load (some 2) (.t 50)⟩,
    ⟨(some 52), none, .iaddr 2 none (.t 36) (.t 37)⟩,
    ⟨none, none, .store (some 2) (.t 52) (.t 47)⟩,
    ⟨(some 53), none, .iaddr 2 none (.t 38) (.t 41)⟩,
    ⟨none, none, .store (some 2) (.t 53) (.t 51)⟩]
    (.fl 0 (.fl 1 (.fl 2 (.fl 3 (.fl 4 (.fl 5 (.fl 6 (.fl 7 (.fl 8 (.fl 9 (.fr 10 (.fr 11 (.fl 12 (.fl 13 (.fr 14 (.fr 15 (.fr 16 (.st 17 [] (.fr 18 (.st 19 [] .done)))))))))))))))))))))
  (.reg [⟨(some 54), none, .mov (.t 0)⟩,
    ⟨(some 55), none, .mov (.t 9)⟩,
    ⟨(some 56), none, .mov (.t 12)⟩,
    ⟨(some 57), none, .mov (.t 8)⟩,
    ⟨(some 58), none, .mov (.t 3)⟩,
    ⟨(some 59), none, .call 83 [(.t 54), (.t 55), (.t 56), (.t 57), (.t 58)]⟩])))
  (.reg [⟨(some 34), none, .mov (.t 12)⟩,
    ⟨(some 35), none, .bin .sub .no (.t 34) (.c (.raw (.int .i64 1)))⟩,
    ⟨(some 12), none, .mov (.t 35)⟩]))))))))))
theorem i_slices_heapSortCmpFunc_api_Dot : Is Try.prog 74 60 [] c_slices_heapSortCmpFunc_api_Dot := ⟨Try.f74, _, p_slices_heapSortCmpFunc_api_Dot, rfl, rfl, by kernel_rfl, by kernel_rfl, rfl⟩
def p_slices_breakPatternsCmpFunc_api_Dot : List (Nat × Pl) := [(10, (.fl 0 (.fl 1 (.fl 2 (.fl 3 (.fl 4 (.fl 5 (.fl 6 (.fl 7 (.fl 8 (.fl 9 (.fr 10 (.fr 11 (.fl 12 (.fl 13 (.fr 14 (.fr 15 (.fr 16 (.st 17 [] (.fr 18 (.st 19 [] .done)))))))))))))))))))))]
def c_slices_breakPatternsCmpFunc_api_Dot : VCode :=
 (.seq (.reg [⟨(some 13), none, .mov (.t 2)⟩,
   ⟨(some 14), none, .mov (.t 1)⟩,
   ⟨(some 15), none, .bin .sub .no (.t 13) (.t 14)⟩,
   ⟨(some 8), none, .mov (.t 15)⟩])
 (.seq (.reg [⟨(some 16), none, .mov (.t 8)⟩,
   ⟨(some 17), none, .bin .geq .no (.t 16) (.c (.raw (.int .i64 8)))⟩])
 (.cond (.t 17)
  (.seq (.reg [⟨(some 18), none, .mov (.t 8)⟩,
    ⟨(some 19), none, .conv (.int .u64) (.t 18)⟩,
    ⟨(some 9), none, .new 112 [(.int .u64 0)]⟩,
    ⟨none, none, .store none (.t 9) (.t 19)⟩])
  (.seq (.reg [⟨(some 20), none, .mov (.t 8)⟩,
    ⟨(some 21), none, .call 84 [(.t 20)]⟩,
    ⟨(some 10), none, .mov (.t 21)⟩])
  (.seq (.reg [⟨(some 22), none, .mov (.t 1)⟩,
    ⟨(some 23), none, .mov (.t 8)⟩,
    ⟨(some 24), none, .bin .quo .no (.t 23) (.c (.raw (.int .i64 4)))⟩,
    ⟨(some 25), none, .bin .mul .no (.t 24) (.c (.raw (.int .i64 2)))⟩,
    ⟨(some 26), none, .bin .add .no (.t 22) (.t 25)⟩,
    ⟨(some 27), none, .bin .sub .no (.t 26) (.c (.raw (.int .i64 1)))⟩,
    ⟨(some 11), none, .mov (.t 27)⟩])
  (.block 0 (.loop (.seq (.seq (.reg [⟨(some 28), none, .mov (.t 11)⟩,
     ⟨(some 29), none, .mov (.t 1)⟩,
     ⟨(some 30), none, .mov (.t 8)⟩,
     ⟨(some 31), none, .bin .quo .no (.t 30) (.c (.raw (.int .i64 4)))⟩,
     ⟨(some 32), none, .bin .mul .no (.t 31) (.c (.raw (.int .i64 2)))⟩,
     ⟨(some 33), none, .bin .add .no (.t 29) (.t 32)⟩,
     ⟨(some 34), none, .bin .add .no (.t 33) (.c (.raw (.int .i64 1)))⟩,
     ⟨(some 35), none, .bin .leq .no (.t 28) (.t 34)⟩])
   (.cond (.t 35)
    .skip
    (.exit 0)))
   (.seq (.block 1 (.seq (.reg [⟨(some 38), none, .call 85 [(.t 9)]⟩,
     ⟨(some 39), none, .mov (.t 10)⟩,
     ⟨(some 40), none, .bin .sub .no (.t 39) (.c (.raw (.int .u64 1)))⟩,
     ⟨(some 41), none, .bin .and .no (.t 38) (.t 40)⟩,
     ⟨(some 42), none, .conv (.int .i64) (.t 41)⟩,
     ⟨(some 12), none, .mov (.t 42)⟩])
   (.seq (.seq (.reg [⟨(some 43), none, .mov (.t 12)⟩,
     ⟨(some 44), none, .mov (.t 8)⟩,
     ⟨(some 45), none, .bin .geq .no (.t 43) (.t 44)⟩])
   (.cond (.t 45)
    (.reg [⟨(some 46), none, .mov (.t 12)⟩,
      ⟨(some 47), none, .mov (.t 8)⟩,
      ⟨(some 48), none, .bin .sub .no (.t 46) (.t 47)⟩,
      ⟨(some 12), none, .mov (.t 48)⟩])
    .skip))
   (.draw [⟨(some 49), none, .mov (.t 0)⟩,
     ⟨(some 50), none, .mov (.t 11)⟩,
     ⟨(some 51), none, .mov (.t 0)⟩,
     ⟨(some 52), none, .mov (.t 1)⟩,
     ⟨(some 53), none, .mov (.t 12)⟩,
     ⟨(some 54), none, .bin .add .no (.t 52) (.t 53)⟩,
     ⟨(some 55), none, .mov (.t 0)⟩,
     ⟨(some 56), none, .mov (.t 1)⟩,
     ⟨(some 57), none, .mov (.t 12)⟩,
     ⟨(some 58), none, .bin .add .no (.t 56) (.t 57)⟩,
     ⟨(some 59), none, .iaddr 2 none (.t 55) (.t 58)⟩,
     ⟨(some 60), none, .load (some 2) (.t 59)⟩,
     ⟨(some 61), none, .mov (.t 0)⟩,
     ⟨(some 62), none, .mov (.t 11)⟩,
     ⟨(some 63), none, .iaddr 2 none (.t 61) (.t 62)⟩,
     ⟨(some 64), none, .load (some 2) (.t 63)⟩,
     ⟨(some 65), none, .iaddr 2 none (.t 49) (.t 50)⟩,
     ⟨none, none, .store (some 2) (.t 65) (.t 60)⟩,
     ⟨(some 66), none, .iaddr 2 none (.t 51) (.t 54)⟩,
     ⟨none, none, .store (some 2) (.t 66) (.t 64)⟩]
     (.fl 0 (.fl 1 (.fl 2 (.fl 3 (.fl 4 (.fl 5 (.fl 6 (.fl 7 (.fl 8 (.fl 9 (.fr 10 (.fr 11 (.fl 12 (.fl 13 (.fr 14 (.fr 15 (.fr 16 (.st 17 [] (.fr 18 (.st 19 [] .done))))))))))))))))))))))))
   (.reg [⟨(some 36), none, .mov (.t 11)⟩,
     ⟨(some 37), none, .bin .add .no (.t 36) (.c (.raw (.int .i64 1)))⟩,
     ⟨(some 11), none, .mov (.t 37)⟩]))))))))
  .skip)))
theorem i_slices_breakPatternsCmpFunc_api_Dot : Is Try.prog 75 67 [] c_slices_breakPatternsCmpFunc_api_Dot := ⟨Try.f75, _, p_slices_breakPatternsCmpFunc_api_Dot, rfl, rfl, by kernel_rfl, by kernel_rfl, rfl⟩
def p_slices_choosePivotCmpFunc_api_Dot : List (Nat × Pl) := []
def c_slices_choosePivotCmpFunc_api_Dot : VCode :=
 (.seq (.reg [⟨(some 8), none, .mov (.c (.raw (.int .i64 0)))⟩,
   ⟨(some 9), none, .mov (.c (.raw (.int .i64 0)))⟩])
 (.seq (.reg [⟨(some 15), none, .mov (.t 2)⟩,
   ⟨(some 16), none, .mov (.t 1)⟩,
   ⟨(some 17), none, .bin .sub .no (.t 15) (.t 16)⟩,
   ⟨(some 10), none, .mov (.t 17)⟩])
 (.seq (.reg [⟨(some 11), none, .new 3 [(.int .i64 0)]⟩])
 (.seq (.reg [⟨(some 18), none, .mov (.t 1)⟩,
   ⟨(some 19), none, .mov (.t 10)⟩,
   ⟨(some 20), none, .bin .quo .no (.t 19) (.c (.raw (.int .i64 4)))⟩,
   ⟨(some 21), none, .bin .mul .no (.t 20) (.c (.raw (.int .i64 1)))⟩,
   ⟨(some 22), none, .bin .add .no (.t 18) (.t 21)⟩,
   ⟨(some 12), none, .mov (.t 22)⟩])
 (.seq (.reg [⟨(some 23), none, .mov (.t 1)⟩,
   ⟨(some 24), none, .mov (.t 10)⟩,
   ⟨(some 25), none, .bin .quo .no (.t 24) (.c (.raw (.int .i64 4)))⟩,
   ⟨(some 26), none, .bin .mul .no (.t 25) (.c (.raw (.int .i64 2)))⟩,
   ⟨(some 27), none, .bin .add .no (.t 23) (.t 26)⟩,
   ⟨(some 13), none, .mov (.t 27)⟩])
 (.seq (.reg [⟨(some 28), none, .mov (.t 1)⟩,
   ⟨(some 29), none, .mov (.t 10)⟩,
   ⟨(some 30), none, .bin .quo .no (.t 29) (.c (.raw (.int .i64 4)))⟩,
   ⟨(some 31), none, .bin .mul .no (.t 30) (.c (.raw (.int .i64 3)))⟩,
   ⟨(some 32), none, .bin .add .no (.t 28) (.t 31)⟩,
   ⟨(some 14), none, .mov (.t 32)⟩])
 (.seq (.seq (.reg [⟨(some 33), none, .mov (.t 10)⟩,
   ⟨(some 34), none, .bin .geq .no (.t 33) (.c (.raw (.int .i64 8)))⟩])
 (.cond (.t 34)
  (.seq (.seq (.reg [⟨(some 35), none, .mov (.t 10)⟩,
    ⟨(some 36), none, .bin .geq .no (.t 35) (.c (.raw (.int .i64 50)))⟩])
  (.cond (.t 36)
   (.seq (.reg [⟨(some 37), none, .mov (.t 0)⟩,
     ⟨(some 38), none, .mov (.t 12)⟩,
     ⟨(some 39), none, .mov (.t 3)⟩,
     ⟨(some 40), none, .call 86 [(.t 37), (.t 38), (.t 11), (.t 39)]⟩,
     ⟨(some 12), none, .mov (.t 40)⟩])
   (.seq (.reg [⟨(some 41), none, .mov (.t 0)⟩,
     ⟨(some 42), none, .mov (.t 13)⟩,
     ⟨(some 43), none, .mov (.t 3)⟩,
     ⟨(some 44), none, .call 86 [(.t 41), (.t 42), (.t 11), (.t 43)]⟩,
     ⟨(some 13), none, .mov (.t 44)⟩])
   (.reg [⟨(some 45), none, .mov (.t 0)⟩,
     ⟨(some 46), none, .mov (.t 14)⟩,
     ⟨(some 47), none, .mov (.t 3)⟩,
     ⟨(some 48), none, .call 86 [(.t 45), (.t 46), (.t 11), (.t 47)]⟩,
     ⟨(some 14), none, .mov (.t 48)⟩])))
   .skip))
  (.reg [⟨(some 49), none, .mov (.t 0)⟩,
    ⟨(some 50), none, .mov (.t 12)⟩,
    ⟨(some 51), none, .mov (.t 13)⟩,
    ⟨(some 52), none, .mov (.t 14)⟩,
    ⟨(some 53), none, .mov (.t 3)⟩,
    ⟨(some 54), none, .call 87 [(.t 49), (.t 50), (.t 51), (.t 52), (.t 11), (.t 53)]⟩,
    ⟨(some 13), none, .mov (.t 54)⟩]))
  .skip))
 (.seq (.reg [⟨(some 55), none, .load none (.t 11)⟩])
 (.block 0 (.seq (.reg [⟨(some 58), none, .bin .eql .no (.t 55) (.c (.raw (.int .i64 0)))⟩,
   ⟨(some 57), none, .mov (.t 58)⟩])
 (.cond (.t 57)
  (.seq (.reg [⟨(some 59), none, .mov (.t 13)⟩,
    ⟨(some 8), none, .mov (.t 59)⟩,
    ⟨(some 9), none, .mov (.c (.raw (.int .i64 1)))⟩])
  .ret)
  (.seq (.reg [⟨(some 61), none, .bin .eql .no (.t 55) (.c (.raw (.int .i64 12)))⟩,
    ⟨(some 60), none, .mov (.t 61)⟩])
  (.cond (.t 60)
   (.seq (.reg [⟨(some 62), none, .mov (.t 13)⟩,
     ⟨(some 8), none, .mov (.t 62)⟩,
     ⟨(some 9), none, .mov (.c (.raw (.int .i64 2)))⟩])
   .ret)
   (.seq (.reg [⟨(some 56), none, .mov (.t 13)⟩,
     ⟨(some 8), none, .mov (.t 56)⟩,
     ⟨(some 9), none, .mov (.c (.raw (.int .i64 0)))⟩])
   .ret))))))))))))))
theorem i_slices_choosePivotCmpFunc_api_Dot : Is Try.prog 76 63 [.t 8, .t 9] c_slices_choosePivotCmpFunc_api_Dot := ⟨Try.f76, _, p_slices_choosePivotCmpFunc_api_Dot, rfl, rfl, by kernel_rfl, by kernel_rfl, rfl⟩
def p_slices_reverseRangeCmpFunc_api_Dot : List (Nat × Pl) := [(3, (.fl 0 (.fl 1 (.fl 2 (.fl 3 (.fl 4 (.fl 5 (.fr 6 (.fr 7 (.fl 8 (.fl 9 (.fr 10 (.fr 11 (.fr 12 (.st 13 [] (.fr 14 (.st 15 [] .done)))))))))))))))))]
def c_slices_reverseRangeCmpFunc_api_Dot : VCode :=
 (.seq (.reg [⟨(some 10), none, .mov (.t 1)⟩,
   ⟨(some 8), none, .mov (.t 10)⟩])
 (.seq (.reg [⟨(some 11), none, .mov (.t 2)⟩,
   ⟨(some 12), none, .bin .sub .no (.t 11) (.c (.raw (.int .i64 1)))⟩,
   ⟨(some 9), none, .mov (.t 12)⟩])
 (.block 0 (.loop (.seq (.seq (.reg [⟨(some 13), none, .mov (.t 8)⟩,
    ⟨(some 14), none, .mov (.t 9)⟩,
    ⟨(some 15), none, .bin .lss .no (.t 13) (.t 14)⟩])
  (.cond (.t 15)
   .skip
   (.exit 0)))
  (.block 1 (.seq (.draw [⟨(some 16), none, .mov (.t 0)⟩,
    ⟨(some 17), none, .mov (.t 8)⟩,
    ⟨(some 18), none, .mov (.t 0)⟩,
    ⟨(some 19), none, .mov (.t 9)⟩,
    ⟨(some 20), none, .mov (.t 0)⟩,
    ⟨(some 21), none, .mov (.t 9)⟩,
    ⟨(some 22), none, .iaddr 2 none (.t 20) (.t 21)⟩,
    ⟨(some 23), none, .load (some 2) (.t 22)⟩,
    ⟨(some 24), none, .mov (.t 0)⟩,
    ⟨(some 25), none, .mov (.t 8)⟩,
    ⟨(some 26), none, .iaddr 2 none (.t 24) (.t 25)⟩,
    ⟨(some 27), none, .load (some 2) (.t 26)⟩,
    ⟨(some 28), none, .iaddr 2 none (.t 16) (.t 17)⟩,
    ⟨none, none, .store (some 2) (.t 28) (.t 23)⟩,
    ⟨(some 29), none, .iaddr 2 none (.t 18) (.t 19)⟩,
    ⟨none, none, .store (some 2) (.t 29) (.t 27)⟩]
    (.fl 0 (.fl 1 (.fl 2 (.fl 3 (.fl 4 (.fl 5 (.fr 6 (.fr 7 (.fl 8 (.fl 9 (.fr 10 (.fr 11 (.fr 12 (.st 13 [] (.fr 14 (.st 15 [] .done)))))))))))))))))
  (.seq (.reg [⟨(some 30), none, .mov (.t 8)⟩,
    ⟨(some 31), none, .bin .add .no (.t 30) (.c (.raw (.int .i64 1)))⟩,
    ⟨(some 8), none, .mov (.t 31)⟩])
  (.reg [⟨(some 32), none, .mov (.t 9)⟩,
    ⟨(some 33), none, .bin .sub .no (.t 32) (.c (.raw (.int .i64 1)))⟩,
    ⟨(some 9), none, .mov (.t 33)⟩])))))))))
theorem i_slices_reverseRangeCmpFunc_api_Dot : Is Try.prog 77 34 [] c_slices_reverseRangeCmpFunc_api_Dot := ⟨Try.f77, _, p_slices_reverseRangeCmpFunc_api_Dot, rfl, rfl, by kernel_rfl, by kernel_rfl, rfl⟩
def p_slices_partialInsertionSortCmpFunc_api_Dot : List (Nat × Pl) := [(5, (.fl 0 (.fl 1 (.fl 2 (.fl 3 (.fl 4 (.fl 5 (.fl 6 (.fr 7 (.fr 8 (.fl 9 (.fl 10 (.fl 11 (.fr 12 (.fr 13 (.st 14 [] (.fl 15 (.fl 16 (.fl 17 .done))))))))))))))))))), (11, (.fl 0 (.fl 1 (.fl 2 (.fl 3 (.fl 4 (.fl 5 (.fl 6 (.fl 7 (.fr 8 (.fr 9 (.fl 10 (.fl 11 (.fr 12 (.fr 13 (.fr 14 (.st 15 [] (.fr 16 (.st 17 [] .done))))))))))))))))))), (16, (.fl 0 (.fl 1 (.fl 2 (.fr 3 (.fr 4 (.fl 5 (.fl 6 (.fl 7 (.fr 8 (.fr 9 (.st 10 [] (.fl 11 (.fl 12 .done)))))))))))))), (17, (.fl 0 (.fl 1 (.fl 2 (.fl 3 (.fl 4 (.fl 5 (.fl 6 (.fl 7 (.fr 8 (.fr 9 (.fl 10 (.fl 11 (.fr 12 (.fr 13 (.fr 14 (.st 15 [] (.fr 16 (.st 17 [] .done))))))))))))))))))), (22, (.fl 0 (.fl 1 (.fl 2 (.fr 3 (.fr 4 (.fl 5 (.fl 6 (.fl 7 (.fr 8 (.fr 9 (.st 10 [] (.fl 11 (.fl 12 .done)))))))))))))), (23, (.fl 0 (.fl 1 (.fl 2 (.fl 3 (.fl 4 (.fl 5 (.fl 6 (.fl 7 (.fr 8 (.fr 9 (.fl 10 (.fl 11 (.fr 12 (.fr 13 (.fr 14 (.st 15 [] (.fr 16 (.st 17 [] .done)))))))))))))))))))]
def c_slices_partialInsertionSortCmpFunc_api_Dot : VCode :=
 (.seq (.reg [⟨(some 8), none, .mov (.c (.kb false))⟩])
 (.seq (.reg [⟨(some 13), none, .mov (.t 1)⟩,
   ⟨(some 14), none, .bin .add .no (.t 13) (.c (.raw (.int .i64 1)))⟩,
   ⟨(some 9), none, .mov (.t 14)⟩])
 (.seq (.seq (.reg [⟨(some 10), none, .mov (.c (.raw (.int .i64 0)))⟩])
 (.block 0 (.loop (.seq (.seq (.reg [⟨(some 15), none, .mov (.t 10)⟩,
    ⟨(some 16), none, .bin .lss .no (.t 15) (.c (.raw (.int .i64 5)))⟩])
  (.cond (.t 16)
   .skip
   (.exit 0)))
  (.seq (.block 1 (.seq (.block 2 (.loop (.seq (.seq (.draw [⟨(some 19), none, .mov (.t 9)⟩,
     ⟨(some 20), none, .mov (.t 2)⟩,
     ⟨(some 21), none, .bin .lss .no (.t 19) (.t 20)⟩,
     ⟨(some 22), none, .mov (.t 21)⟩,
     ⟨(some 23), (some (22, true)), .mov (.t 3)⟩,
     ⟨(some 24), (some (22, true)), .mov (.t 0)⟩,
     ⟨(some 25), (some (22, true)), .mov (.t 9)⟩,
     ⟨(some 26), (some (22, true)), .iaddr 2 none (.t 24) (.t 25)⟩,
     ⟨(some 27), (some (22, true)), .load (some 2) (.t 26)⟩,
     ⟨(some 28), (some (22, true)), .mov (.t 0)⟩,
     ⟨(some 29), (some (22, true)), .mov (.t 9)⟩,
     ⟨(some 30), (some (22, true)), .bin .sub .no (.t 29) (.c (.raw (.int .i64 1)))⟩,
     ⟨(some 31), (some (22, true)), .iaddr 2 none (.t 28) (.t 30)⟩,
     ⟨(some 32), (some (22, true)), .load (some 2) (.t 31)⟩,
     ⟨(some 33), (some (22, true)), .callv (.t 23) [(.t 27), (.t 32)]⟩,
     ⟨(some 34), (some (22, true)), .bin .lss .no (.t 33) (.c (.raw (.int .i64 0)))⟩,
     ⟨(some 35), (some (22, true)), .un .not (.t 34)⟩,
     ⟨(some 36), none, .pick (.t 22) (.t 35) (.c (.kb false))⟩]
     (.fl 0 (.fl 1 (.fl 2 (.fl 3 (.fl 4 (.fl 5 (.fl 6 (.fr 7 (.fr 8 (.fl 9 (.fl 10 (.fl 11 (.fr 12 (.fr 13 (.st 14 [] (.fl 15 (.fl 16 (.fl 17 .done)))))))))))))))))))
   (.cond (.t 36)
    .skip
    (.exit 2)))
   (.block 3 (.reg [⟨(some 37), none, .mov (.t 9)⟩,
     ⟨(some 38), none, .bin .add .no (.t 37) (.c (.raw (.int .i64 1)))⟩,
     ⟨(some 9), none, .mov (.t 38)⟩])))))
  (.seq (.seq (.reg [⟨(some 39), none, .mov (.t 9)⟩,
    ⟨(some 40), none, .mov (.t 2)⟩,
    ⟨(some 41), none, .bin .eql .no (.t 39) (.t 40)⟩])
  (.cond (.t 41)
   (.seq (.reg [⟨(some 8), none, .mov (.c (.kb true))⟩])
   .ret)
   .skip))
  (.seq (.seq (.reg [⟨(some 42), none, .mov (.t 2)⟩,
    ⟨(some 43), none, .mov (.t 1)⟩,
    ⟨(some 44), none, .bin .sub .no (.t 42) (.t 43)⟩,
    ⟨(some 45), none, .bin .lss .no (.t 44) (.c (.raw (.int .i64 50)))⟩])
  (.cond (.t 45)
   (.seq (.reg [⟨(some 8), none, .mov (.c (.kb false))⟩])
   .ret)
   .skip))
  (.seq (.draw [⟨(some 46), none, .mov (.t 0)⟩,
    ⟨(some 47), none, .mov (.t 9)⟩,
    ⟨(some 48), none, .mov (.t 0)⟩,
    ⟨(some 49), none, .mov (.t 9)⟩,
    ⟨(some 50), none, .bin .sub .no (.t 49) (.c (.raw (.int .i64 1)))⟩,
    ⟨(some 51), none, .mov (.t 0)⟩,
    ⟨(some 52), none, .mov (.t 9)⟩,
    ⟨(some 53), none, .bin .sub .no (.t 52) (.c (.raw (.int .i64 1)))⟩,
    ⟨(some 54), none, .iaddr 2 none (.t 51) (.t 53)⟩,
    ⟨(some 55), none, .load (some 2) (.t 54)⟩,
    ⟨(some 56), none, .mov (.t 0)⟩,
    ⟨(some 57), none, .mov (.t 9)⟩,
    ⟨(some 58), none, .iaddr 2 none (.t 56) (.t 57)⟩,
    ⟨(some 59), none, .load (some 2) (.t 58)⟩,
    ⟨(some 60), none, .iaddr 2 none (.t 46) (.t 47)⟩,
    ⟨none, none, .store (some 2) (.t 60) (.t 55)⟩,
    ⟨(some 61), none, .iaddr 2 none (.t 48) (.t 50)⟩,
    ⟨none, none, .store (some 2) (.t 61) (.t 59)⟩]
    (.fl 0 (.fl 1 (.fl 2 (.fl 3 (.fl 4 (.fl 5 (.fl 6 (.fl 7 (.fr 8 (.fr 9 (.fl 10 (.fl 11 (.fr 12 (.fr 13 (.fr 14 (.st 15 [] (.fr 16 (.st 17 [] .done)))))))))))))))))))
  (.seq (.seq (.reg [⟨(some 62), none, .mov (.t 9)⟩,
    ⟨(some 63), none, .mov (.t 1)⟩,
    ⟨(some 64), none, .bin .sub .no (.t 62) (.t 63)⟩,
    ⟨(some 65), none, .bin .geq .no (.t 64) (.c (.raw (.int .i64 2)))⟩])
  (.cond (.t 65)
   (.seq (.reg [⟨(some 66), none, .mov (.t 9)⟩,
     ⟨(some 67), none, .bin .sub .no (.t 66) (.c (.raw (.int .i64 1)))⟩,
     ⟨(some 11), none, .mov (.t 67)⟩])
   (.block 4 (.loop (.seq (.seq (.reg [⟨(some 68), none, .mov (.t 11)⟩,
      ⟨(some 69), none, .bin .geq .no (.t 68) (.c (.raw (.int .i64 1)))⟩])
    (.cond (.t 69)
     .skip
     (.exit 4)))
    (.seq (.block 5 (.seq (.seq (.draw [⟨(some 72), none, .mov (.t 3)⟩,
      ⟨(some 73), none, .mov (.t 0)⟩,
      ⟨(some 74), none, .mov (.t 11)⟩,
      ⟨(some 75), none, .iaddr 2 none (.t 73) (.t 74)⟩,
      ⟨(some 76), none, .load (some 2) (.t 75)⟩,
      ⟨(some 77), none, .mov (.t 0)⟩,
      ⟨(some 78), none, .mov (.t 11)⟩,
      ⟨(some 79), none, .bin .sub .no (.t 78) (.c (.raw (.int .i64 1)))⟩,
      ⟨(some 80), none, .iaddr 2 none (.t 77) (.t 79)⟩,
      ⟨(some 81), none, .load (some 2) (.t 80)⟩,
      ⟨(some 82), none, .callv (.t 72) [(.t 76), (.t 81)]⟩,
      ⟨(some 83), none, .bin .lss .no (.t 82) (.c (.raw (.int .i64 0)))⟩,
      ⟨(some 84), none, .un .not (.t 83)⟩]
      (.fl 0 (.fl 1 (.fl 2 (.fr 3 (.fr 4 (.fl 5 (.fl 6 (.fl 7 (.fr 8 (.fr 9 (.st 10 [] (.fl 11 (.fl 12 .done))))))))))))))
    (.cond (.t 84)
     (.exit 4)
     .skip))
    (.draw [⟨(some 85), none, .mov (.t 0)⟩,
      ⟨(some 86), none, .mov (.t 11)⟩,
      ⟨(some 87), none, .mov (.t 0)⟩,
      ⟨(some 88), none, .mov (.t 11)⟩,
      ⟨(some 89), none, .bin .sub .no (.t 88) (.c (.raw (.int .i64 1)))⟩,
      ⟨(some 90), none, .mov (.t 0)⟩,
      ⟨(some 91), none, .mov (.t 11)⟩,
      ⟨(some 92), none, .bin .sub .no (.t 91) (.c (.raw (.int .i64 1)))⟩,
      ⟨(some 93), none, .iaddr 2 none (.t 90) (.t 92)⟩,
      ⟨(some 94), none, .load (some 2) (.t 93)⟩,
      ⟨(some 95), none, .mov (.t 0)⟩,
      ⟨(some 96), none, .mov (.t 11)⟩,
      ⟨(some 97), none, .iaddr 2 none (.t 95) (.t 96)⟩,
      ⟨(some 98), none, .load (some 2) (.t 97)⟩,
      ⟨(some 99), none, .iaddr 2 none (.t 85) (.t 86)⟩,
      ⟨none, none, .store (some 2) (.t 99) (.t 94)⟩,
      ⟨(some 100), none, .iaddr 2 none (.t 87) (.t 89)⟩,
      ⟨none, none, .store (some 2) (.t 100) (.t 98)⟩]
      (.fl 0 (.fl 1 (.fl 2 (.fl 3 (.fl 4 (.fl 5 (.fl 6 (.fl 7 (.fr 8 (.fr 9 (.fl 10 (.fl 11 (.fr 12 (.fr 13 (.fr 14 (.st 15 [] (.fr 16 (.st 17 [] .done)))))))))))))))))))))
    (.reg [⟨(some 70), none, .mov (.t 11)⟩,
      ⟨(some 71), none, .bin .sub .no (.t 70) (.c (.raw (.int .i64 1)))⟩,
      ⟨(some 11), none, .mov (.t 71)⟩]))))))
   .skip))
  (.seq (.reg [⟨(some 101), none, .mov (.t 2)⟩,
    ⟨(some 102), none, .mov (.t 9)⟩,
    ⟨(some 103), none, .bin .sub .no (.t 101) (.t 102)⟩,
    ⟨(some 104), none, .bin .geq .no (.t 103) (.c (.raw (.int .i64 2)))⟩])
  (.cond (.t 104)
   (.seq (.reg [⟨(some 105), none, .mov (.t 9)⟩,
     ⟨(some 106), none, .bin .add .no (.t 105) (.c (.raw (.int .i64 1)))⟩,
     ⟨(some 12), none, .mov (.t 106)⟩])
   (.block 6 (.loop (.seq (.seq (.reg [⟨(some 107), none, .mov (.t 12)⟩,
      ⟨(some 108), none, .mov (.t 2)⟩,
      ⟨(some 109), none, .bin .lss .no (.t 107) (.t 108)⟩])
    (.cond (.t 109)
     .skip
     (.exit 6)))
    (.seq (.block 7 (.seq (.seq (.draw [⟨(some 112), none, .mov (.t 3)⟩,
      ⟨(some 113), none, .mov (.t 0)⟩,
      ⟨(some 114), none, .mov (.t 12)⟩,
      ⟨(some 115), none, .iaddr 2 none (.t 113) (.t 114)⟩,
      ⟨(some 116), none, .load (some 2) (.t 115)⟩,
      ⟨(some 117), none, .mov (.t 0)⟩,
      ⟨(some 118), none, .mov (.t 12)⟩,
      ⟨(some 119), none, .bin .sub .no (.t 118) (.c (.raw (.int .i64 1)))⟩,
      ⟨(some 120), none, .iaddr 2 none (.t 117) (.t 119)⟩,
      ⟨(some 121), none, .load (some 2) (.t 120)⟩,
      ⟨(some 122), none, .callv (.t 112) [(.t 116), (.t 121)]⟩,
      ⟨(some 123), none, .bin .lss .no (.t 122) (.c (.raw (.int .i64 0)))⟩,
      ⟨(some 124), none, .un .not (.t 123)⟩]
      (.fl 0 (.fl 1 (.fl 2 (.fr 3 (.fr 4 (.fl 5 (.fl 6 (.fl 7 (.fr 8 (.fr 9 (.st 10 [] (.fl 11 (.fl 12 .done))))))))))))))
    (.cond (.t 124)
     (.exit 6)
     .skip))
    (.draw [⟨(some 125), none, .mov (.t 0)⟩,
      ⟨(some 126), none, .mov (.t 12)⟩,
      ⟨(some 127), none, .mov (.t 0)⟩,
      ⟨(some 128), none, .mov (.t 12)⟩,
      ⟨(some 129), none, .bin .sub .no (.t 128) (.c (.raw (.int .i64 1)))⟩,
      ⟨(some 130), none, .mov (.t 0)⟩,
      ⟨(some 131), none, .mov (.t 12)⟩,
      ⟨(some 132), none, .bin .sub .no (.t 131) (.c (.raw (.int .i64 1)))⟩,
      ⟨(some 133), none, .iaddr 2 none (.t 130) (.t 132)⟩,
      ⟨(some 134), none, .load (some 2) (.t 133)⟩,
      ⟨(some 135), none, .mov (.t 0)⟩,
      ⟨(some 136), none, .mov (.t 12)⟩,
      ⟨(some 137), none, .iaddr 2 none (.t 135) (.t 136)⟩,
      ⟨(some 138), none, .load (some 2) (.t 137)⟩,
      ⟨(some 139), none, .iaddr 2 none (.t 125) (.t 126)⟩,
      ⟨none, none, .store (some 2) (.t 139) (.t 134)⟩,
      ⟨(some 140), none, .iaddr 2 none (.t 127) (.t 129)⟩,
      ⟨none, none, .store (some 2) (.t 140) (.t 138)⟩]
      (.fl 0 (.fl 1 (.fl 2 (.fl 3 (.fl 4 (.fl 5 (.fl 6 (.fl 7 (.fr 8 (.fr 9 (.fl 10 (.fl 11 (.fr 12 (.fr 13 (.fr 14 (.st 15 [] (.fr 16 (.st 17 [] .done)))))))))))))))))))))
    (.reg [⟨(some 110), none, .mov (.t 12)⟩,
      ⟨(some 111), none, .bin .add .no (.t 110) (.c (.raw (.int .i64 1)))⟩,
      ⟨(some 12), none, .mov (.t 111)⟩]))))))
   .skip))))))))
  (.reg [⟨(some 17), none, .mov (.t 10)⟩,
    ⟨(some 18), none, .bin .add .no (.t 17) (.c (.raw (.int .i64 1)))⟩,
    ⟨(some 10), none, .mov (.t 18)⟩]))))))
 (.seq (.reg [⟨(some 8), none, .mov (.c (.kb false))⟩])
 .ret))))
theorem i_slices_partialInsertionSortCmpFunc_api_Dot : Is Try.prog 78 141 [.t 8] c_slices_partialInsertionSortCmpFunc_api_Dot := ⟨Try.f78, _, p_slices_partialInsertionSortCmpFunc_api_Dot, rfl, rfl, by kernel_rfl, by kernel_rfl, rfl⟩
def p_slices_partitionEqualCmpFunc_api_Dot : List (Nat × Pl) := [(1, (.fl 0 (.fl 1 (.fl 2 (.fl 3 (.fl 4 (.fl 5 (.fr 6 (.fr 7 (.fl 8 (.fl 9 (.fr 10 (.fr 11 (.fr 12 (.st 13 [] (.fr 14 (.st 15 [] .done))))))))))))))))), (3, (.fl 0 (.fl 1 (.fl 2 (.fl 3 (.fl 4 (.fl 5 (.fl 6 (.fr 7 (.fr 8 (.fl 9 (.fl 10 (.fr 11 (.fr 12 (.st 13 [] (.fl 14 (.fl 15 (.fl 16 .done)))))))))))))))))), (5, (.fl 0 (.fl 1 (.fl 2 (.fl 3 (.fl 4 (.fl 5 (.fl 6 (.fr 7 (.fr 8 (.fl 9 (.fl 10 (.fr 11 (.fr 12 (.st 13 [] (.fl 14 (.fl 15 .done))))))))))))))))), (8, (.fl 0 (.fl 1 (.fl 2 (.fl 3 (.fl 4 (.fl 5 (.fr 6 (.fr 7 (.fl 8 (.fl 9 (.fr 10 (.fr 11 (.fr 12 (.st 13 [] (.fr 14 (.st 15 [] .done)))))))))))))))))]
def c_slices_partitionEqualCmpFunc_api_Dot : VCode :=
 (.seq (.reg [⟨(some 10), none, .mov (.c (.raw (.int .i64 0)))⟩])
 (.seq (.draw [⟨(some 13), none, .mov (.t 0)⟩,
   ⟨(some 14), none, .mov (.t 1)⟩,
   ⟨(some 15), none, .mov (.t 0)⟩,
   ⟨(some 16), none, .mov (.t 3)⟩,
   ⟨(some 17), none, .mov (.t 0)⟩,
   ⟨(some 18), none, .mov (.t 3)⟩,
   ⟨(some 19), none, .iaddr 2 none (.t 17) (.t 18)⟩,
   ⟨(some 20), none, .load (some 2) (.t 19)⟩,
   ⟨(some 21), none, .mov (.t 0)⟩,
   ⟨(some 22), none, .mov (.t 1)⟩,
   ⟨(some 23), none, .iaddr 2 none (.t 21) (.t 22)⟩,
   ⟨(some 24), none, .load (some 2) (.t 23)⟩,
   ⟨(some 25), none, .iaddr 2 none (.t 13) (.t 14)⟩,
   ⟨none, none, .store (some 2) (.t 25) (.t 20)⟩,
   ⟨(some 26), none, .iaddr 2 none (.t 15) (.t 16)⟩,
   ⟨none, none, .store (some 2) (.t 26) (.t 24)⟩]
   (.fl 0 (.fl 1 (.fl 2 (.fl 3 (.fl 4 (.fl 5 (.fr 6 (.fr 7 (.fl 8 (.fl 9 (.fr 10 (.fr 11 (.fr 12 (.st 13 [] (.fr 14 (.st 15 [] .done)))))))))))))))))
 (.seq (.reg [⟨(some 27), none, .mov (.t 1)⟩,
   ⟨(some 28), none, .bin .add .no (.t 27) (.c (.raw (.int .i64 1)))⟩,
   ⟨(some 29), none, .mov (.t 2)⟩,
   ⟨(some 30), none, .bin .sub .no (.t 29) (.c (.raw (.int .i64 1)))⟩,
   ⟨(some 11), none, .mov (.t 28)⟩,
   ⟨(some 12), none, .mov (.t 30)⟩])
 (.seq (.block 0 (.loop (.block 1 (.seq (.block 2 (.loop (.seq (.seq (.draw [⟨(some 31), none, .mov (.t 11)⟩,
     ⟨(some 32), none, .mov (.t 12)⟩,
     ⟨(some 33), none, .bin .leq .no (.t 31) (.t 32)⟩,
     ⟨(some 34), none, .mov (.t 33)⟩,
     ⟨(some 35), (some (34, true)), .mov (.t 4)⟩,
     ⟨(some 36), (some (34, true)), .mov (.t 0)⟩,
     ⟨(some 37), (some (34, true)), .mov (.t 1)⟩,
     ⟨(some 38), (some (34, true)), .iaddr 2 none (.t 36) (.t 37)⟩,
     ⟨(some 39), (some (34, true)), .load (some 2) (.t 38)⟩,
     ⟨(some 40), (some (34, true)), .mov (.t 0)⟩,
     ⟨(some 41), (some (34, true)), .mov (.t 11)⟩,
     ⟨(some 42), (some (34, true)), .iaddr 2 none (.t 40) (.t 41)⟩,
     ⟨(some 43), (some (34, true)), .load (some 2) (.t 42)⟩,
     ⟨(some 44), (some (34, true)), .callv (.t 35) [(.t 39), (.t 43)]⟩,
     ⟨(some 45), (some (34, true)), .bin .lss .no (.t 44) (.c (.raw (.int .i64 0)))⟩,
     ⟨(some 46), (some (34, true)), .un .not (.t 45)⟩,
     ⟨(some 47), none, .pick (.t 34) (.t 46) (.c (.kb false))⟩]
     (.fl 0 (.fl 1 (.fl 2 (.fl 3 (.fl 4 (.fl 5 (.fl 6 (.fr 7 (.fr 8 (.fl 9 (.fl 10 (.fr 11 (.fr 12 (.st 13 [] (.fl 14 (.fl 15 (.fl 16 .done))))))))))))))))))
   (.cond (.t 47)
    .skip
    (.exit 2)))
   (.block 3 (.reg [⟨(some 48), none, .mov (.t 11)⟩,
     ⟨(some 49), none, .bin .add .no (.t 48) (.c (.raw (.int .i64 1)))⟩,
     ⟨(some 11), none, .mov (.t 49)⟩])))))
  (.seq (.block 4 (.loop (.seq (.seq (.draw [⟨(some 50), none, .mov (.t 11)⟩,
     ⟨(some 51), none, .mov (.t 12)⟩,
     ⟨(some 52), none, .bin .leq .no (.t 50) (.t 51)⟩,
     ⟨(some 53), none, .mov (.t 52)⟩,
     ⟨(some 54), (some (53, true)), .mov (.t 4)⟩,
     ⟨(some 55), (some (53, true)), .mov (.t 0)⟩,
     ⟨(some 56), (some (53, true)), .mov (.t 1)⟩,
     ⟨(some 57), (some (53, true)), .iaddr 2 none (.t 55) (.t 56)⟩,
     ⟨(some 58), (some (53, true)), .load (some 2) (.t 57)⟩,
     ⟨(some 59), (some (53, true)), .mov (.t 0)⟩,
     ⟨(some 60), (some (53, true)), .mov (.t 12)⟩,
     ⟨(some 61), (some (53, true)), .iaddr 2 none (.t 59) (.t 60)⟩,
     ⟨(some 62), (some (53, true)), .load (some 2) (.t 61)⟩,
     ⟨(some 63), (some (53, true)), .callv (.t 54) [(.t 58), (.t 62)]⟩,
     ⟨(some 64), (some (53, true)), .bin .lss .no (.t 63) (.c (.raw (.int .i64 0)))⟩,
     ⟨(some 65), none, .pick (.t 53) (.t 64) (.c (.kb false))⟩]
     (.fl 0 (.fl 1 (.fl 2 (.fl 3 (.fl 4 (.fl 5 (.fl 6 (.fr 7 (.fr 8 (.fl 9 (.fl 10 (.fr 11 (.fr 12 (.st 13 [] (.fl 14 (.fl 15 .done)))))))))))))))))
   (.cond (.t 65)
    .skip
    (.exit 4)))
   (.block 5 (.reg [⟨(some 66), none, .mov (.t 12)⟩,
     ⟨(some 67), none, .bin .sub .no (.t 66) (.c (.raw (.int .i64 1)))⟩,
     ⟨(some 12), none, .mov (.t 67)⟩])))))
  (.seq (.seq (.reg [⟨(some 68), none, .mov (.t 11)⟩,
    ⟨(some 69), none, .mov (.t 12)⟩,
    ⟨(some 70), none, .bin .gtr .no (.t 68) (.t 69)⟩])
  (.cond (.t 70)
   (.exit 0)
   .skip))
  (.seq (.draw [⟨(some 71), none, .mov (.t 0)⟩,
    ⟨(some 72), none, .mov (.t 11)⟩,
    ⟨(some 73), none, .mov (.t 0)⟩,
    ⟨(some 74), none, .mov (.t 12)⟩,
    ⟨(some 75), none, .mov (.t 0)⟩,
    ⟨(some 76), none, .mov (.t 12)⟩,
    ⟨(some 77), none, .iaddr 2 none (.t 75) (.t 76)⟩,
    ⟨(some 78), none, .load (some 2) (.t 77)⟩,
    ⟨(some 79), none, .mov (.t 0)⟩,
    ⟨(some 80), none, .mov (.t 11)⟩,
    ⟨(some 81), none, .iaddr 2 none (.t 79) (.t 80)⟩,
    ⟨(some 82), none, .load (some 2) (.t 81)⟩,
    ⟨(some 83), none, .iaddr 2 none (.t 71) (.t 72)⟩,
    ⟨none, none, .store (some 2) (.t 83) (.t 78)⟩,
    ⟨(some 84), none, .iaddr 2 none (.t 73) (.t 74)⟩,
    ⟨none, none, .store (some 2) (.t 84) (.t 82)⟩]
    (.fl 0 (.fl 1 (.fl 2 (.fl 3 (.fl 4 (.fl 5 (.fr 6 (.fr 7 (.fl 8 (.fl 9 (.fr 10 (.fr 11 (.fr 12 (.st 13 [] (.fr 14 (.st 15 [] .done)))))))))))))))))
  (.seq (.reg [⟨(some 85), none, .mov (.t 11)⟩,
    ⟨(some 86), none, .bin .add .no (.t 85) (.c (.raw (.int .i64 1)))⟩,
    ⟨(some 11), none, .mov (.t 86)⟩])
  (.reg [⟨(some 87), none, .mov (.t 12)⟩,
    ⟨(some 88), none, .bin .sub .no (.t 87) (.c (.raw (.int .i64 1)))⟩,
    ⟨(some 12), none, .mov (.t 88)⟩])))))))))
 (.seq (.reg [⟨(some 89), none, .mov (.t 11)⟩,
   ⟨(some 10), none, .mov (.t 89)⟩])
 .ret)))))
theorem i_slices_partitionEqualCmpFunc_api_Dot : Is Try.prog 79 90 [.t 10] c_slices_partitionEqualCmpFunc_api_Dot := ⟨Try.f79, _, p_slices_partitionEqualCmpFunc_api_Dot, rfl, rfl, by kernel_rfl, by kernel_rfl, rfl⟩
def p_slices_partitionCmpFunc_api_Dot : List (Nat × Pl) := [(1, (.fl 0 (.fl 1 (.fl 2 (.fl 3 (.fl 4 (.fl 5 (.fr 6 (.fr 7 (.fl 8 (.fl 9 (.fr 10 (.fr 11 (.fr 12 (.st 13 [] (.fr 14 (.st 15 [] .done))))))))))))))))), (3, (.fl 0 (.fl 1 (.fl 2 (.fl 3 (.fl 4 (.fl 5 (.fl 6 (.fr 7 (.fr 8 (.fl 9 (.fl 10 (.fr 11 (.fr 12 (.st 13 [] (.fl 14 (.fl 15 .done))))))))))))))))), (5, (.fl 0 (.fl 1 (.fl 2 (.fl 3 (.fl 4 (.fl 5 (.fl 6 (.fr 7 (.fr 8 (.fl 9 (.fl 10 (.fr 11 (.fr 12 (.st 13 [] (.fl 14 (.fl 15 (.fl 16 .done)))))))))))))))))), (8, (.fl 0 (.fl 1 (.fl 2 (.fl 3 (.fl 4 (.fl 5 (.fr 6 (.fr 7 (.fl 8 (.fl 9 (.fr 10 (.fr 11 (.fr 12 (.st 13 [] (.fr 14 (.st 15 [] .done))))))))))))))))), (10, (.fl 0 (.fl 1 (.fl 2 (.fl 3 (.fl 4 (.fl 5 (.fr 6 (.fr 7 (.fl 8 (.fl 9 (.fr 10 (.fr 11 (.fr 12 (.st 13 [] (.fr 14 (.st 15 [] .done))))))))))))))))), (13, (.fl 0 (.fl 1 (.fl 2 (.fl 3 (.fl 4 (.fl 5 (.fl 6 (.fr 7 (.fr 8 (.fl 9 (.fl 10 (.fr 11 (.fr 12 (.st 13 [] (.fl 14 (.fl 15 .done))))))))))))))))), (15, (.fl 0 (.fl 1 (.fl 2 (.fl 3 (.fl 4 (.fl 5 (.fl 6 (.fr 7 (.fr 8 (.fl 9 (.fl 10 (.fr 11 (.fr 12 (.st 13 [] (.fl 14 (.fl 15 (.fl 16 .done)))))))))))))))))), (18, (.fl 0 (.fl 1 (.fl 2 (.fl 3 (.fl 4 (.fl 5 (.fr 6 (.fr 7 (.fl 8 (.fl 9 (.fr 10 (.fr 11 (.fr 12 (.st 13 [] (.fr 14 (.st 15 [] .done))))))))))))))))), (21, (.fl 0 (.fl 1 (.fl 2 (.fl 3 (.fl 4 (.fl 5 (.fr 6 (.fr 7 (.fl 8 (.fl 9 (.fr 10 (.fr 11 (.fr 12 (.st 13 [] (.fr 14 (.st 15 [] .done)))))))))))))))))]
def c_slices_partitionCmpFunc_api_Dot : VCode :=
 (.seq (.reg [⟨(some 10), none, .mov (.c (.raw (.int .i64 0)))⟩,
   ⟨(some 11), none, .mov (.c (.kb false))⟩])
 (.seq (.draw [⟨(some 14), none, .mov (.t 0)⟩,
   ⟨(some 15), none, .mov (.t 1)⟩,
   ⟨(some 16), none, .mov (.t 0)⟩,
   ⟨(some 17), none, .mov (.t 3)⟩,
   ⟨(some 18), none, .mov (.t 0)⟩,
   ⟨(some 19), none, .mov (.t 3)⟩,
   ⟨(some 20), none, .iaddr 2 none (.t 18) (.t 19)⟩,
   ⟨(some 21), none, .load (some 2) (.t 20)⟩,
   ⟨(some 22), none, .mov (.t 0)⟩,
   ⟨(some 23), none, .mov (.t 1)⟩,
   ⟨(some 24), none, .iaddr 2 none (.t 22) (.t 23)⟩,
   ⟨(some 25), none, .load (some 2) (.t 24)⟩,
   ⟨(some 26), none, .iaddr 2 none (.t 14) (.t 15)⟩,
   ⟨none, none, .store (some 2) (.t 26) (.t 21)⟩,
   ⟨(some 27), none, .iaddr 2 none (.t 16) (.t 17)⟩,
   ⟨none, none, .store (some 2) (.t 27) (.t 25)⟩]
   (.fl 0 (.fl 1 (.fl 2 (.fl 3 (.fl 4 (.fl 5 (.fr 6 (.fr 7 (.fl 8 (.fl 9 (.fr 10 (.fr 11 (.fr 12 (.st 13 [] (.fr 14 (.st 15 [] .done)))))))))))))))))
 (.seq (.reg [⟨(some 28), none, .mov (.t 1)⟩,
   ⟨(some 29), none, .bin .add .no (.t 28) (.c (.raw (.int .i64 1)))⟩,
   ⟨(some 30), none, .mov (.t 2)⟩,
   ⟨(some 31), none, .bin .sub .no (.t 30) (.c (.raw (.int .i64 1)))⟩,
   ⟨(some 12), none, .mov (.t 29)⟩,
   ⟨(some 13), none, .mov (.t 31)⟩])
 (.seq (.block 0 (.loop (.seq (.seq (.draw [⟨(some 32), none, .mov (.t 12)⟩,
    ⟨(some 33), none, .mov (.t 13)⟩,
    ⟨(some 34), none, .bin .leq .no (.t 32) (.t 33)⟩,
    ⟨(some 35), none, .mov (.t 34)⟩,
    ⟨(some 36), (some (35, true)), .mov (.t 4)⟩,
    ⟨(some 37), (some (35, true)), .mov (.t 0)⟩,
    ⟨(some 38), (some (35, true)), .mov (.t 12)⟩,
    ⟨(some 39), (some (35, true)), .iaddr 2 none (.t 37) (.t 38)⟩,
    ⟨(some 40), (some (35, true)), .load (some 2) (.t 39)⟩,
    ⟨(some 41), (some (35, true)), .mov (.t 0)⟩,
    ⟨(some 42), (some (35, true)), .mov (.t 1)⟩,
    ⟨(some 43), (some (35, true)), .iaddr 2 none (.t 41) (.t 42)⟩,
    ⟨(some 44), (some (35, true)), .load (some 2) (.t 43)⟩,
    ⟨(some 45), (some (35, true)), .callv (.t 36) [(.t 40), (.t 44)]⟩,
    ⟨(some 46), (some (35, true)), .bin .lss .no (.t 45) (.c (.raw (.int .i64 0)))⟩,
    ⟨(some 47), none, .pick (.t 35) (.t 46) (.c (.kb false))⟩]
    (.fl 0 (.fl 1 (.fl 2 (.fl 3 (.fl 4 (.fl 5 (.fl 6 (.fr 7 (.fr 8 (.fl 9 (.fl 10 (.fr 11 (.fr 12 (.st 13 [] (.fl 14 (.fl 15 .done)))))))))))))))))
  (.cond (.t 47)
   .skip
   (.exit 0)))
  (.block 1 (.reg [⟨(some 48), none, .mov (.t 12)⟩,
    ⟨(some 49), none, .bin .add .no (.t 48) (.c (.raw (.int .i64 1)))⟩,
    ⟨(some 12), none, .mov (.t 49)⟩])))))
 (.seq (.block 2 (.loop (.seq (.seq (.draw [⟨(some 50), none, .mov (.t 12)⟩,
    ⟨(some 51), none, .mov (.t 13)⟩,
    ⟨(some 52), none, .bin .leq .no (.t 50) (.t 51)⟩,
    ⟨(some 53), none, .mov (.t 52)⟩,
    ⟨(some 54), (some (53, true)), .mov (.t 4)⟩,
    ⟨(some 55), (some (53, true)), .mov (.t 0)⟩,
    ⟨(some 56), (some (53, true)), .mov (.t 13)⟩,
    ⟨(some 57), (some (53, true)), .iaddr 2 none (.t 55) (.t 56)⟩,
    ⟨(some 58), (some (53, true)), .load (some 2) (.t 57)⟩,
    ⟨(some 59), (some (53, true)), .mov (.t 0)⟩,
    ⟨(some 60), (some (53, true)), .mov (.t 1)⟩,
    ⟨(some 61), (some (53, true)), .iaddr 2 none (.t 59) (.t 60)⟩,
    ⟨(some 62), (some (53, true)), .load (some 2) (.t 61)⟩,
    ⟨(some 63), (some (53, true)), .callv (.t 54) [(.t 58), (.t 62)]⟩,
    ⟨(some 64), (some (53, true)), .bin .lss .no (.t 63) (.c (.raw (.int .i64 0)))⟩,
    ⟨(some 65), (some (53, true)), .un .not (.t 64)⟩,
    ⟨(some 66), none, .pick (.t 53) (.t 65) (.c (.kb false))⟩]
    (.fl 0 (.fl 1 (.fl 2 (.fl 3 (.fl 4 (.fl 5 (.fl 6 (.fr 7 (.fr 8 (.fl 9 (.fl 10 (.fr 11 (.fr 12 (.st 13 [] (.fl 14 (.fl 15 (.fl 16 .done))))))))))))))))))
  (.cond (.t 66)
   .skip
   (.exit 2)))
  (.block 3 (.reg [⟨(some 67), none, .mov (.t 13)⟩,
    ⟨(some 68), none, .bin .sub .no (.t 67) (.c (.raw (.int .i64 1)))⟩,
    ⟨(some 13), none, .mov (.t 68)⟩])))))
 (.seq (.seq (.reg [⟨(some 69), none, .mov (.t 12)⟩,
   ⟨(some 70), none, .mov (.t 13)⟩,
   ⟨(some 71), none, .bin .gtr .no (.t 69) (.t 70)⟩])
 (.cond (.t 71)
  (.seq (.draw [⟨(some 72), none, .mov (.t 0)⟩,
    ⟨(some 73), none, .mov (.t 13)⟩,
    ⟨(some 74), none, .mov (.t 0)⟩,
    ⟨(some 75), none, .mov (.t 1)⟩,
    ⟨(some 76), none, .mov (.t 0)⟩,
    ⟨(some 77), none, .mov (.t 1)⟩,
    ⟨(some 78), none, .iaddr 2 none (.t 76) (.t 77)⟩,
    ⟨(some 79), none, .load (some 2) (.t 78)⟩,
    ⟨(some 80), none, .mov (.t 0)⟩,
    ⟨(some 81), none, .mov (.t 13)⟩,
    ⟨(some 82), none, .iaddr 2 none (.t 80) (.t 81)⟩,
    ⟨(some 83), none, .load (some 2) (.t 82)⟩,
    ⟨(some 84), none, .iaddr 2 none (.t 72) (.t 73)⟩,
    ⟨none, none, .store (some 2) (.t 84) (.t 79)⟩,
    ⟨(some 85), none, .iaddr 2 none (.t 74) (.t 75)⟩,
    ⟨none, none, .store (some 2) (.t 85) (.t 83)⟩]
    (.fl 0 (.fl 1 (.fl 2 (.fl 3 (.fl 4 (.fl 5 (.fr 6 (.fr 7 (.fl 8 (.fl 9 (.fr 10 (.fr 11 (.fr 12 (.st 13 [] (.fr 14 (.st 15 [] .done)))))))))))))))))
  (.seq (.reg [⟨(some 86), none, .mov (.t 13)⟩,
    ⟨(some 10), none, .mov (.t 86)⟩,
    ⟨(some 11), none, .mov (.c (.kb true))⟩])
  .ret))
  .skip))
 (.seq (.draw [⟨(some 87), none, .mov (.t 0)⟩,
   ⟨(some 88), none, .mov (.t 12)⟩,
   ⟨(some 89), none, .mov (.t 0)⟩,
   ⟨(some 90), none, .mov (.t 13)⟩,
   ⟨(some 91), none, .mov (.t 0)⟩,
   ⟨(some 92), none, .mov (.t 13)⟩,
   ⟨(some 93), none, .iaddr 2 none (.t 91) (.t 92)⟩,
   ⟨(some 94), none, .load (some 2) (.t 93)⟩,
   ⟨(some 95), none, .mov (.t 0)⟩,
   ⟨(some 96), none, .mov (.t 12)⟩,
   ⟨(some 97), none, .iaddr 2 none (.t 95) (.t 96)⟩,
   ⟨(some 98), none, .load (some 2) (.t 97)⟩,
   ⟨(some 99), none, .iaddr 2 none (.t 87) (.t 88)⟩,
   ⟨none, none, .store (some 2) (.t 99) (.t 94)⟩,
   ⟨(some 100), none, .iaddr 2 none (.t 89) (.t 90)⟩,
   ⟨none, none, .store (some 2) (.t 100) (.t 98)⟩]
   (.fl 0 (.fl 1 (.fl 2 (.fl 3 (.fl 4 (.fl 5 (.fr 6 (.fr 7 (.fl 8 (.fl 9 (.fr 10 (.fr 11 (.fr 12 (.st 13 [] (.fr 14 (.st 15 [] .done)))))))))))))))))
 (.seq (.reg [⟨(some 101), none, .mov (.t 12)⟩,
   ⟨(some 102), none, .bin .add .no (.t 101) (.c (.raw (.int .i64 1)))⟩,
   ⟨(some 12), none, .mov (.t 102)⟩])
 (.seq (.reg [⟨(some 103), none, .mov (.t 13)⟩,
   ⟨(some 104), none, .bin .sub .no (.t 103) (.c (.raw (.int .i64 1)))⟩,
   ⟨(some 13), none, .mov (.t 104)⟩])
 (.seq (.block 4 (.loop (.block 5 (.seq (.block 6 (.loop (.seq (.seq (.draw [⟨(some 105), none, .mov (.t 12)⟩,
     ⟨(some 106), none, .mov (.t 13)⟩,
     ⟨(some 107), none, .bin .leq .no (.t 105) (.t 106)⟩,
     ⟨(some 108), none, .mov (.t 107)⟩,
     ⟨(some 109), (some (108, true)), .mov (.t 4)⟩,
     ⟨(some 110), (some (108, true)), .mov (.t 0)⟩,
     ⟨(some 111), (some (108, true)), .mov (.t 12)⟩,
     ⟨(some 112), (some (108, true)), .iaddr 2 none (.t 110) (.t 111)⟩,
     ⟨(some 113), (some (108, true)), .load (some 2) (.t 112)⟩,
     ⟨(some 114), (some (108, true)), .mov (.t 0)⟩,
     ⟨(some 115), (some (108, true)), .mov (.t 1)⟩,
     ⟨(some 116), (some (108, true)), .iaddr 2 none (.t 114) (.t 115)⟩,
     ⟨(some 117), (some (108, true)), .load (some 2) (.t 116)⟩,
     ⟨(some 118), (some (108, true)), .callv (.t 109) [(.t 113), (.t 117)]⟩,
     ⟨(some 119), (some (108, true)), .bin .lss .no (.t 118) (.c (.raw (.int .i64 0)))⟩,
     ⟨(some 120), none, .pick (.t 108) (.t 119) (.c (.kb false))⟩]
     (.fl 0 (.fl 1 (.fl 2 (.fl 3 (.fl 4 (.fl 5 (.fl 6 (.fr 7 (.fr 8 (.fl 9 (.fl 10 (.fr 11 (.fr 12 (.st 13 [] (.fl 14 (.fl 15 .done)))))))))))))))))
   (.cond (.t 120)
    .skip
    (.exit 6)))
   (.block 7 (.reg [⟨(some 121), none, .mov (.t 12)⟩,
     ⟨(some 122), none, .bin .add .no (.t 121) (.c (.raw (.int .i64 1)))⟩,
     ⟨(some 12), none, .mov (.t 122)⟩])))))
  (.seq (.block 8 (.loop (.seq (.seq (.draw [⟨(some 123), none, .mov (.t 12)⟩,
     ⟨(some 124), none, .mov (.t 13)⟩,
     ⟨(some 125), none, .bin .leq .no (.t 123) (.t 124)⟩,
     ⟨(some 126), none, .mov (.t 125)⟩,
     ⟨(some 127), (some (126, true)), .mov (.t 4)⟩,
     ⟨(some 128), (some (126, true)), .mov (.t 0)⟩,
     ⟨(some 129), (some (126, true)), .mov (.t 13)⟩,
     ⟨(some 130), (some (126, true)), .iaddr 2 none (.t 128) (.t 129)⟩,
     ⟨(some 131), (some (126, true)), .load (some 2) (.t 130)⟩,
     ⟨(some 132), (some (126, true)), .mov (.t 0)⟩,
     ⟨(some 133), (some (126, true)), .mov (.t 1)⟩,
     ⟨(some 134), (some (126, true)), .iaddr 2 none (.t 132) (.t 133)⟩,
     ⟨(some 135), (some (126, true)), .load (some 2) (.t 134)⟩,
     ⟨(some 136), (some (126, true)), .callv (.t 127) [(.t 131), (.t 135)]⟩,
     ⟨(some 137), (some (126, true)), .bin .lss .no (.t 136) (.c (.raw (.int .i64 0)))⟩,
     ⟨(some 138), (some (126, true)), .un .not (.t 137)⟩,
     ⟨(some 139), none, .pick (.t 126) (.t 138) (.c (.kb false))⟩]
     (.fl 0 (.fl 1 (.fl 2 (.fl 3 (.fl 4 (.fl 5 (.fl 6 (.fr 7 (.fr 8 (.fl 9 (.fl 10 (.fr 11 (.fr 12 (.st 13 [] (.fl 14 (.fl 15 (.fl 16 .done))))))))))))))))))
   (.cond (.t 139)
    .skip
    (.exit 8)))
   (.block 9 (.reg [⟨(some 140), none, .mov (.t 13)⟩,
     ⟨(some 141), none, .bin .sub .no (.t 140) (.c (.raw (.int .i64 1)))⟩,
     ⟨(some 13), none, .mov (.t 141)⟩])))))
  (.seq (.seq (.reg [⟨(some 142), none, .mov (.t 12)⟩,
    ⟨(some 143), none, .mov (.t 13)⟩,
    ⟨(some 144), none, .bin .gtr .no (.t 142) (.t 143)⟩])
  (.cond (.t 144)
   (.exit 4)
   .skip))
  (.seq (.draw [⟨(some 145), none, .mov (.t 0)⟩,
    ⟨(some 146), none, .mov (.t 12)⟩,
    ⟨(some 147), none, .mov (.t 0)⟩,
    ⟨(some 148), none, .mov (.t 13)⟩,
    ⟨(some 149), none, .mov (.t 0)⟩,
    ⟨(some 150), none, .mov (.t 13)⟩,
    ⟨(some 151), none, .iaddr 2 none (.t 149) (.t 150)⟩,
    ⟨(some 152), none, .load (some 2) (.t 151)⟩,
    ⟨(some 153), none, .mov (.t 0)⟩,
    ⟨(some 154), none, .mov (.t 12)⟩,
    ⟨(some 155), none, .iaddr 2 none (.t 153) (.t 154)⟩,
    ⟨(some 156), none, .load (some 2) (.t 155)⟩,
    ⟨(some 157), none, .iaddr 2 none (.t 145) (.t 146)⟩,
    ⟨none, none, .store (some 2) (.t 157) (.t 152)⟩,
    ⟨(some 158), none, .iaddr 2 none (.t 147) (.t 148)⟩,
    ⟨none, none, .store (some 2) (.t 158) (.t 156)⟩]
    (.fl 0 (.fl 1 (.fl 2 (.fl 3 (.fl 4 (.fl 5 (.fr 6 (.fr 7 (.fl 8 (.fl 9 (.fr 10 (.fr 11 (.fr 12 (.st 13 [] (.fr 14 (.st 15 [] .done)))))))))))))))))
  (.seq (.reg [⟨(some 159), none, .mov (.t 12)⟩,
    ⟨(some 160), none, .bin .add .no (.t 159) (.c (.raw (.int .i64 1)))⟩,
    ⟨(some 12), none, .mov (.t 160)⟩])
  (.reg [⟨(some 161), none, .mov (.t 13)⟩,
    ⟨(some 162), none, .bin .sub .no (.t 161) (.c (.raw (.int .i64 1)))⟩,
    ⟨(some 13), none, .mov (.t 162)⟩])))))))))
 (.seq (.draw [⟨(some 163), none, .mov (.t 0)⟩,
   ⟨(some 164), none, .mov (.t 13)⟩,
   ⟨(some 165), none, .mov (.t 0)⟩,
   ⟨(some 166), none, .mov (.t 1)⟩,
   ⟨(some 167), none, .mov (.t 0)⟩,
   ⟨(some 168), none, .mov (.t 1)⟩,
   ⟨(some 169), none, .iaddr 2 none (.t 167) (.t 168)⟩,
   ⟨(some 170), none, .load (some 2) (.t 169)⟩,
   ⟨(some 171), none, .mov (.t 0)⟩,
   ⟨(some 172), none, .mov (.t 13)⟩,
   ⟨(some 173), none, .iaddr 2 none (.t 171) (.t 172)⟩,
   ⟨(some 174), none, .load (some 2) (.t 173)⟩,
   ⟨(some 175), none, .iaddr 2 none (.t 163) (.t 164)⟩,
   ⟨none, none, .store (some 2) (.t 175) (.t 170)⟩,
   ⟨(some 176), none, .iaddr 2 none (.t 165) (.t 166)⟩,
   ⟨none, none, .store (some 2) (.t 176) (.t 174)⟩]
   (.fl 0 (.fl 1 (.fl 2 (.fl 3 (.fl 4 (.fl 5 (.fr 6 (.fr 7 (.fl 8 (.fl 9 (.fr 10 (.fr 11 (.fr 12 (.st 13 [] (.fr 14 (.st 15 [] .done)))))))))))))))))
 (.seq (.reg [⟨(some 177), none, .mov (.t 13)⟩,
   ⟨(some 10), none, .mov (.t 177)⟩,
   ⟨(some 11), none, .mov (.c (.kb false))⟩])
 .ret))))))))))))
theorem i_slices_partitionCmpFunc_api_Dot : Is Try.prog 80 178 [.t 10, .t 11] c_slices_partitionCmpFunc_api_Dot := ⟨Try.f80, _, p_slices_partitionCmpFunc_api_Dot, rfl, rfl, by kernel_rfl, by kernel_rfl, rfl⟩
def p_math_bits_Len32 : List (Nat × Pl) := []
def c_math_bits_Len32 : VCode :=
 (.seq (.reg [⟨(some 2), none, .mov (.c (.raw (.int .i64 0)))⟩])
 (.seq (.seq (.reg [⟨(some 3), none, .mov (.t 0)⟩,
   ⟨(some 4), none, .bin .geq .no (.t 3) (.c (.raw (.int .u32 65536)))⟩])
 (.cond (.t 4)
  (.seq (.reg [⟨(some 5), none, .mov (.t 0)⟩,
    ⟨(some 6), none, .bin .shr .no (.t 5) (.c (.raw (.int .u64 16)))⟩,
    ⟨(some 0), none, .mov (.t 6)⟩])
  (.reg [⟨(some 2), none, .mov (.c (.raw (.int .i64 16)))⟩]))
  .skip))
 (.seq (.seq (.reg [⟨(some 7), none, .mov (.t 0)⟩,
   ⟨(some 8), none, .bin .geq .no (.t 7) (.c (.raw (.int .u32 256)))⟩])
 (.cond (.t 8)
  (.seq (.reg [⟨(some 9), none, .mov (.t 0)⟩,
    ⟨(some 10), none, .bin .shr .no (.t 9) (.c (.raw (.int .u64 8)))⟩,
    ⟨(some 0), none, .mov (.t 10)⟩])
  (.reg [⟨(some 11), none, .mov (.t 2)⟩,
    ⟨(some 12), none, .bin .add .no (.t 11) (.c (.raw (.int .i64 8)))⟩,
    ⟨(some 2), none, .mov (.t 12)⟩]))
  .skip))
 (.seq (.reg [⟨(some 13), none, .mov (.t 2)⟩,
   ⟨(some 14), none, .mov (.t 0)⟩,
   ⟨(some 15), none, .conv (.int .u8) (.t 14)⟩,
   ⟨(some 16), none, .sindex (.c (.raw (.string (ByteArray.mk #[0, 1, 2, 2, 3, 3, 3, 3, 4, 4, 4, 4, 4, 4, 4, 4, 5, 5, 5, 5, 5, 5, 5, 5, 5, 5, 5, 5, 5, 5, 5, 5, 6, 6, 6, 6, 6, 6, 6, 6, 6, 6, 6, 6, 6, 6, 6, 6, 6, 6, 6, 6, 6, 6, 6, 6, 6, 6, 6, 6, 6, 6, 6, 6, 7, 7, 7, 7, 7, 7, 7, 7, 7, 7, 7, 7, 7, 7, 7, 7, 7, 7, 7, 7, 7, 7, 7, 7, 7, 7, 7, 7, 7, 7, 7, 7, 7, 7, 7, 7, 7, 7, 7, 7, 7, 7, 7, 7, 7, 7, 7, 7, 7, 7, 7, 7, 7, 7, 7, 7, 7, 7, 7, 7, 7, 7, 7, 7, 8, 8, 8, 8, 8, 8, 8, 8, 8, 8, 8, 8, 8, 8, 8, 8, 8, 8, 8, 8, 8, 8, 8, 8, 8, 8, 8, 8, 8, 8, 8, 8, 8, 8, 8, 8, 8, 8, 8, 8, 8, 8, 8, 8, 8, 8, 8, 8, 8, 8, 8, 8, 8, 8, 8, 8, 8, 8, 8, 8, 8, 8, 8, 8, 8, 8, 8, 8, 8, 8, 8, 8, 8, 8, 8, 8, 8, 8, 8, 8, 8, 8, 8, 8, 8, 8, 8, 8, 8, 8, 8, 8, 8, 8, 8, 8, 8, 8, 8, 8, 8, 8, 8, 8, 8, 8, 8, 8, 8, 8, 8, 8, 8, 8, 8, 8, 8, 8, 8, 8, 8, 8, 8, 8, 8, 8, 8, 8])))) (.t 15)⟩,
   ⟨(some 17), none, .conv (.int .i64) (.t 16)⟩,
   ⟨(some 18), none, .bin .add .no (.t 13) (.t 17)⟩,
   ⟨(some 2), none, .mov (.t 18)⟩])
 .ret))))
theorem i_math_bits_Len32 : Is Try.prog 81 19 [.t 2] c_math_bits_Len32 := ⟨Try.f81, _, p_math_bits_Len32, rfl, rfl, by kernel_rfl, by kernel_rfl, rfl⟩
def p_math_bits_Len64 : List (Nat × Pl) := []
def c_math_bits_Len64 : VCode :=
 (.seq (.reg [⟨(some 2), none, .mov (.c (.raw (.int .i64 0)))⟩])
 (.seq (.seq (.reg [⟨(some 3), none, .mov (.t 0)⟩,
   ⟨(some 4), none, .bin .geq .no (.t 3) (.c (.raw (.int .u64 4294967296)))⟩])
 (.cond (.t 4)
  (.seq (.reg [⟨(some 5), none, .mov (.t 0)⟩,
    ⟨(some 6), none, .bin .shr .no (.t 5) (.c (.raw (.int .u64 32)))⟩,
    ⟨(some 0), none, .mov (.t 6)⟩])
  (.reg [⟨(some 2), none, .mov (.c (.raw (.int .i64 32)))⟩]))
  .skip))
 (.seq (.seq (.reg [⟨(some 7), none, .mov (.t 0)⟩,
   ⟨(some 8), none, .bin .geq .no (.t 7) (.c (.raw (.int .u64 65536)))⟩])
 (.cond (.t 8)
  (.seq (.reg [⟨(some 9), none, .mov (.t 0)⟩,
    ⟨(some 10), none, .bin .shr .no (.t 9) (.c (.raw (.int .u64 16)))⟩,
    ⟨(some 0), none, .mov (.t 10)⟩])
  (.reg [⟨(some 11), none, .mov (.t 2)⟩,
    ⟨(some 12), none, .bin .add .no (.t 11) (.c (.raw (.int .i64 16)))⟩,
    ⟨(some 2), none, .mov (.t 12)⟩]))
  .skip))
 (.seq (.seq (.reg [⟨(some 13), none, .mov (.t 0)⟩,
   ⟨(some 14), none, .bin .geq .no (.t 13) (.c (.raw (.int .u64 256)))⟩])
 (.cond (.t 14)
  (.seq (.reg [⟨(some 15), none, .mov (.t 0)⟩,
    ⟨(some 16), none, .bin .shr .no (.t 15) (.c (.raw (.int .u64 8)))⟩,
    ⟨(some 0), none, .mov (.t 16)⟩])
  (.reg [⟨(some 17), none, .mov (.t 2)⟩,
    ⟨(some 18), none, .bin .add .no (.t 17) (.c (.raw (.int .i64 8)))⟩,
    ⟨(some 2), none, .mov (.t 18)⟩]))
  .skip))
 (.seq (.reg [⟨(some 19), none, .mov (.t 2)⟩,
   ⟨(some 20), none, .mov (.t 0)⟩,
   ⟨(some 21), none, .conv (.int .u8) (.t 20)⟩,
   ⟨(some 22), none, .sindex (.c (.raw (.string (ByteArray.mk #[0, 1, 2, 2, 3, 3, 3, 3, 4, 4, 4, 4, 4, 4, 4, 4, 5, 5, 5, 5, 5, 5, 5, 5, 5, 5, 5, 5, 5, 5, 5, 5, 6, 6, 6, 6, 6, 6, 6, 6, 6, 6, 6, 6, 6, 6, 6, 6, 6, 6, 6, 6, 6, 6, 6, 6, 6, 6, 6, 6, 6, 6, 6, 6, 7, 7, 7, 7, 7, 7, 7, 7, 7, 7, 7, 7, 7, 7, 7, 7, 7, 7, 7, 7, 7, 7, 7, 7, 7, 7, 7, 7, 7, 7, 7, 7, 7, 7, 7, 7, 7, 7, 7, 7, 7, 7, 7, 7, 7, 7, 7, 7, 7, 7, 7, 7, 7, 7, 7, 7, 7, 7, 7, 7, 7, 7, 7, 7, 8, 8, 8, 8, 8, 8, 8, 8, 8, 8, 8, 8, 8, 8, 8, 8, 8, 8, 8, 8, 8, 8, 8, 8, 8, 8, 8, 8, 8, 8, 8, 8, 8, 8, 8, 8, 8, 8, 8, 8, 8, 8, 8, 8, 8, 8, 8, 8, 8, 8, 8, 8, 8, 8, 8, 8, 8, 8, 8, 8, 8, 8, 8, 8, 8, 8, 8, 8, 8, 8, 8, 8, 8, 8, 8, 8, 8, 8, 8, 8, 8, 8, 8, 8, 8, 8, 8, 8, 8, 8, 8, 8, 8, 8, 8, 8, 8, 8, 8, 8, 8, 8, 8, 8, 8, 8, 8, 8, 8, 8, 8, 8, 8, 8, 8, 8, 8, 8, 8, 8, 8, 8, 8, 8, 8, 8, 8, 8])))) (.t 21)⟩,
   ⟨(some 23), none, .conv (.int .i64) (.t 22)⟩,
   ⟨(some 24), none, .bin .add .no (.t 19) (.t 23)⟩,
   ⟨(some 2), none, .mov (.t 24)⟩])
 .ret)))))
theorem i_math_bits_Len64 : Is Try.prog 82 25 [.t 2] c_math_bits_Len64 := ⟨Try.f82, _, p_math_bits_Len64, rfl, rfl, by kernel_rfl, by kernel_rfl, rfl⟩
def p_slices_siftDownCmpFunc_api_Dot : List (Nat × Pl) := [(3, (.fl 0 (.fl 1 (.fl 2 (.fl 3 (.fl 4 (.fl 5 (.fl 6 (.fl 7 (.fl 8 (.fl 9 (.fr 10 (.fr 11 (.fl 12 (.fl 13 (.fl 14 (.fl 15 (.fl 16 (.fr 17 (.fr 18 (.st 19 [] (.fl 20 (.fl 21 .done))))))))))))))))))))))), (5, (.fl 0 (.fl 1 (.fl 2 (.fl 3 (.fl 4 (.fr 5 (.fr 6 (.fl 7 (.fl 8 (.fl 9 (.fl 10 (.fr 11 (.fr 12 (.st 13 [] (.fl 14 (.fl 15 .done))))))))))))))))), (6, (.fl 0 (.fl 1 (.fl 2 (.fl 3 (.fl 4 (.fl 5 (.fl 6 (.fl 7 (.fl 8 (.fl 9 (.fl 10 (.fl 11 (.fr 12 (.fr 13 (.fl 14 (.fl 15 (.fl 16 (.fl 17 (.fr 18 (.fr 19 (.fr 20 (.st 21 [] (.fr 22 (.st 23 [] .done)))))))))))))))))))))))))]
def c_slices_siftDownCmpFunc_api_Dot : VCode :=
 (.seq (.reg [⟨(some 12), none, .mov (.t 1)⟩,
   ⟨(some 10), none, .mov (.t 12)⟩])
 (.block 0 (.loop (.block 1 (.seq (.reg [⟨(some 13), none, .mov (.t 10)⟩,
    ⟨(some 14), none, .bin .mul .no (.c (.raw (.int .i64 2))) (.t 13)⟩,
    ⟨(some 15), none, .bin .add .no (.t 14) (.c (.raw (.int .i64 1)))⟩,
    ⟨(some 11), none, .mov (.t 15)⟩])
  (.seq (.seq (.reg [⟨(some 16), none, .mov (.t 11)⟩,
    ⟨(some 17), none, .mov (.t 2)⟩,
    ⟨(some 18), none, .bin .geq .no (.t 16) (.t 17)⟩])
  (.cond (.t 18)
   (.exit 0)
   .skip))
  (.seq (.seq (.draw [⟨(some 19), none, .mov (.t 11)⟩,
    ⟨(some 20), none, .bin .add .no (.t 19) (.c (.raw (.int .i64 1)))⟩,
    ⟨(some 21), none, .mov (.t 2)⟩,
    ⟨(some 22), none, .bin .lss .no (.t 20) (.t 21)⟩,
    ⟨(some 23), none, .mov (.t 22)⟩,
    ⟨(some 24), (some (23, true)), .mov (.t 4)⟩,
    ⟨(some 25), (some (23, true)), .mov (.t 0)⟩,
    ⟨(some 26), (some (23, true)), .mov (.t 3)⟩,
    ⟨(some 27), (some (23, true)), .mov (.t 11)⟩,
    ⟨(some 28), (some (23, true)), .bin .add .no (.t 26) (.t 27)⟩,
    ⟨(some 29), (some (23, true)), .iaddr 2 none (.t 25) (.t 28)⟩,
    ⟨(some 30), (some (23, true)), .load (some 2) (.t 29)⟩,
    ⟨(some 31), (some (23, true)), .mov (.t 0)⟩,
    ⟨(some 32), (some (23, true)), .mov (.t 3)⟩,
    ⟨(some 33), (some (23, true)), .mov (.t 11)⟩,
    ⟨(some 34), (some (23, true)), .bin .add .no (.t 32) (.t 33)⟩,
    ⟨(some 35), (some (23, true)), .bin .add .no (.t 34) (.c (.raw (.int .i64 1)))⟩,
    ⟨(some 36), (some (23, true)), .iaddr 2 none (.t 31) (.t 35)⟩,
    ⟨(some 37), (some (23, true)), .load (some 2) (.t 36)⟩,
    ⟨(some 38), (some (23, true)), .callv (.t 24) [(.t 30), (.t 37)]⟩,
    ⟨(some 39), (some (23, true)), .bin .lss .no (.t 38) (.c (.raw (.int .i64 0)))⟩,
    ⟨(some 40), none, .pick (.t 23) (.t 39) (.c (.kb false))⟩]
    (.fl 0 (.fl 1 (.fl 2 (.fl 3 (.fl 4 (.fl 5 (.fl 6 (.fl 7 (.fl 8 (.fl 9 (.fr 10 (.fr 11 (.fl 12 (.fl 13 (.fl 14 (.fl 15 (.fl 16 (.fr 17 (.fr 18 (.st 19 [] (.fl 20 (.fl 21 .done)))))))))))))))))))))))
  (.cond (.t 40)
   (.reg [⟨(some 41), none, .mov (.t 11)⟩,
     ⟨(some 42), none, .bin .add .no (.t 41) (.c (.raw (.int .i64 1)))⟩,
     ⟨(some 11), none, .mov (.t 42)⟩])
   .skip))
  (.seq (.seq (.draw [⟨(some 43), none, .mov (.t 4)⟩,
    ⟨(some 44), none, .mov (.t 0)⟩,
    ⟨(some 45), none, .mov (.t 3)⟩,
    ⟨(some 46), none, .mov (.t 10)⟩,
    ⟨(some 47), none, .bin .add .no (.t 45) (.t 46)⟩,
    ⟨(some 48), none, .iaddr 2 none (.t 44) (.t 47)⟩,
    ⟨(some 49), none, .load (some 2) (.t 48)⟩,
    ⟨(some 50), none, .mov (.t 0)⟩,
    ⟨(some 51), none, .mov (.t 3)⟩,
    ⟨(some 52), none, .mov (.t 11)⟩,
    ⟨(some 53), none, .bin .add .no (.t 51) (.t 52)⟩,
    ⟨(some 54), none, .iaddr 2 none (.t 50) (.t 53)⟩,
    ⟨(some 55), none, .load (some 2) (.t 54)⟩,
    ⟨(some 56), none, .callv (.t 43) [(.t 49), (.t 55)]⟩,
    ⟨(some 57), none, .bin .lss .no (.t 56) (.c (.raw (.int .i64 0)))⟩,
    ⟨(some 58), none, .un .not (.t 57)⟩]
    (.fl 0 (.fl 1 (.fl 2 (.fl 3 (.fl 4 (.fr 5 (.fr 6 (.fl 7 (.fl 8 (.fl 9 (.fl 10 (.fr 11 (.fr 12 (.st 13 [] (.fl 14 (.fl 15 .done)))))))))))))))))
  (.cond (.t 58)
   .ret
   .skip))
  (.seq (.draw [⟨(some 59), none, .mov (.t 0)⟩,
    ⟨(some 60), none, .mov (.t 3)⟩,
    ⟨(some 61), none, .mov (.t 10)⟩,
    ⟨(some 62), none, .bin .add .no (.t 60) (.t 61)⟩,
    ⟨(some 63), none, .mov (.t 0)⟩,
    ⟨(some 64), none, .mov (.t 3)⟩,
    ⟨(some 65), none, .mov (.t 11)⟩,
    ⟨(some 66), none, .bin .add .no (.t 64) (.t 65)⟩,
    ⟨(some 67), none, .mov (.t 0)⟩,
    ⟨(some 68), none, .mov (.t 3)⟩,
    ⟨(some 69), none, .mov (.t 11)⟩,
    ⟨(some 70), none, .bin .add .no (.t 68) (.t 69)⟩,
    ⟨(some 71), none, .iaddr 2 none (.t 67) (.t 70)⟩,
    ⟨(some 72), none, .load (some 2) (.t 71)⟩,
    ⟨(some 73), none, .mov (.t 0)⟩,
    ⟨(some 74), none, .mov (.t 3)⟩,
    ⟨(some 75), none, .mov (.t 10)⟩,
    ⟨(some 76), none, .bin .add .no (.t 74) (.t 75)⟩,
    ⟨(some 77), none, .iaddr 2 none (.t 73) (.t 76)⟩,
    ⟨(some 78), none, .load (some 2) (.t 77)⟩,
    ⟨(some 79), none, .iaddr 2 none (.t 59) (.t 62)⟩,
    ⟨none, none, .store (some 2) (.t 79) (.t 72)⟩,
    ⟨(some 80), none, .iaddr 2 none (.t 63) (.t 66)⟩,
    ⟨none, none, .store (some 2) (.t 80) (.t 78)⟩]
    (.fl 0 (.fl 1 (.fl 2 (.fl 3 (.fl 4 (.fl 5 (.fl 6 (.fl 7 (.fl 8 (.fl 9 (.fl 10 (.fl 11 (.fr 12 (.fr 13 (.fl 14 (.fl 15 (.fl 16 (.fl 17 (.fr 18 (.fr 19 (.fr 20 (.st 21 [] (.fr 22 (.st 23 [] .done)))))))))))))))))))))))))
  (.reg [⟨(some 81), none, .mov (.t 11)⟩,
    ⟨(some 10), none, .mov (.t 81)⟩]))))))))))
theorem i_slices_siftDownCmpFunc_api_Dot : Is Try.prog 83 82 [] c_slices_siftDownCmpFunc_api_Dot := ⟨Try.f83, _, p_slices_siftDownCmpFunc_api_Dot, rfl, rfl, by kernel_rfl, by kernel_rfl, rfl⟩
def p_slices_nextPowerOfTwo : List (Nat × Pl) := []
def c_slices_nextPowerOfTwo : VCode :=
 (.seq (.reg [⟨(some 2), none, .mov (.c (.raw (.int .u64 0)))⟩])
 (.seq (.reg [⟨(some 3), none, .mov (.t 0)⟩,
   ⟨(some 4), none, .conv (.int .u64) (.t 3)⟩,
   ⟨(some 5), none, .call 70 [(.t 4)]⟩,
   ⟨(some 6), none, .bin .shl .no (.c (.raw (.int .u64 1))) (.t 5)⟩,
   ⟨(some 2), none, .mov (.t 6)⟩])
 .ret))
theorem i_slices_nextPowerOfTwo : Is Try.prog 84 7 [.t 2] c_slices_nextPowerOfTwo := ⟨Try.f84, _, p_slices_nextPowerOfTwo, rfl, rfl, by kernel_rfl, by kernel_rfl, rfl⟩
def p_slices_xorshift_Next : List (Nat × Pl) := [(1, (.fl 0 (.fr 1 (.fr 2 (.fl 3 (.fr 4 (.fr 5 (.fl 6 (.fl 7 (.fr 8 (.st 9 [] .done))))))))))), (2, (.fl 0 (.fr 1 (.fr 2 (.fl 3 (.fr 4 (.fr 5 (.fl 6 (.fl 7 (.fr 8 (.st 9 [] .done))))))))))), (3, (.fl 0 (.fr 1 (.fr 2 (.fl 3 (.fr 4 (.fr 5 (.fl 6 (.fl 7 (.fr 8 (.st 9 [] .done)))))))))))]
def c_slices_xorshift_Next : VCode :=
 (.seq (.reg [⟨(some 2), none, .mov (.c (.raw (.int .u64 0)))⟩])
 (.seq (.draw [⟨(some 3), none, .mov (.t 0)⟩,
   ⟨(some 4), none, .nilck (.t 3)⟩,
   ⟨(some 5), none, .load none (.t 4)⟩,
   ⟨(some 6), none, .mov (.t 0)⟩,
   ⟨(some 7), none, .nilck (.t 6)⟩,
   ⟨(some 8), none, .load none (.t 7)⟩,
   ⟨(some 9), none, .bin .shl .no (.t 8) (.c (.raw (.int .u64 13)))⟩,
   ⟨(some 10), none, .bin .xor .no (.t 5) (.t 9)⟩,
   ⟨(some 11), none, .nilck (.t 3)⟩,
   ⟨none, none, .store none (.t 11) (.t 10)⟩]
   (.fl 0 (.fr 1 (.fr 2 (.fl 3 (.fr 4 (.fr 5 (.fl 6 (.fl 7 (.fr 8 (.st 9 [] .done)))))))))))
 (.seq (.draw [⟨(some 12), none, .mov (.t 0)⟩,
   ⟨(some 13), none, .nilck (.t 12)⟩,
   ⟨(some 14), none, .load none (.t 13)⟩,
   ⟨(some 15), none, .mov (.t 0)⟩,
   ⟨(some 16), none, .nilck (.t 15)⟩,
   ⟨(some 17), none, .load none (.t 16)⟩,
   ⟨(some 18), none, .bin .shr .no (.t 17) (.c (.raw (.int .u64 7)))⟩,
   ⟨(some 19), none, .bin .xor .no (.t 14) (.t 18)⟩,
   ⟨(some 20), none, .nilck (.t 12)⟩,
   ⟨none, none, .store none (.t 20) (.t 19)⟩]
   (.fl 0 (.fr 1 (.fr 2 (.fl 3 (.fr 4 (.fr 5 (.fl 6 (.fl 7 (.fr 8 (.st 9 [] .done)))))))))))
 (.seq (.draw [⟨(some 21), none, .mov (.t 0)⟩,
   ⟨(some 22), none, .nilck (.t 21)⟩,
   ⟨(some 23), none, .load none (.t 22)⟩,
   ⟨(some 24), none, .mov (.t 0)⟩,
   ⟨(some 25), none, .nilck (.t 24)⟩,
   ⟨(some 26), none, .load none (.t 25)⟩,
   ⟨(some 27), none, .bin .shl .no (.t 26) (.c (.raw (.int .u64 17)))⟩,
   ⟨(some 28), none, .bin .xor .no (.t 23) (.t 27)⟩,
   ⟨(some 29), none, .nilck (.t 21)⟩,
   ⟨none, none, .store none (.t 29) (.t 28)⟩]
   (.fl 0 (.fr 1 (.fr 2 (.fl 3 (.fr 4 (.fr 5 (.fl 6 (.fl 7 (.fr 8 (.st 9 [] .done)))))))))))
 (.seq (.reg [⟨(some 30), none, .mov (.t 0)⟩,
   ⟨(some 31), none, .nilck (.t 30)⟩,
   ⟨(some 32), none, .load none (.t 31)⟩,
   ⟨(some 2), none, .mov (.t 32)⟩])
 .ret)))))
theorem i_slices_xorshift_Next : Is Try.prog 85 33 [.t 2] c_slices_xorshift_Next := ⟨Try.f85, _, p_slices_xorshift_Next, rfl, rfl, by kernel_rfl, by kernel_rfl, rfl⟩
def p_slices_medianAdjacentCmpFunc_api_Dot : List (Nat × Pl) := []
def c_slices_medianAdjacentCmpFunc_api_Dot : VCode :=
 (.seq (.reg [⟨(some 8), none, .mov (.c (.raw (.int .i64 0)))⟩])
 (.seq (.reg [⟨(some 9), none, .mov (.t 0)⟩,
   ⟨(some 10), none, .mov (.t 1)⟩,
   ⟨(some 11), none, .bin .sub .no (.t 10) (.c (.raw (.int .i64 1)))⟩,
   ⟨(some 12), none, .mov (.t 1)⟩,
   ⟨(some 13), none, .mov (.t 1)⟩,
   ⟨(some 14), none, .bin .add .no (.t 13) (.c (.raw (.int .i64 1)))⟩,
   ⟨(some 15), none, .mov (.t 2)⟩,
   ⟨(some 16), none, .mov (.t 3)⟩,
   ⟨(some 17), none, .call 87 [(.t 9), (.t 11), (.t 12), (.t 14), (.t 15), (.t 16)]⟩,
   ⟨(some 8), none, .mov (.t 17)⟩])
 .ret))
theorem i_slices_medianAdjacentCmpFunc_api_Dot : Is Try.prog 86 18 [.t 8] c_slices_medianAdjacentCmpFunc_api_Dot := ⟨Try.f86, _, p_slices_medianAdjacentCmpFunc_api_Dot, rfl, rfl, by kernel_rfl, by kernel_rfl, rfl⟩
def p_slices_medianCmpFunc_api_Dot : List (Nat × Pl) := []
def c_slices_medianCmpFunc_api_Dot : VCode :=
 (.seq (.reg [⟨(some 12), none, .mov (.c (.raw (.int .i64 0)))⟩])
 (.seq (.reg [⟨(some 14), none, .mov (.t 0)⟩,
   ⟨(some 15), none, .mov (.t 1)⟩,
   ⟨(some 16), none, .mov (.t 2)⟩,
   ⟨(some 17), none, .mov (.t 4)⟩,
   ⟨(some 18), none, .mov (.t 5)⟩,
   ⟨(some 19), none, .call 88 [(.t 14), (.t 15), (.t 16), (.t 17), (.t 18)]⟩,
   ⟨(some 13), none, .mov (.t 19)⟩,
   ⟨(some 20), none, .extr (.t 13) 0⟩,
   ⟨(some 21), none, .extr (.t 13) 1⟩,
   ⟨(some 1), none, .mov (.t 20)⟩,
   ⟨(some 2), none, .mov (.t 21)⟩])
 (.seq (.reg [⟨(some 23), none, .mov (.t 0)⟩,
   ⟨(some 24), none, .mov (.t 2)⟩,
   ⟨(some 25), none, .mov (.t 3)⟩,
   ⟨(some 26), none, .mov (.t 4)⟩,
   ⟨(some 27), none, .mov (.t 5)⟩,
   ⟨(some 28), none, .call 88 [(.t 23), (.t 24), (.t 25), (.t 26), (.t 27)]⟩,
   ⟨(some 22), none, .mov (.t 28)⟩,
   ⟨(some 29), none, .extr (.t 22) 0⟩,
   ⟨(some 30), none, .extr (.t 22) 1⟩,
   ⟨(some 2), none, .mov (.t 29)⟩,
   ⟨(some 3), none, .mov (.t 30)⟩])
 (.seq (.reg [⟨(some 32), none, .mov (.t 0)⟩,
   ⟨(some 33), none, .mov (.t 1)⟩,
   ⟨(some 34), none, .mov (.t 2)⟩,
   ⟨(some 35), none, .mov (.t 4)⟩,
   ⟨(some 36), none, .mov (.t 5)⟩,
   ⟨(some 37), none, .call 88 [(.t 32), (.t 33), (.t 34), (.t 35), (.t 36)]⟩,
   ⟨(some 31), none, .mov (.t 37)⟩,
   ⟨(some 38), none, .extr (.t 31) 0⟩,
   ⟨(some 39), none, .extr (.t 31) 1⟩,
   ⟨(some 1), none, .mov (.t 38)⟩,
   ⟨(some 2), none, .mov (.t 39)⟩])
 (.seq (.reg [⟨(some 40), none, .mov (.t 2)⟩,
   ⟨(some 12), none, .mov (.t 40)⟩])
 .ret)))))
theorem i_slices_medianCmpFunc_api_Dot : Is Try.prog 87 41 [.t 12] c_slices_medianCmpFunc_api_Dot := ⟨Try.f87, _, p_slices_medianCmpFunc_api_Dot, rfl, rfl, by kernel_rfl, by kernel_rfl, rfl⟩
def p_slices_order2CmpFunc_api_Dot : List (Nat × Pl) := [(1, (.fl 0 (.fl 1 (.fl 2 (.fr 3 (.fr 4 (.fl 5 (.fl 6 (.fr 7 (.fr 8 (.st 9 [] (.fl 10 .done))))))))))))]
def c_slices_order2CmpFunc_api_Dot : VCode :=
 (.seq (.reg [⟨(some 10), none, .mov (.c (.raw (.int .i64 0)))⟩,
   ⟨(some 11), none, .mov (.c (.raw (.int .i64 0)))⟩])
 (.seq (.seq (.draw [⟨(some 12), none, .mov (.t 4)⟩,
   ⟨(some 13), none, .mov (.t 0)⟩,
   ⟨(some 14), none, .mov (.t 2)⟩,
   ⟨(some 15), none, .iaddr 2 none (.t 13) (.t 14)⟩,
   ⟨(some 16), none, .load (some 2) (.t 15)⟩,
   ⟨(some 17), none, .mov (.t 0)⟩,
   ⟨(some 18), none, .mov (.t 1)⟩,
   ⟨(some 19), none, .iaddr 2 none (.t 17) (.t 18)⟩,
   ⟨(some 20), none, .load (some 2) (.t 19)⟩,
   ⟨(some 21), none, .callv (.t 12) [(.t 16), (.t 20)]⟩,
   ⟨(some 22), none, .bin .lss .no (.t 21) (.c (.raw (.int .i64 0)))⟩]
   (.fl 0 (.fl 1 (.fl 2 (.fr 3 (.fr 4 (.fl 5 (.fl 6 (.fr 7 (.fr 8 (.st 9 [] (.fl 10 .done))))))))))))
 (.cond (.t 22)
  (.seq (.reg [⟨(some 23), none, .mov (.t 3)⟩,
    ⟨(some 24), none, .nilck (.t 23)⟩,
    ⟨(some 25), none, .load none (.t 24)⟩,
    ⟨(some 26), none, .bin .add .no (.t 25) (.c (.raw (.int .i64 1)))⟩,
    ⟨(some 27), none, .nilck (.t 23)⟩,
    ⟨none, none, .store none (.t 27) (.t 26)⟩])
  (.seq (.reg [⟨(some 28), none, .mov (.t 2)⟩,
    ⟨(some 29), none, .mov (.t 1)⟩,
    ⟨(some 10), none, .mov (.t 28)⟩,
    ⟨(some 11), none, .mov (.t 29)⟩])
  .ret))
  .skip))
 (.seq (.reg [⟨(some 30), none, .mov (.t 1)⟩,
   ⟨(some 31), none, .mov (.t 2)⟩,
   ⟨(some 10), none, .mov (.t 30)⟩,
   ⟨(some 11), none, .mov (.t 31)⟩])
 .ret)))
theorem i_slices_order2CmpFunc_api_Dot : Is Try.prog 88 32 [.t 10, .t 11] c_slices_order2CmpFunc_api_Dot := ⟨Try.f88, _, p_slices_order2CmpFunc_api_Dot, rfl, rfl, by kernel_rfl, by kernel_rfl, rfl⟩

theorem follows : Try.prog.follows .mixedOrders = true := by kernel_rfl
end Go.Proofs

