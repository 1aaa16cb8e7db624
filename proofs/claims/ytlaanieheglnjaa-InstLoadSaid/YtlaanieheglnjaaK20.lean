/- The seat's functions and types by name, and its functions' code as the framework reads it: printed by a program of the prover's own. -/
import Derived.Test.YtlaanieheglnjaaVC
import Derived.Test.YtlaanieheglnjaaProg
namespace Go.Proofs
open Go Go.V
abbrev F_main_main : FuncId := 0
abbrev F_gosem_cut : FuncId := 1
abbrev F_gosem_cut_init : FuncId := 2
abbrev F_rostrumlaw20_InstHangs : FuncId := 3
abbrev F_rostrumlaw20_InstTwice : FuncId := 4
abbrev F_rostrumlaw20_InstKnown : FuncId := 5
abbrev F_rostrumlaw20_InstPromise : FuncId := 6
abbrev F_rostrumlaw20_InstLoad : FuncId := 7
abbrev F_rostrumlaw20_awake : FuncId := 8
abbrev F_rostrumlaw20_light : FuncId := 9
abbrev F_inst_New : FuncId := 10
abbrev F_inst_Table_Do : FuncId := 11
abbrev F_inst_Table_Rec : FuncId := 12
abbrev F_inst_Same : FuncId := 13
abbrev F_inst_Table_Known : FuncId := 14
abbrev F_inst_Table_Load : FuncId := 15
abbrev F_inst_Table_Top : FuncId := 16
abbrev F_inst_Table_All : FuncId := 17
abbrev F_inst_May : FuncId := 18
abbrev F_ballot_Cmp : FuncId := 19
abbrev F_vec_Le : FuncId := 20
abbrev F_rostrumlaw20_sameAns : FuncId := 21
abbrev F_rostrumlaw20_ans : FuncId := 22
abbrev F_inst_Table_old : FuncId := 23
abbrev F_bytes_Clone : FuncId := 24
abbrev F_inst_Table_Would : FuncId := 25
abbrev F_vec_Merge : FuncId := 26
abbrev F_ballot_Most : FuncId := 27
abbrev F_inst_copied : FuncId := 28
abbrev F_bytes_Equal : FuncId := 29
abbrev F_inst_Dot : FuncId := 30
abbrev F_inst_content : FuncId := 31
abbrev F_ballot_Good : FuncId := 32
abbrev F_slices_SortedFunc_api_Dot : FuncId := 33
abbrev F_maps_Keys_map_api_Dot_inst_Rec_api_Dot_inst_Rec : FuncId := 34
abbrev F_dots_Order : FuncId := 35
abbrev F_slices_DeleteFunc_sl_api_Dot_api_Dot : FuncId := 36
abbrev F_inst_Table_All_1 : FuncId := 37
abbrev F_cmp_Or_int : FuncId := 38
abbrev F_cmp_Compare_int64 : FuncId := 39
abbrev F_cmp_Compare_int : FuncId := 40
abbrev F_rostrumref18_SameRec : FuncId := 41
abbrev F_rostrumlaw20_bal : FuncId := 42
abbrev F_rostrumlaw20_rec : FuncId := 43
abbrev F_vec_Rep : FuncId := 44
abbrev F_ballot_rep : FuncId := 45
abbrev F_slices_Collect_api_Dot : FuncId := 46
abbrev F_slices_SortFunc_sl_api_Dot_api_Dot : FuncId := 47
abbrev F_maps_Keys_map_api_Dot_inst_Rec_api_Dot_inst_Rec_1 : FuncId := 48
abbrev F_slices_IndexFunc_sl_api_Dot_api_Dot : FuncId := 49
abbrev F_cmp_isNaN_int64 : FuncId := 50
abbrev F_cmp_isNaN_int : FuncId := 51
abbrev F_slices_AppendSeq_sl_api_Dot_api_Dot : FuncId := 52
abbrev F_slices_pdqsortCmpFunc_api_Dot : FuncId := 53
abbrev F_math_bits_Len : FuncId := 54
abbrev F_slices_insertionSortCmpFunc_api_Dot : FuncId := 55
abbrev F_slices_heapSortCmpFunc_api_Dot : FuncId := 56
abbrev F_slices_breakPatternsCmpFunc_api_Dot : FuncId := 57
abbrev F_slices_choosePivotCmpFunc_api_Dot : FuncId := 58
abbrev F_slices_reverseRangeCmpFunc_api_Dot : FuncId := 59
abbrev F_slices_partialInsertionSortCmpFunc_api_Dot : FuncId := 60
abbrev F_slices_partitionEqualCmpFunc_api_Dot : FuncId := 61
abbrev F_slices_partitionCmpFunc_api_Dot : FuncId := 62
abbrev F_math_bits_Len32 : FuncId := 63
abbrev F_math_bits_Len64 : FuncId := 64
abbrev F_slices_siftDownCmpFunc_api_Dot : FuncId := 65
abbrev F_slices_nextPowerOfTwo : FuncId := 66
abbrev F_slices_xorshift_Next : FuncId := 67
abbrev F_slices_medianAdjacentCmpFunc_api_Dot : FuncId := 68
abbrev F_slices_medianCmpFunc_api_Dot : FuncId := 69
abbrev F_slices_order2CmpFunc_api_Dot : FuncId := 70
abbrev F_runtime_boundsError_Error : FuncId := 71
abbrev F_runtime_boundsError_RuntimeError : FuncId := 72
abbrev F_runtime_errorString_Error : FuncId := 73
abbrev F_runtime_errorString_RuntimeError : FuncId := 74
abbrev F_runtime_plainError_Error : FuncId := 75
abbrev F_runtime_plainError_RuntimeError : FuncId := 76
abbrev F_runtime_errorAddressString_Error : FuncId := 77
abbrev F_runtime_errorAddressString_RuntimeError : FuncId := 78
abbrev F_runtime_TypeAssertionError_Error : FuncId := 79
abbrev F_runtime_TypeAssertionError_RuntimeError : FuncId := 80
abbrev F_runtime_PanicNilError_Error : FuncId := 81
abbrev F_runtime_PanicNilError_RuntimeError : FuncId := 82
abbrev F_internal_abi_Type_Align : FuncId := 83
abbrev F_internal_runtime_maps_unhashableTypeError_Error : FuncId := 84
abbrev F_internal_runtime_maps_unhashableTypeError_RuntimeError : FuncId := 85
abbrev F_api_Errno_Error : FuncId := 86
abbrev F_internal_abi_Kind_String : FuncId := 87
abbrev T_func : TypeId := 1
abbrev T_int64 : TypeId := 2
abbrev T_int : TypeId := 3
abbrev T_bool : TypeId := 4
abbrev T_uint8 : TypeId := 5
abbrev T_internal_abi_BoundsErrorCode : TypeId := 6
abbrev T_struct_x_int64_y_int_signed_bool_code_abi_BoundsErrorCode : TypeId := 7
abbrev T_runtime_boundsError : TypeId := 8
abbrev T_string : TypeId := 9
abbrev T_runtime_errorString : TypeId := 10
abbrev T_runtime_plainError : TypeId := 11
abbrev T_uintptr : TypeId := 12
abbrev T_struct_msg_string_addr_uintptr : TypeId := 13
abbrev T_runtime_errorAddressString : TypeId := 14
abbrev T_p_runtime_TypeAssertionError : TypeId := 15
abbrev T_p_runtime_PanicNilError : TypeId := 16
abbrev T_p_abi_Type : TypeId := 17
abbrev T_struct_typ_p_abi_Type : TypeId := 18
abbrev T_internal_runtime_maps_unhashableTypeError : TypeId := 19
abbrev T_interface : TypeId := 20
abbrev T_int32 : TypeId := 21
abbrev T_sl_inst_Msg : TypeId := 22
abbrev T_struct_Rep_int_N_int64 : TypeId := 23
abbrev T_api_Dot : TypeId := 24
abbrev T_func_bool : TypeId := 25
abbrev T_func_sl_inst_Msg_bool : TypeId := 26
abbrev T_p_inst_Table : TypeId := 27
abbrev T_func_p_inst_Table : TypeId := 28
abbrev T_struct_N_int64_Rep_int : TypeId := 29
abbrev T_ballot_Ballot : TypeId := 30
abbrev T_sl_uint8 : TypeId := 31
abbrev T_7_int64 : TypeId := 32
abbrev T_vec_Vec : TypeId := 33
abbrev T_struct_Kind_int_Dot_api_Dot_Ballot_ballot_Ballot_Cmd_sl_uint8_Seq_int64_Deps_vec_Vec : TypeId := 34
abbrev T_inst_Msg : TypeId := 35
abbrev T_struct_Status_int_Cmd_sl_uint8_Seq_int64_Deps_vec_Vec_Ballot_ballot_Ballot_At_ballot_Ballot : TypeId := 36
abbrev T_inst_Rec : TypeId := 37
abbrev T_struct_OK_bool_Ballot_ballot_Ballot_Rec_inst_Rec : TypeId := 38
abbrev T_inst_Answer : TypeId := 39
abbrev T_api_Errno : TypeId := 40
abbrev T_inst_Answer_api_Errno : TypeId := 41
abbrev T_func_inst_Msg_inst_Answer_api_Errno : TypeId := 42
abbrev T_func_sl_inst_Msg_api_Dot_api_Dot_bool : TypeId := 43
abbrev T_func_api_Dot_inst_Rec : TypeId := 44
abbrev T_func_inst_Rec_inst_Rec_bool : TypeId := 45
abbrev T_func_vec_Vec : TypeId := 46
abbrev T_func_api_Dot_inst_Rec_api_Errno : TypeId := 47
abbrev T_func_int64 : TypeId := 48
abbrev T_sl_api_Dot : TypeId := 49
abbrev T_func_sl_api_Dot : TypeId := 50
abbrev T_func_inst_Msg_bool : TypeId := 51
abbrev T_func_ballot_Ballot_ballot_Ballot_int : TypeId := 52
abbrev T_func_vec_Vec_vec_Vec_bool : TypeId := 53
abbrev T_func_rostrumref18_Answer_rostrumref18_Answer_bool : TypeId := 54
abbrev T_rostrumref18_Ballot : TypeId := 55
abbrev T_rostrumref7_Vec : TypeId := 56
abbrev T_struct_Status_int_Cmd_sl_uint8_Seq_int64_Deps_rostrumref7_Vec_Ballot_rostrumref18_Ballot_At_rostrumref18_Ballot : TypeId := 57
abbrev T_rostrumref18_Rec : TypeId := 58
abbrev T_struct_OK_bool_Ballot_rostrumref18_Ballot_Rec_rostrumref18_Rec : TypeId := 59
abbrev T_rostrumref18_Answer : TypeId := 60
abbrev T_func_inst_Answer_rostrumref18_Answer : TypeId := 61
abbrev T_func_sl_inst_Msg_inst_Msg_bool : TypeId := 62
abbrev T_map_api_Dot_inst_Rec : TypeId := 63
abbrev T_struct_recs_map_api_Dot_inst_Rec : TypeId := 64
abbrev T_inst_Table : TypeId := 65
abbrev T_inst_Answer_bool : TypeId := 66
abbrev T_func_inst_Msg_inst_Rec_inst_Answer_bool : TypeId := 67
abbrev T_func_sl_uint8_sl_uint8 : TypeId := 68
abbrev T_int64_vec_Vec : TypeId := 69
abbrev T_func_api_Dot_int64_vec_Vec : TypeId := 70
abbrev T_func_vec_Vec_vec_Vec_vec_Vec : TypeId := 71
abbrev T_func_ballot_Ballot_ballot_Ballot : TypeId := 72
abbrev T_func_inst_Rec_inst_Rec : TypeId := 73
abbrev T_func_sl_uint8_sl_uint8_bool : TypeId := 74
abbrev T_func_api_Dot_bool : TypeId := 75
abbrev T_func_sl_uint8_int64_vec_Vec_bool : TypeId := 76
abbrev T_func_ballot_Ballot_bool : TypeId := 77
abbrev T_func_iter_Seq_api_Dot_func_api_Dot_api_Dot_int_sl_api_Dot : TypeId := 78
abbrev T_func_func_api_Dot_bool : TypeId := 79
abbrev T_iter_Seq_api_Dot : TypeId := 80
abbrev T_func_map_api_Dot_inst_Rec_iter_Seq_api_Dot : TypeId := 81
abbrev T_func_api_Dot_api_Dot_int : TypeId := 82
abbrev T_func_sl_api_Dot_func_api_Dot_bool_sl_api_Dot : TypeId := 83
abbrev T_func_int_int : TypeId := 84
abbrev T_func_int64_int64_int : TypeId := 85
abbrev T_func_int_int_int : TypeId := 86
abbrev T_func_rostrumref18_Rec_rostrumref18_Rec_bool : TypeId := 87
abbrev T_func_ballot_Ballot_rostrumref18_Ballot : TypeId := 88
abbrev T_func_inst_Rec_rostrumref18_Rec : TypeId := 89
abbrev T_sl_ballot_Ballot : TypeId := 90
abbrev T_func_int_bool : TypeId := 91
abbrev T_func_iter_Seq_api_Dot_sl_api_Dot : TypeId := 92
abbrev T_func_sl_api_Dot_func_api_Dot_api_Dot_int : TypeId := 93
abbrev T_func_sl_api_Dot_func_api_Dot_bool_int : TypeId := 94
abbrev T_sl_int : TypeId := 95
abbrev T_func_int64_bool : TypeId := 96
abbrev T_func_sl_api_Dot_iter_Seq_api_Dot_sl_api_Dot : TypeId := 97
abbrev T_func_sl_api_Dot_int_int_int_func_api_Dot_api_Dot_int : TypeId := 98
abbrev T_func_uint_int : TypeId := 99
abbrev T_uint : TypeId := 100
abbrev T_func_sl_api_Dot_int_int_func_api_Dot_api_Dot_int : TypeId := 101
abbrev T_slices_sortedHint : TypeId := 102
abbrev T_int_slices_sortedHint : TypeId := 103
abbrev T_func_sl_api_Dot_int_int_func_api_Dot_api_Dot_int_int_slices_sortedHint : TypeId := 104
abbrev T_func_sl_api_Dot_int_int_func_api_Dot_api_Dot_int_bool : TypeId := 105
abbrev T_func_sl_api_Dot_int_int_int_func_api_Dot_api_Dot_int_int : TypeId := 106
abbrev T_int_bool : TypeId := 107
abbrev T_func_sl_api_Dot_int_int_int_func_api_Dot_api_Dot_int_int_bool : TypeId := 108
abbrev T_func_uint32_int : TypeId := 109
abbrev T_uint32 : TypeId := 110
abbrev T_func_uint64_int : TypeId := 111
abbrev T_uint64 : TypeId := 112
abbrev T_slices_xorshift : TypeId := 113
abbrev T_func_int_uint : TypeId := 114
abbrev T_func_uint64 : TypeId := 115
abbrev T_func_sl_api_Dot_int_p_int_func_api_Dot_api_Dot_int_int : TypeId := 116
abbrev T_p_int : TypeId := 117
abbrev T_func_sl_api_Dot_int_int_int_p_int_func_api_Dot_api_Dot_int_int : TypeId := 118
abbrev T_p_slices_xorshift : TypeId := 119
abbrev T_int_int : TypeId := 120
abbrev T_func_sl_api_Dot_int_int_p_int_func_api_Dot_api_Dot_int_int_int : TypeId := 121
abbrev T_func_string : TypeId := 122
abbrev T_struct_interface_p_abi_Type_concrete_p_abi_Type_asserted_p_abi_Type_missingMethod_string : TypeId := 123
abbrev T_runtime_TypeAssertionError : TypeId := 124
abbrev T_0_p_runtime_PanicNilError : TypeId := 125
abbrev T_struct_0_p_runtime_PanicNilError : TypeId := 126
abbrev T_runtime_PanicNilError : TypeId := 127
abbrev T_func_int : TypeId := 128
abbrev T_internal_abi_TFlag : TypeId := 129
abbrev T_internal_abi_Kind : TypeId := 130
abbrev T_func_unsafe_Pointer_unsafe_Pointer_bool : TypeId := 131
abbrev T_p_uint8 : TypeId := 132
abbrev T_internal_abi_NameOff : TypeId := 133
abbrev T_internal_abi_TypeOff : TypeId := 134
abbrev T_struct_Size_uintptr_PtrBytes_uintptr_Hash_uint32_TFlag_abi_TFlag_Align_uint8_FieldAlign_uint8_Kind_abi_Kind_Equal_func_unsafe_Pointer_unsafe_Pointer_bool_GCData_p_uint8_Str_abi_NameOff_PtrToThis_abi_TypeOff : TypeId := 135
abbrev T_internal_abi_Type : TypeId := 136
abbrev T_unsafe_Pointer : TypeId := 137
def p_rostrumlaw20_InstHangs : List (Nat × Pl) := [(9, (.fl 0 (.fl 1 (.fr 2 (.fl 3 (.fr 4 (.fr 5 (.fl 6 (.fl 7 (.fl 8 (.fl 9 (.fr 10 (.fl 11 (.fr 12 (.fr 13 (.fl 14 (.fl 15 .done))))))))))))))))), (15, (.fl 0 (.fr 1 (.fl 2 (.fl 3 (.fr 4 (.fl 5 (.fl 6 (.fl 7 (.fr 8 (.fl 9 (.fl 10 (.fr 11 (.fr 12 (.fl 13 (.fr 14 (.fl 15 (.fl 16 (.fl 17 (.fl 18 (.fl 19 (.fr 20 (.fl 21 (.fl 22 (.fr 23 (.fl 24 (.fl 25 (.fl 26 .done))))))))))))))))))))))))))))]
def c_rostrumlaw20_InstHangs : VCode :=
 (.seq (.reg [⟨(some 4), none, .box 24 (.t 1)⟩,
   ⟨(some 5), none, .box 24 (.t 2)⟩,
   ⟨(some 6), none, .mov (.c (.kb false))⟩])
 (.seq (.seq (.reg [⟨(some 13), none, .call 8 []⟩,
   ⟨(some 14), none, .un .not (.t 13)⟩])
 (.cond (.t 14)
  (.seq (.reg [⟨(some 6), none, .mov (.c (.kb false))⟩])
  .ret)
  .skip))
 (.seq (.seq (.reg [⟨(some 15), none, .mov (.t 0)⟩,
   ⟨(some 16), none, .call 9 [(.t 15)]⟩,
   ⟨(some 17), none, .un .not (.t 16)⟩,
   ⟨(some 18), none, .mov (.t 17)⟩,
   ⟨(some 19), (some (18, false)), .load (some 2) (.t 4)⟩,
   ⟨(some 20), (some (18, false)), .load (some 2) (.t 5)⟩,
   ⟨(some 21), (some (18, false)), .bin .eql (.agg [.i, .i]) (.t 19) (.t 20)⟩,
   ⟨(some 22), none, .pick (.t 18) (.c (.kb true)) (.t 21)⟩])
 (.cond (.t 22)
  (.seq (.reg [⟨(some 6), none, .mov (.c (.kb true))⟩])
  .ret)
  .skip))
 (.seq (.reg [⟨(some 23), none, .call 10 []⟩,
   ⟨(some 7), none, .mov (.t 23)⟩])
 (.seq (.seq (.reg [⟨(some 8), none, .mov (.c (.raw (.int .i64 0)))⟩])
 (.block 0 (.loop (.seq (.seq (.reg [⟨(some 24), none, .mov (.t 8)⟩,
    ⟨(some 25), none, .mov (.t 0)⟩,
    ⟨(some 26), none, .len .sl (.t 25)⟩,
    ⟨(some 27), none, .bin .lss .no (.t 24) (.t 26)⟩])
  (.cond (.t 27)
   .skip
   (.exit 0)))
  (.seq (.block 1 (.seq (.draw [⟨(some 30), none, .mov (.t 0)⟩,
    ⟨(some 31), none, .mov (.t 8)⟩,
    ⟨(some 32), none, .iaddr 14 none (.t 30) (.t 31)⟩,
    ⟨(some 33), none, .faddr 1 (.t 32)⟩,
    ⟨(some 34), none, .load (some 2) (.t 33)⟩,
    ⟨(some 35), none, .load (some 2) (.t 4)⟩,
    ⟨(some 36), none, .bin .neq (.agg [.i, .i]) (.t 34) (.t 35)⟩,
    ⟨(some 37), none, .mov (.t 36)⟩,
    ⟨(some 38), (some (37, true)), .mov (.t 0)⟩,
    ⟨(some 39), (some (37, true)), .mov (.t 8)⟩,
    ⟨(some 40), (some (37, true)), .iaddr 14 none (.t 38) (.t 39)⟩,
    ⟨(some 41), (some (37, true)), .faddr 1 (.t 40)⟩,
    ⟨(some 42), (some (37, true)), .load (some 2) (.t 41)⟩,
    ⟨(some 43), (some (37, true)), .load (some 2) (.t 5)⟩,
    ⟨(some 44), (some (37, true)), .bin .neq (.agg [.i, .i]) (.t 42) (.t 43)⟩,
    ⟨(some 45), none, .pick (.t 37) (.t 44) (.c (.kb false))⟩]
    (.fl 0 (.fl 1 (.fr 2 (.fl 3 (.fr 4 (.fr 5 (.fl 6 (.fl 7 (.fl 8 (.fl 9 (.fr 10 (.fl 11 (.fr 12 (.fr 13 (.fl 14 (.fl 15 .done)))))))))))))))))
  (.cond (.t 45)
   (.reg [⟨(some 46), none, .mov (.t 7)⟩,
     ⟨(some 47), none, .mov (.t 0)⟩,
     ⟨(some 48), none, .mov (.t 8)⟩,
     ⟨(some 49), none, .iaddr 14 none (.t 47) (.t 48)⟩,
     ⟨(some 50), none, .load (some 14) (.t 49)⟩,
     ⟨(some 51), none, .call 11 [(.t 46), (.t 50)]⟩])
   .skip)))
  (.reg [⟨(some 28), none, .mov (.t 8)⟩,
    ⟨(some 29), none, .bin .add .no (.t 28) (.c (.raw (.int .i64 1)))⟩,
    ⟨(some 8), none, .mov (.t 29)⟩]))))))
 (.seq (.reg [⟨(some 53), none, .mov (.t 7)⟩,
   ⟨(some 54), none, .load (some 2) (.t 4)⟩,
   ⟨(some 55), none, .build [(.int .i64 0), (.int .i64 0)] []⟩,
   ⟨(some 56), none, .bslice 5 1 [(.int .u8 0)] [(0, 1, (.c (.raw (.int .u8 97))))]⟩,
   ⟨(some 57), none, .conv .s2s (.t 56)⟩,
   ⟨(some 58), none, .build [(.int .i64 0), (.int .i64 0), (.int .i64 0), (.int .i64 0), (.int .i64 0), (.slice none 0 0), (.int .i64 0), (.int .i64 0), (.int .i64 0), (.int .i64 0), (.int .i64 0), (.int .i64 0), (.int .i64 0), (.int .i64 0)] [(0, 1, (.c (.raw (.int .i64 1)))), (1, 2, (.t 54)), (3, 2, (.t 55)), (5, 1, (.t 57))]⟩,
   ⟨(some 59), none, .call 11 [(.t 53), (.t 58)]⟩,
   ⟨(some 52), none, .mov (.t 59)⟩,
   ⟨(some 60), none, .extr (.t 52) 0⟩,
   ⟨(some 61), none, .extr (.t 52) 1⟩,
   ⟨(some 9), none, .new 39 [(.bool false), (.int .i64 0), (.int .i64 0), (.int .i64 0), (.slice none 0 0), (.int .i64 0), (.int .i64 0), (.int .i64 0), (.int .i64 0), (.int .i64 0), (.int .i64 0), (.int .i64 0), (.int .i64 0), (.int .i64 0), (.int .i64 0), (.int .i64 0), (.int .i64 0)]⟩,
   ⟨none, none, .store (some 17) (.t 9) (.t 60)⟩,
   ⟨(some 10), none, .mov (.t 61)⟩])
 (.seq (.reg [⟨(some 63), none, .mov (.t 7)⟩,
   ⟨(some 64), none, .load (some 2) (.t 5)⟩,
   ⟨(some 65), none, .build [(.int .i64 0), (.int .i64 0)] []⟩,
   ⟨(some 66), none, .bslice 5 1 [(.int .u8 0)] [(0, 1, (.c (.raw (.int .u8 98))))]⟩,
   ⟨(some 67), none, .conv .s2s (.t 66)⟩,
   ⟨(some 68), none, .build [(.int .i64 0), (.int .i64 0), (.int .i64 0), (.int .i64 0), (.int .i64 0), (.slice none 0 0), (.int .i64 0), (.int .i64 0), (.int .i64 0), (.int .i64 0), (.int .i64 0), (.int .i64 0), (.int .i64 0), (.int .i64 0)] [(0, 1, (.c (.raw (.int .i64 1)))), (1, 2, (.t 64)), (3, 2, (.t 65)), (5, 1, (.t 67))]⟩,
   ⟨(some 69), none, .call 11 [(.t 63), (.t 68)]⟩,
   ⟨(some 62), none, .mov (.t 69)⟩,
   ⟨(some 70), none, .extr (.t 62) 0⟩,
   ⟨(some 71), none, .extr (.t 62) 1⟩,
   ⟨(some 11), none, .new 39 [(.bool false), (.int .i64 0), (.int .i64 0), (.int .i64 0), (.slice none 0 0), (.int .i64 0), (.int .i64 0), (.int .i64 0), (.int .i64 0), (.int .i64 0), (.int .i64 0), (.int .i64 0), (.int .i64 0), (.int .i64 0), (.int .i64 0), (.int .i64 0), (.int .i64 0)]⟩,
   ⟨none, none, .store (some 17) (.t 11) (.t 70)⟩,
   ⟨(some 12), none, .mov (.t 71)⟩])
 (.seq (.seq (.reg [⟨(some 72), none, .mov (.t 10)⟩,
   ⟨(some 73), none, .bin .neq .no (.t 72) (.c (.raw (.int .i64 0)))⟩,
   ⟨(some 74), none, .mov (.t 73)⟩,
   ⟨(some 75), (some (74, false)), .mov (.t 12)⟩,
   ⟨(some 76), (some (74, false)), .bin .neq .no (.t 75) (.c (.raw (.int .i64 0)))⟩,
   ⟨(some 77), none, .pick (.t 74) (.c (.kb true)) (.t 76)⟩])
 (.cond (.t 77)
  (.seq (.reg [⟨(some 78), none, .mov (.t 10)⟩,
    ⟨(some 79), none, .bin .eql .no (.t 78) (.c (.raw (.int .i64 1)))⟩,
    ⟨(some 80), none, .mov (.t 79)⟩,
    ⟨(some 81), (some (80, false)), .mov (.t 12)⟩,
    ⟨(some 82), (some (80, false)), .bin .eql .no (.t 81) (.c (.raw (.int .i64 1)))⟩,
    ⟨(some 83), none, .pick (.t 80) (.c (.kb true)) (.t 82)⟩,
    ⟨(some 6), none, .mov (.t 83)⟩])
  .ret)
  .skip))
 (.seq (.draw [⟨(some 84), none, .faddr 0 (.t 9)⟩,
   ⟨(some 85), none, .load none (.t 84)⟩,
   ⟨(some 86), none, .mov (.t 85)⟩,
   ⟨(some 87), (some (86, true)), .faddr 0 (.t 11)⟩,
   ⟨(some 88), (some (86, true)), .load none (.t 87)⟩,
   ⟨(some 89), none, .pick (.t 86) (.t 88) (.c (.kb false))⟩,
   ⟨(some 90), none, .mov (.t 89)⟩,
   ⟨(some 91), (some (90, true)), .faddr 0 (.t 4)⟩,
   ⟨(some 92), (some (90, true)), .load none (.t 91)⟩,
   ⟨(some 93), (some (90, true)), .faddr 3 (.t 11)⟩,
   ⟨(some 94), (some (90, true)), .faddr 3 (.t 93)⟩,
   ⟨(some 95), (some (90, true)), .iaddr 1 (some 7) (.t 94) (.t 92)⟩,
   ⟨(some 96), (some (90, true)), .load none (.t 95)⟩,
   ⟨(some 97), (some (90, true)), .faddr 1 (.t 4)⟩,
   ⟨(some 98), (some (90, true)), .load none (.t 97)⟩,
   ⟨(some 99), (some (90, true)), .bin .geq .no (.t 96) (.t 98)⟩,
   ⟨(some 100), none, .pick (.t 90) (.t 99) (.c (.kb false))⟩,
   ⟨(some 101), none, .mov (.t 100)⟩,
   ⟨(some 102), (some (101, true)), .faddr 3 (.t 11)⟩,
   ⟨(some 103), (some (101, true)), .faddr 2 (.t 102)⟩,
   ⟨(some 104), (some (101, true)), .load none (.t 103)⟩,
   ⟨(some 105), (some (101, true)), .faddr 3 (.t 9)⟩,
   ⟨(some 106), (some (101, true)), .faddr 2 (.t 105)⟩,
   ⟨(some 107), (some (101, true)), .load none (.t 106)⟩,
   ⟨(some 108), (some (101, true)), .bin .gtr .no (.t 104) (.t 107)⟩,
   ⟨(some 109), none, .pick (.t 101) (.t 108) (.c (.kb false))⟩,
   ⟨(some 6), none, .mov (.t 109)⟩]
   (.fl 0 (.fr 1 (.fl 2 (.fl 3 (.fr 4 (.fl 5 (.fl 6 (.fl 7 (.fr 8 (.fl 9 (.fl 10 (.fr 11 (.fr 12 (.fl 13 (.fr 14 (.fl 15 (.fl 16 (.fl 17 (.fl 18 (.fl 19 (.fr 20 (.fl 21 (.fl 22 (.fr 23 (.fl 24 (.fl 25 (.fl 26 .done))))))))))))))))))))))))))))
 .ret)))))))))
theorem i_rostrumlaw20_InstHangs : Is Try.prog 3 110 [.t 6] c_rostrumlaw20_InstHangs := ⟨Try.f3, _, p_rostrumlaw20_InstHangs, rfl, rfl, by kernel_rfl, by kernel_rfl, rfl⟩
def p_rostrumlaw20_InstTwice : List (Nat × Pl) := [(12, (.fl 0 (.fl 1 (.fl 2 (.fl 3 (.fl 4 (.fr 5 (.fl 6 (.fr 7 (.fl 8 (.fl 9 (.fl 10 (.fr 11 (.fl 12 (.fl 13 (.fl 14 (.fr 15 (.fl 16 (.fr 17 (.st 18 [11] (.st 19 [] (.fl 20 (.fl 21 .done)))))))))))))))))))))))]
def c_rostrumlaw20_InstTwice : VCode :=
 (.seq (.reg [⟨(some 2), none, .mov (.c (.kb false))⟩])
 (.seq (.seq (.reg [⟨(some 10), none, .call 8 []⟩,
   ⟨(some 11), none, .un .not (.t 10)⟩])
 (.cond (.t 11)
  (.seq (.reg [⟨(some 2), none, .mov (.c (.kb false))⟩])
  .ret)
  .skip))
 (.seq (.seq (.reg [⟨(some 12), none, .mov (.t 0)⟩,
   ⟨(some 13), none, .call 9 [(.t 12)]⟩,
   ⟨(some 14), none, .un .not (.t 13)⟩])
 (.cond (.t 14)
  (.seq (.reg [⟨(some 2), none, .mov (.c (.kb true))⟩])
  .ret)
  .skip))
 (.seq (.reg [⟨(some 15), none, .call 10 []⟩,
   ⟨(some 3), none, .mov (.t 15)⟩])
 (.seq (.seq (.reg [⟨(some 4), none, .mov (.c (.raw (.int .i64 0)))⟩])
 (.block 0 (.loop (.seq (.seq (.reg [⟨(some 16), none, .mov (.t 4)⟩,
    ⟨(some 17), none, .mov (.t 0)⟩,
    ⟨(some 18), none, .len .sl (.t 17)⟩,
    ⟨(some 19), none, .bin .lss .no (.t 16) (.t 18)⟩])
  (.cond (.t 19)
   .skip
   (.exit 0)))
  (.seq (.block 1 (.seq (.reg [⟨(some 23), none, .mov (.t 3)⟩,
    ⟨(some 24), none, .mov (.t 0)⟩,
    ⟨(some 25), none, .mov (.t 4)⟩,
    ⟨(some 26), none, .iaddr 14 none (.t 24) (.t 25)⟩,
    ⟨(some 27), none, .load (some 14) (.t 26)⟩,
    ⟨(some 28), none, .call 11 [(.t 23), (.t 27)]⟩,
    ⟨(some 22), none, .mov (.t 28)⟩,
    ⟨(some 29), none, .extr (.t 22) 0⟩,
    ⟨(some 30), none, .extr (.t 22) 1⟩,
    ⟨(some 5), none, .new 39 [(.bool false), (.int .i64 0), (.int .i64 0), (.int .i64 0), (.slice none 0 0), (.int .i64 0), (.int .i64 0), (.int .i64 0), (.int .i64 0), (.int .i64 0), (.int .i64 0), (.int .i64 0), (.int .i64 0), (.int .i64 0), (.int .i64 0), (.int .i64 0), (.int .i64 0)]⟩,
    ⟨none, none, .store (some 17) (.t 5) (.t 29)⟩,
    ⟨(some 6), none, .mov (.t 30)⟩])
  (.seq (.reg [⟨(some 31), none, .mov (.t 3)⟩,
    ⟨(some 32), none, .mov (.t 0)⟩,
    ⟨(some 33), none, .mov (.t 4)⟩,
    ⟨(some 34), none, .iaddr 14 none (.t 32) (.t 33)⟩,
    ⟨(some 35), none, .faddr 1 (.t 34)⟩,
    ⟨(some 36), none, .load (some 2) (.t 35)⟩,
    ⟨(some 37), none, .call 12 [(.t 31), (.t 36)]⟩,
    ⟨(some 7), none, .new 37 [(.int .i64 0), (.slice none 0 0), (.int .i64 0), (.int .i64 0), (.int .i64 0), (.int .i64 0), (.int .i64 0), (.int .i64 0), (.int .i64 0), (.int .i64 0), (.int .i64 0), (.int .i64 0), (.int .i64 0), (.int .i64 0)]⟩,
    ⟨none, none, .store (some 14) (.t 7) (.t 37)⟩])
  (.seq (.reg [⟨(some 39), none, .mov (.t 3)⟩,
    ⟨(some 40), none, .mov (.t 0)⟩,
    ⟨(some 41), none, .mov (.t 4)⟩,
    ⟨(some 42), none, .iaddr 14 none (.t 40) (.t 41)⟩,
    ⟨(some 43), none, .load (some 14) (.t 42)⟩,
    ⟨(some 44), none, .call 11 [(.t 39), (.t 43)]⟩,
    ⟨(some 38), none, .mov (.t 44)⟩,
    ⟨(some 45), none, .extr (.t 38) 0⟩,
    ⟨(some 46), none, .extr (.t 38) 1⟩,
    ⟨(some 8), none, .new 39 [(.bool false), (.int .i64 0), (.int .i64 0), (.int .i64 0), (.slice none 0 0), (.int .i64 0), (.int .i64 0), (.int .i64 0), (.int .i64 0), (.int .i64 0), (.int .i64 0), (.int .i64 0), (.int .i64 0), (.int .i64 0), (.int .i64 0), (.int .i64 0), (.int .i64 0)]⟩,
    ⟨none, none, .store (some 17) (.t 8) (.t 45)⟩,
    ⟨(some 9), none, .mov (.t 46)⟩])
  (.seq (.draw [⟨(some 47), none, .mov (.t 6)⟩,
    ⟨(some 48), none, .mov (.t 9)⟩,
    ⟨(some 49), none, .bin .neq .no (.t 47) (.t 48)⟩,
    ⟨(some 50), none, .mov (.t 49)⟩,
    ⟨(some 51), (some (50, false)), .faddr 0 (.t 5)⟩,
    ⟨(some 52), (some (50, false)), .load none (.t 51)⟩,
    ⟨(some 53), (some (50, false)), .faddr 0 (.t 8)⟩,
    ⟨(some 54), (some (50, false)), .load none (.t 53)⟩,
    ⟨(some 55), (some (50, false)), .bin .neq .b (.t 52) (.t 54)⟩,
    ⟨(some 56), none, .pick (.t 50) (.c (.kb true)) (.t 55)⟩,
    ⟨(some 57), none, .mov (.t 56)⟩,
    ⟨(some 58), (some (57, false)), .load (some 14) (.t 7)⟩,
    ⟨(some 59), (some (57, false)), .mov (.t 3)⟩,
    ⟨(some 60), (some (57, false)), .mov (.t 0)⟩,
    ⟨(some 61), (some (57, false)), .mov (.t 4)⟩,
    ⟨(some 62), (some (57, false)), .iaddr 14 none (.t 60) (.t 61)⟩,
    ⟨(some 63), (some (57, false)), .faddr 1 (.t 62)⟩,
    ⟨(some 64), (some (57, false)), .load (some 2) (.t 63)⟩,
    ⟨(some 65), (some (57, false)), .call 12 [(.t 59), (.t 64)]⟩,
    ⟨(some 66), (some (57, false)), .call 13 [(.t 58), (.t 65)]⟩,
    ⟨(some 67), (some (57, false)), .un .not (.t 66)⟩,
    ⟨(some 68), none, .pick (.t 57) (.c (.kb true)) (.t 67)⟩]
    (.fl 0 (.fl 1 (.fl 2 (.fl 3 (.fl 4 (.fr 5 (.fl 6 (.fr 7 (.fl 8 (.fl 9 (.fl 10 (.fr 11 (.fl 12 (.fl 13 (.fl 14 (.fr 15 (.fl 16 (.fr 17 (.st 18 [11] (.st 19 [] (.fl 20 (.fl 21 .done)))))))))))))))))))))))
  (.cond (.t 68)
   (.seq (.reg [⟨(some 2), none, .mov (.c (.kb false))⟩])
   .ret)
   .skip))))))
  (.reg [⟨(some 20), none, .mov (.t 4)⟩,
    ⟨(some 21), none, .bin .add .no (.t 20) (.c (.raw (.int .i64 1)))⟩,
    ⟨(some 4), none, .mov (.t 21)⟩]))))))
 (.seq (.reg [⟨(some 2), none, .mov (.c (.kb true))⟩])
 .ret))))))
theorem i_rostrumlaw20_InstTwice : Is Try.prog 4 69 [.t 2] c_rostrumlaw20_InstTwice := ⟨Try.f4, _, p_rostrumlaw20_InstTwice, rfl, rfl, by kernel_rfl, by kernel_rfl, rfl⟩
def p_rostrumlaw20_InstKnown : List (Nat × Pl) := []
def c_rostrumlaw20_InstKnown : VCode :=
 (.seq (.reg [⟨(some 0), none, .mov (.c (.kb false))⟩])
 (.seq (.seq (.reg [⟨(some 23), none, .call 8 []⟩,
   ⟨(some 24), none, .un .not (.t 23)⟩])
 (.cond (.t 24)
  (.seq (.reg [⟨(some 0), none, .mov (.c (.kb false))⟩])
  .ret)
  .skip))
 (.seq (.reg [⟨(some 25), none, .call 10 []⟩,
   ⟨(some 1), none, .mov (.t 25)⟩])
 (.seq (.reg [⟨(some 26), none, .build [(.int .i64 0), (.int .i64 0)] [(0, 1, (.c (.raw (.int .i64 2)))), (1, 1, (.c (.raw (.int .i64 3))))]⟩,
   ⟨(some 2), none, .new 24 [(.int .i64 0), (.int .i64 0)]⟩,
   ⟨none, none, .store (some 2) (.t 2) (.t 26)⟩])
 (.seq (.reg [⟨(some 27), none, .build [(.int .i64 0), (.int .i64 0)] [(0, 1, (.c (.raw (.int .i64 2)))), (1, 1, (.c (.raw (.int .i64 1))))]⟩,
   ⟨(some 28), none, .build [(.int .i64 0), (.int .i64 0)] [(0, 1, (.c (.raw (.int .i64 1)))), (1, 1, (.c (.raw (.int .i64 6))))]⟩,
   ⟨(some 3), none, .new 30 [(.int .i64 0), (.int .i64 0)]⟩,
   ⟨(some 4), none, .new 30 [(.int .i64 0), (.int .i64 0)]⟩,
   ⟨none, none, .store (some 2) (.t 3) (.t 27)⟩,
   ⟨none, none, .store (some 2) (.t 4) (.t 28)⟩])
 (.seq (.reg [⟨(some 30), none, .mov (.t 1)⟩,
   ⟨(some 31), none, .load (some 2) (.t 2)⟩,
   ⟨(some 32), none, .load (some 2) (.t 3)⟩,
   ⟨(some 33), none, .build [(.int .i64 0), (.int .i64 0), (.int .i64 0), (.int .i64 0), (.int .i64 0), (.slice none 0 0), (.int .i64 0), (.int .i64 0), (.int .i64 0), (.int .i64 0), (.int .i64 0), (.int .i64 0), (.int .i64 0), (.int .i64 0)] [(0, 1, (.c (.raw (.int .i64 4)))), (1, 2, (.t 31)), (3, 2, (.t 32))]⟩,
   ⟨(some 34), none, .call 11 [(.t 30), (.t 33)]⟩,
   ⟨(some 29), none, .mov (.t 34)⟩,
   ⟨(some 35), none, .extr (.t 29) 0⟩,
   ⟨(some 36), none, .extr (.t 29) 1⟩,
   ⟨(some 5), none, .new 39 [(.bool false), (.int .i64 0), (.int .i64 0), (.int .i64 0), (.slice none 0 0), (.int .i64 0), (.int .i64 0), (.int .i64 0), (.int .i64 0), (.int .i64 0), (.int .i64 0), (.int .i64 0), (.int .i64 0), (.int .i64 0), (.int .i64 0), (.int .i64 0), (.int .i64 0)]⟩,
   ⟨none, none, .store (some 17) (.t 5) (.t 35)⟩,
   ⟨(some 6), none, .mov (.t 36)⟩])
 (.seq (.reg [⟨(some 38), none, .mov (.t 1)⟩,
   ⟨(some 39), none, .load (some 2) (.t 2)⟩,
   ⟨(some 40), none, .load (some 2) (.t 4)⟩,
   ⟨(some 41), none, .bslice 5 1 [(.int .u8 0)] [(0, 1, (.c (.raw (.int .u8 120))))]⟩,
   ⟨(some 42), none, .conv .s2s (.t 41)⟩,
   ⟨(some 43), none, .build [(.int .i64 0), (.int .i64 0), (.int .i64 0), (.int .i64 0), (.int .i64 0), (.slice none 0 0), (.int .i64 0), (.int .i64 0), (.int .i64 0), (.int .i64 0), (.int .i64 0), (.int .i64 0), (.int .i64 0), (.int .i64 0)] [(0, 1, (.c (.raw (.int .i64 1)))), (1, 2, (.t 39)), (3, 2, (.t 40)), (5, 1, (.t 42))]⟩,
   ⟨(some 44), none, .call 11 [(.t 38), (.t 43)]⟩,
   ⟨(some 37), none, .mov (.t 44)⟩,
   ⟨(some 45), none, .extr (.t 37) 0⟩,
   ⟨(some 46), none, .extr (.t 37) 1⟩,
   ⟨(some 7), none, .new 39 [(.bool false), (.int .i64 0), (.int .i64 0), (.int .i64 0), (.slice none 0 0), (.int .i64 0), (.int .i64 0), (.int .i64 0), (.int .i64 0), (.int .i64 0), (.int .i64 0), (.int .i64 0), (.int .i64 0), (.int .i64 0), (.int .i64 0), (.int .i64 0), (.int .i64 0)]⟩,
   ⟨none, none, .store (some 17) (.t 7) (.t 45)⟩,
   ⟨(some 8), none, .mov (.t 46)⟩])
 (.seq (.reg [⟨(some 47), none, .mov (.t 1)⟩,
   ⟨(some 48), none, .call 14 [(.t 47)]⟩,
   ⟨(some 9), none, .new 33 [(.int .i64 0), (.int .i64 0), (.int .i64 0), (.int .i64 0), (.int .i64 0), (.int .i64 0), (.int .i64 0)]⟩,
   ⟨none, none, .store (some 7) (.t 9) (.t 48)⟩])
 (.seq (.reg [⟨(some 50), none, .mov (.t 1)⟩,
   ⟨(some 51), none, .load (some 2) (.t 2)⟩,
   ⟨(some 52), none, .load (some 2) (.t 3)⟩,
   ⟨(some 53), none, .bslice 5 1 [(.int .u8 0)] [(0, 1, (.c (.raw (.int .u8 120))))]⟩,
   ⟨(some 54), none, .conv .s2s (.t 53)⟩,
   ⟨(some 55), none, .build [(.int .i64 0), (.int .i64 0), (.int .i64 0), (.int .i64 0), (.int .i64 0), (.int .i64 0), (.int .i64 0)] [(0, 1, (.c (.raw (.int .i64 1))))]⟩,
   ⟨(some 56), none, .build [(.int .i64 0), (.int .i64 0), (.int .i64 0), (.int .i64 0), (.int .i64 0), (.slice none 0 0), (.int .i64 0), (.int .i64 0), (.int .i64 0), (.int .i64 0), (.int .i64 0), (.int .i64 0), (.int .i64 0), (.int .i64 0)] [(0, 1, (.c (.raw (.int .i64 2)))), (1, 2, (.t 51)), (3, 2, (.t 52)), (5, 1, (.t 54)), (6, 1, (.c (.raw (.int .i64 4)))), (7, 7, (.t 55))]⟩,
   ⟨(some 57), none, .call 11 [(.t 50), (.t 56)]⟩,
   ⟨(some 49), none, .mov (.t 57)⟩,
   ⟨(some 58), none, .extr (.t 49) 0⟩,
   ⟨(some 59), none, .extr (.t 49) 1⟩,
   ⟨(some 10), none, .new 39 [(.bool false), (.int .i64 0), (.int .i64 0), (.int .i64 0), (.slice none 0 0), (.int .i64 0), (.int .i64 0), (.int .i64 0), (.int .i64 0), (.int .i64 0), (.int .i64 0), (.int .i64 0), (.int .i64 0), (.int .i64 0), (.int .i64 0), (.int .i64 0), (.int .i64 0)]⟩,
   ⟨none, none, .store (some 17) (.t 10) (.t 58)⟩,
   ⟨(some 11), none, .mov (.t 59)⟩])
 (.seq (.reg [⟨(some 61), none, .mov (.t 1)⟩,
   ⟨(some 62), none, .load (some 2) (.t 2)⟩,
   ⟨(some 63), none, .load (some 2) (.t 3)⟩,
   ⟨(some 64), none, .bslice 5 1 [(.int .u8 0)] [(0, 1, (.c (.raw (.int .u8 120))))]⟩,
   ⟨(some 65), none, .conv .s2s (.t 64)⟩,
   ⟨(some 66), none, .build [(.int .i64 0), (.int .i64 0), (.int .i64 0), (.int .i64 0), (.int .i64 0), (.slice none 0 0), (.int .i64 0), (.int .i64 0), (.int .i64 0), (.int .i64 0), (.int .i64 0), (.int .i64 0), (.int .i64 0), (.int .i64 0)] [(0, 1, (.c (.raw (.int .i64 1)))), (1, 2, (.t 62)), (3, 2, (.t 63)), (5, 1, (.t 65))]⟩,
   ⟨(some 67), none, .call 11 [(.t 61), (.t 66)]⟩,
   ⟨(some 60), none, .mov (.t 67)⟩,
   ⟨(some 68), none, .extr (.t 60) 0⟩,
   ⟨(some 69), none, .extr (.t 60) 1⟩,
   ⟨(some 12), none, .new 39 [(.bool false), (.int .i64 0), (.int .i64 0), (.int .i64 0), (.slice none 0 0), (.int .i64 0), (.int .i64 0), (.int .i64 0), (.int .i64 0), (.int .i64 0), (.int .i64 0), (.int .i64 0), (.int .i64 0), (.int .i64 0), (.int .i64 0), (.int .i64 0), (.int .i64 0)]⟩,
   ⟨none, none, .store (some 17) (.t 12) (.t 68)⟩,
   ⟨(some 13), none, .mov (.t 69)⟩])
 (.seq (.reg [⟨(some 71), none, .mov (.t 1)⟩,
   ⟨(some 72), none, .load (some 2) (.t 2)⟩,
   ⟨(some 73), none, .load (some 2) (.t 4)⟩,
   ⟨(some 74), none, .bslice 5 1 [(.int .u8 0)] [(0, 1, (.c (.raw (.int .u8 120))))]⟩,
   ⟨(some 75), none, .conv .s2s (.t 74)⟩,
   ⟨(some 76), none, .build [(.int .i64 0), (.int .i64 0), (.int .i64 0), (.int .i64 0), (.int .i64 0), (.int .i64 0), (.int .i64 0)] [(0, 1, (.c (.raw (.int .i64 1))))]⟩,
   ⟨(some 77), none, .build [(.int .i64 0), (.int .i64 0), (.int .i64 0), (.int .i64 0), (.int .i64 0), (.slice none 0 0), (.int .i64 0), (.int .i64 0), (.int .i64 0), (.int .i64 0), (.int .i64 0), (.int .i64 0), (.int .i64 0), (.int .i64 0)] [(0, 1, (.c (.raw (.int .i64 3)))), (1, 2, (.t 72)), (3, 2, (.t 73)), (5, 1, (.t 75)), (6, 1, (.c (.raw (.int .i64 4)))), (7, 7, (.t 76))]⟩,
   ⟨(some 78), none, .call 11 [(.t 71), (.t 77)]⟩,
   ⟨(some 70), none, .mov (.t 78)⟩,
   ⟨(some 79), none, .extr (.t 70) 0⟩,
   ⟨(some 80), none, .extr (.t 70) 1⟩,
   ⟨(some 14), none, .new 39 [(.bool false), (.int .i64 0), (.int .i64 0), (.int .i64 0), (.slice none 0 0), (.int .i64 0), (.int .i64 0), (.int .i64 0), (.int .i64 0), (.int .i64 0), (.int .i64 0), (.int .i64 0), (.int .i64 0), (.int .i64 0), (.int .i64 0), (.int .i64 0), (.int .i64 0)]⟩,
   ⟨none, none, .store (some 17) (.t 14) (.t 79)⟩,
   ⟨(some 15), none, .mov (.t 80)⟩])
 (.seq (.reg [⟨(some 82), none, .mov (.t 1)⟩,
   ⟨(some 83), none, .load (some 2) (.t 2)⟩,
   ⟨(some 84), none, .build [(.int .i64 0), (.int .i64 0)] [(0, 1, (.c (.raw (.int .i64 9))))]⟩,
   ⟨(some 85), none, .build [(.int .i64 0), (.int .i64 0), (.int .i64 0), (.int .i64 0), (.int .i64 0), (.slice none 0 0), (.int .i64 0), (.int .i64 0), (.int .i64 0), (.int .i64 0), (.int .i64 0), (.int .i64 0), (.int .i64 0), (.int .i64 0)] [(0, 1, (.c (.raw (.int .i64 4)))), (1, 2, (.t 83)), (3, 2, (.t 84))]⟩,
   ⟨(some 86), none, .call 11 [(.t 82), (.t 85)]⟩,
   ⟨(some 81), none, .mov (.t 86)⟩,
   ⟨(some 87), none, .extr (.t 81) 0⟩,
   ⟨(some 88), none, .extr (.t 81) 1⟩,
   ⟨(some 16), none, .new 39 [(.bool false), (.int .i64 0), (.int .i64 0), (.int .i64 0), (.slice none 0 0), (.int .i64 0), (.int .i64 0), (.int .i64 0), (.int .i64 0), (.int .i64 0), (.int .i64 0), (.int .i64 0), (.int .i64 0), (.int .i64 0), (.int .i64 0), (.int .i64 0), (.int .i64 0)]⟩,
   ⟨none, none, .store (some 17) (.t 16) (.t 87)⟩,
   ⟨(some 17), none, .mov (.t 88)⟩])
 (.seq (.reg [⟨(some 90), none, .mov (.t 1)⟩,
   ⟨(some 91), none, .load (some 2) (.t 2)⟩,
   ⟨(some 92), none, .bslice 5 1 [(.int .u8 0)] [(0, 1, (.c (.raw (.int .u8 120))))]⟩,
   ⟨(some 93), none, .conv .s2s (.t 92)⟩,
   ⟨(some 94), none, .build [(.int .i64 0), (.int .i64 0), (.int .i64 0), (.int .i64 0), (.int .i64 0), (.slice none 0 0), (.int .i64 0), (.int .i64 0), (.int .i64 0), (.int .i64 0), (.int .i64 0), (.int .i64 0), (.int .i64 0), (.int .i64 0)] [(0, 1, (.c (.raw (.int .i64 4)))), (1, 2, (.t 91)), (5, 1, (.t 93))]⟩,
   ⟨(some 95), none, .call 11 [(.t 90), (.t 94)]⟩,
   ⟨(some 89), none, .mov (.t 95)⟩,
   ⟨(some 96), none, .extr (.t 89) 0⟩,
   ⟨(some 97), none, .extr (.t 89) 1⟩,
   ⟨(some 18), none, .new 39 [(.bool false), (.int .i64 0), (.int .i64 0), (.int .i64 0), (.slice none 0 0), (.int .i64 0), (.int .i64 0), (.int .i64 0), (.int .i64 0), (.int .i64 0), (.int .i64 0), (.int .i64 0), (.int .i64 0), (.int .i64 0), (.int .i64 0), (.int .i64 0), (.int .i64 0)]⟩,
   ⟨none, none, .store (some 17) (.t 18) (.t 96)⟩,
   ⟨(some 19), none, .mov (.t 97)⟩])
 (.seq (.reg [⟨(some 99), none, .mov (.t 1)⟩,
   ⟨(some 100), none, .build [(.int .i64 0), (.int .i64 0), (.int .i64 0), (.int .i64 0), (.int .i64 0), (.slice none 0 0), (.int .i64 0), (.int .i64 0), (.int .i64 0), (.int .i64 0), (.int .i64 0), (.int .i64 0), (.int .i64 0), (.int .i64 0)] [(0, 1, (.c (.raw (.int .i64 1))))]⟩,
   ⟨(some 101), none, .call 11 [(.t 99), (.t 100)]⟩,
   ⟨(some 98), none, .mov (.t 101)⟩,
   ⟨(some 102), none, .extr (.t 98) 0⟩,
   ⟨(some 103), none, .extr (.t 98) 1⟩,
   ⟨(some 20), none, .new 39 [(.bool false), (.int .i64 0), (.int .i64 0), (.int .i64 0), (.slice none 0 0), (.int .i64 0), (.int .i64 0), (.int .i64 0), (.int .i64 0), (.int .i64 0), (.int .i64 0), (.int .i64 0), (.int .i64 0), (.int .i64 0), (.int .i64 0), (.int .i64 0), (.int .i64 0)]⟩,
   ⟨none, none, .store (some 17) (.t 20) (.t 102)⟩,
   ⟨(some 21), none, .mov (.t 103)⟩])
 (.seq (.reg [⟨(some 104), none, .mov (.t 1)⟩,
   ⟨(some 105), none, .build [(.int .i64 0), (.int .i64 0)] [(1, 1, (.c (.raw (.int .i64 1))))]⟩,
   ⟨(some 106), none, .build [(.int .i64 0), (.slice none 0 0), (.int .i64 0), (.int .i64 0), (.int .i64 0), (.int .i64 0), (.int .i64 0), (.int .i64 0), (.int .i64 0), (.int .i64 0), (.int .i64 0), (.int .i64 0), (.int .i64 0), (.int .i64 0)] []⟩,
   ⟨(some 107), none, .call 15 [(.t 104), (.t 105), (.t 106)]⟩,
   ⟨(some 22), none, .mov (.t 107)⟩])
 (.seq (.reg [⟨(some 108), none, .faddr 0 (.t 5)⟩,
   ⟨(some 109), none, .load none (.t 108)⟩,
   ⟨(some 110), none, .mov (.t 109)⟩,
   ⟨(some 111), (some (110, true)), .faddr 3 (.t 5)⟩,
   ⟨(some 112), (some (110, true)), .faddr 0 (.t 111)⟩,
   ⟨(some 113), (some (110, true)), .load none (.t 112)⟩,
   ⟨(some 114), (some (110, true)), .bin .eql .no (.t 113) (.c (.raw (.int .i64 0)))⟩,
   ⟨(some 115), none, .pick (.t 110) (.t 114) (.c (.kb false))⟩,
   ⟨(some 116), none, .mov (.t 115)⟩,
   ⟨(some 117), (some (116, true)), .faddr 1 (.t 5)⟩,
   ⟨(some 118), (some (116, true)), .load (some 2) (.t 117)⟩,
   ⟨(some 119), (some (116, true)), .load (some 2) (.t 3)⟩,
   ⟨(some 120), (some (116, true)), .bin .eql (.agg [.i, .i]) (.t 118) (.t 119)⟩,
   ⟨(some 121), none, .pick (.t 116) (.t 120) (.c (.kb false))⟩,
   ⟨(some 122), none, .mov (.t 121)⟩,
   ⟨(some 123), (some (122, true)), .faddr 0 (.t 7)⟩,
   ⟨(some 124), (some (122, true)), .load none (.t 123)⟩,
   ⟨(some 125), (some (122, true)), .un .not (.t 124)⟩,
   ⟨(some 126), none, .pick (.t 122) (.t 125) (.c (.kb false))⟩,
   ⟨(some 127), none, .mov (.t 126)⟩,
   ⟨(some 128), (some (127, true)), .faddr 1 (.t 7)⟩,
   ⟨(some 129), (some (127, true)), .load (some 2) (.t 128)⟩,
   ⟨(some 130), (some (127, true)), .load (some 2) (.t 3)⟩,
   ⟨(some 131), (some (127, true)), .bin .eql (.agg [.i, .i]) (.t 129) (.t 130)⟩,
   ⟨(some 132), none, .pick (.t 127) (.t 131) (.c (.kb false))⟩,
   ⟨(some 133), none, .mov (.t 132)⟩,
   ⟨(some 134), (some (133, true)), .load (some 7) (.t 9)⟩,
   ⟨(some 135), (some (133, true)), .build [(.int .i64 0), (.int .i64 0), (.int .i64 0), (.int .i64 0), (.int .i64 0), (.int .i64 0), (.int .i64 0)] []⟩,
   ⟨(some 136), (some (133, true)), .bin .eql (.agg [.i, .i, .i, .i, .i, .i, .i]) (.t 134) (.t 135)⟩,
   ⟨(some 137), none, .pick (.t 133) (.t 136) (.c (.kb false))⟩,
   ⟨(some 138), none, .mov (.t 137)⟩,
   ⟨(some 139), (some (138, true)), .faddr 0 (.t 10)⟩,
   ⟨(some 140), (some (138, true)), .load none (.t 139)⟩,
   ⟨(some 141), none, .pick (.t 138) (.t 140) (.c (.kb false))⟩,
   ⟨(some 142), none, .mov (.t 141)⟩,
   ⟨(some 143), (some (142, true)), .faddr 3 (.t 10)⟩,
   ⟨(some 144), (some (142, true)), .faddr 0 (.t 143)⟩,
   ⟨(some 145), (some (142, true)), .load none (.t 144)⟩,
   ⟨(some 146), (some (142, true)), .bin .eql .no (.t 145) (.c (.raw (.int .i64 2)))⟩,
   ⟨(some 147), none, .pick (.t 142) (.t 146) (.c (.kb false))⟩,
   ⟨(some 148), none, .mov (.t 147)⟩,
   ⟨(some 149), (some (148, true)), .faddr 0 (.t 12)⟩,
   ⟨(some 150), (some (148, true)), .load none (.t 149)⟩,
   ⟨(some 151), (some (148, true)), .un .not (.t 150)⟩,
   ⟨(some 152), none, .pick (.t 148) (.t 151) (.c (.kb false))⟩,
   ⟨(some 153), none, .mov (.t 152)⟩,
   ⟨(some 154), (some (153, true)), .faddr 0 (.t 14)⟩,
   ⟨(some 155), (some (153, true)), .load none (.t 154)⟩,
   ⟨(some 156), none, .pick (.t 153) (.t 155) (.c (.kb false))⟩,
   ⟨(some 157), none, .mov (.t 156)⟩,
   ⟨(some 158), (some (157, true)), .faddr 3 (.t 14)⟩,
   ⟨(some 159), (some (157, true)), .faddr 0 (.t 158)⟩,
   ⟨(some 160), (some (157, true)), .load none (.t 159)⟩,
   ⟨(some 161), (some (157, true)), .bin .eql .no (.t 160) (.c (.raw (.int .i64 3)))⟩,
   ⟨(some 162), none, .pick (.t 157) (.t 161) (.c (.kb false))⟩,
   ⟨(some 163), none, .mov (.t 162)⟩,
   ⟨(some 164), (some (163, true)), .faddr 3 (.t 14)⟩,
   ⟨(some 165), (some (163, true)), .faddr 10 (.t 164)⟩,
   ⟨(some 166), (some (163, true)), .load (some 2) (.t 165)⟩,
   ⟨(some 167), (some (163, true)), .load (some 2) (.t 3)⟩,
   ⟨(some 168), (some (163, true)), .bin .eql (.agg [.i, .i]) (.t 166) (.t 167)⟩,
   ⟨(some 169), none, .pick (.t 163) (.t 168) (.c (.kb false))⟩,
   ⟨(some 170), none, .mov (.t 169)⟩,
   ⟨(some 171), (some (170, true)), .faddr 0 (.t 16)⟩,
   ⟨(some 172), (some (170, true)), .load none (.t 171)⟩,
   ⟨(some 173), (some (170, true)), .un .not (.t 172)⟩,
   ⟨(some 174), none, .pick (.t 170) (.t 173) (.c (.kb false))⟩,
   ⟨(some 175), none, .mov (.t 174)⟩,
   ⟨(some 176), (some (175, true)), .faddr 3 (.t 16)⟩,
   ⟨(some 177), (some (175, true)), .faddr 0 (.t 176)⟩,
   ⟨(some 178), (some (175, true)), .load none (.t 177)⟩,
   ⟨(some 179), (some (175, true)), .bin .eql .no (.t 178) (.c (.raw (.int .i64 3)))⟩,
   ⟨(some 180), none, .pick (.t 175) (.t 179) (.c (.kb false))⟩,
   ⟨(some 181), none, .mov (.t 180)⟩,
   ⟨(some 182), (some (181, true)), .mov (.t 19)⟩,
   ⟨(some 183), (some (181, true)), .bin .eql .no (.t 182) (.c (.raw (.int .i64 1)))⟩,
   ⟨(some 184), none, .pick (.t 181) (.t 183) (.c (.kb false))⟩,
   ⟨(some 185), none, .mov (.t 184)⟩,
   ⟨(some 186), (some (185, true)), .mov (.t 21)⟩,
   ⟨(some 187), (some (185, true)), .bin .eql .no (.t 186) (.c (.raw (.int .i64 1)))⟩,
   ⟨(some 188), none, .pick (.t 185) (.t 187) (.c (.kb false))⟩,
   ⟨(some 189), none, .mov (.t 188)⟩,
   ⟨(some 190), (some (189, true)), .mov (.t 22)⟩,
   ⟨(some 191), (some (189, true)), .bin .eql .no (.t 190) (.c (.raw (.int .i64 1)))⟩,
   ⟨(some 192), none, .pick (.t 189) (.t 191) (.c (.kb false))⟩,
   ⟨(some 193), none, .mov (.t 192)⟩,
   ⟨(some 194), (some (193, true)), .mov (.t 1)⟩,
   ⟨(some 195), (some (193, true)), .call 16 [(.t 194)]⟩,
   ⟨(some 196), (some (193, true)), .bin .eql .no (.t 195) (.c (.raw (.int .i64 4)))⟩,
   ⟨(some 197), none, .pick (.t 193) (.t 196) (.c (.kb false))⟩,
   ⟨(some 198), none, .mov (.t 197)⟩,
   ⟨(some 199), (some (198, true)), .mov (.t 1)⟩,
   ⟨(some 200), (some (198, true)), .call 17 [(.t 199)]⟩,
   ⟨(some 201), (some (198, true)), .len .sl (.t 200)⟩,
   ⟨(some 202), (some (198, true)), .bin .eql .no (.t 201) (.c (.raw (.int .i64 1)))⟩,
   ⟨(some 203), none, .pick (.t 198) (.t 202) (.c (.kb false))⟩,
   ⟨(some 0), none, .mov (.t 203)⟩])
 .ret))))))))))))))))
theorem i_rostrumlaw20_InstKnown : Is Try.prog 5 204 [.t 0] c_rostrumlaw20_InstKnown := ⟨Try.f5, _, p_rostrumlaw20_InstKnown, rfl, rfl, by kernel_rfl, by kernel_rfl, rfl⟩
def p_rostrumlaw20_InstPromise : List (Nat × Pl) := []
def c_rostrumlaw20_InstPromise : VCode :=
 (.seq (.reg [⟨(some 2), none, .mov (.c (.kb false))⟩])
 (.seq (.seq (.reg [⟨(some 11), none, .call 8 []⟩,
   ⟨(some 12), none, .un .not (.t 11)⟩])
 (.cond (.t 12)
  (.seq (.reg [⟨(some 2), none, .mov (.c (.kb false))⟩])
  .ret)
  .skip))
 (.seq (.seq (.reg [⟨(some 13), none, .mov (.t 0)⟩,
   ⟨(some 14), none, .call 9 [(.t 13)]⟩,
   ⟨(some 15), none, .un .not (.t 14)⟩])
 (.cond (.t 15)
  (.seq (.reg [⟨(some 2), none, .mov (.c (.kb true))⟩])
  .ret)
  .skip))
 (.seq (.reg [⟨(some 16), none, .call 10 []⟩,
   ⟨(some 3), none, .mov (.t 16)⟩])
 (.seq (.seq (.reg [⟨(some 4), none, .mov (.c (.raw (.int .i64 0)))⟩])
 (.block 0 (.loop (.seq (.seq (.reg [⟨(some 17), none, .mov (.t 4)⟩,
    ⟨(some 18), none, .mov (.t 0)⟩,
    ⟨(some 19), none, .len .sl (.t 18)⟩,
    ⟨(some 20), none, .bin .lss .no (.t 17) (.t 19)⟩])
  (.cond (.t 20)
   .skip
   (.exit 0)))
  (.seq (.block 1 (.seq (.reg [⟨(some 23), none, .mov (.t 0)⟩,
    ⟨(some 24), none, .mov (.t 4)⟩,
    ⟨(some 25), none, .iaddr 14 none (.t 23) (.t 24)⟩,
    ⟨(some 26), none, .load (some 14) (.t 25)⟩,
    ⟨(some 5), none, .new 35 [(.int .i64 0), (.int .i64 0), (.int .i64 0), (.int .i64 0), (.int .i64 0), (.slice none 0 0), (.int .i64 0), (.int .i64 0), (.int .i64 0), (.int .i64 0), (.int .i64 0), (.int .i64 0), (.int .i64 0), (.int .i64 0)]⟩,
    ⟨none, none, .store (some 14) (.t 5) (.t 26)⟩])
  (.seq (.seq (.reg [⟨(some 27), none, .load (some 14) (.t 5)⟩,
    ⟨(some 28), none, .call 18 [(.t 27)]⟩,
    ⟨(some 29), none, .un .not (.t 28)⟩])
  (.cond (.t 29)
   (.exit 1)
   .skip))
  (.seq (.reg [⟨(some 30), none, .mov (.t 3)⟩,
    ⟨(some 31), none, .faddr 1 (.t 5)⟩,
    ⟨(some 32), none, .load (some 2) (.t 31)⟩,
    ⟨(some 33), none, .call 12 [(.t 30), (.t 32)]⟩,
    ⟨(some 6), none, .new 37 [(.int .i64 0), (.slice none 0 0), (.int .i64 0), (.int .i64 0), (.int .i64 0), (.int .i64 0), (.int .i64 0), (.int .i64 0), (.int .i64 0), (.int .i64 0), (.int .i64 0), (.int .i64 0), (.int .i64 0), (.int .i64 0)]⟩,
    ⟨none, none, .store (some 14) (.t 6) (.t 33)⟩])
  (.seq (.reg [⟨(some 35), none, .mov (.t 3)⟩,
    ⟨(some 36), none, .load (some 14) (.t 5)⟩,
    ⟨(some 37), none, .call 11 [(.t 35), (.t 36)]⟩,
    ⟨(some 34), none, .mov (.t 37)⟩,
    ⟨(some 38), none, .extr (.t 34) 0⟩,
    ⟨(some 39), none, .extr (.t 34) 1⟩,
    ⟨(some 7), none, .new 39 [(.bool false), (.int .i64 0), (.int .i64 0), (.int .i64 0), (.slice none 0 0), (.int .i64 0), (.int .i64 0), (.int .i64 0), (.int .i64 0), (.int .i64 0), (.int .i64 0), (.int .i64 0), (.int .i64 0), (.int .i64 0), (.int .i64 0), (.int .i64 0), (.int .i64 0)]⟩,
    ⟨none, none, .store (some 17) (.t 7) (.t 38)⟩,
    ⟨(some 8), none, .mov (.t 39)⟩])
  (.seq (.reg [⟨(some 40), none, .mov (.t 3)⟩,
    ⟨(some 41), none, .faddr 1 (.t 5)⟩,
    ⟨(some 42), none, .load (some 2) (.t 41)⟩,
    ⟨(some 43), none, .call 12 [(.t 40), (.t 42)]⟩,
    ⟨(some 9), none, .new 37 [(.int .i64 0), (.slice none 0 0), (.int .i64 0), (.int .i64 0), (.int .i64 0), (.int .i64 0), (.int .i64 0), (.int .i64 0), (.int .i64 0), (.int .i64 0), (.int .i64 0), (.int .i64 0), (.int .i64 0), (.int .i64 0)]⟩,
    ⟨none, none, .store (some 14) (.t 9) (.t 43)⟩])
  (.seq (.seq (.reg [⟨(some 44), none, .mov (.t 8)⟩,
    ⟨(some 45), none, .bin .neq .no (.t 44) (.c (.raw (.int .i64 0)))⟩,
    ⟨(some 46), none, .mov (.t 45)⟩,
    ⟨(some 47), (some (46, false)), .faddr 10 (.t 9)⟩,
    ⟨(some 48), (some (46, false)), .load (some 2) (.t 47)⟩,
    ⟨(some 49), (some (46, false)), .faddr 10 (.t 6)⟩,
    ⟨(some 50), (some (46, false)), .load (some 2) (.t 49)⟩,
    ⟨(some 51), (some (46, false)), .call 19 [(.t 48), (.t 50)]⟩,
    ⟨(some 52), (some (46, false)), .bin .lss .no (.t 51) (.c (.raw (.int .i64 0)))⟩,
    ⟨(some 53), none, .pick (.t 46) (.c (.kb true)) (.t 52)⟩,
    ⟨(some 54), none, .mov (.t 53)⟩,
    ⟨(some 55), (some (54, false)), .faddr 0 (.t 6)⟩,
    ⟨(some 56), (some (54, false)), .load none (.t 55)⟩,
    ⟨(some 57), (some (54, false)), .bin .eql .no (.t 56) (.c (.raw (.int .i64 3)))⟩,
    ⟨(some 58), (some (54, false)), .mov (.t 57)⟩,
    ⟨(some 59), (some (58, true)), .load (some 14) (.t 6)⟩,
    ⟨(some 60), (some (58, true)), .load (some 14) (.t 9)⟩,
    ⟨(some 61), (some (58, true)), .call 13 [(.t 59), (.t 60)]⟩,
    ⟨(some 62), (some (58, true)), .un .not (.t 61)⟩,
    ⟨(some 63), (some (54, false)), .pick (.t 58) (.t 62) (.c (.kb false))⟩,
    ⟨(some 64), none, .pick (.t 54) (.c (.kb true)) (.t 63)⟩,
    ⟨(some 65), none, .mov (.t 64)⟩,
    ⟨(some 66), (some (65, false)), .faddr 0 (.t 7)⟩,
    ⟨(some 67), (some (65, false)), .load none (.t 66)⟩,
    ⟨(some 68), (some (65, false)), .un .not (.t 67)⟩,
    ⟨(some 69), (some (65, false)), .mov (.t 68)⟩,
    ⟨(some 70), (some (69, true)), .load (some 14) (.t 6)⟩,
    ⟨(some 71), (some (69, true)), .load (some 14) (.t 9)⟩,
    ⟨(some 72), (some (69, true)), .call 13 [(.t 70), (.t 71)]⟩,
    ⟨(some 73), (some (69, true)), .un .not (.t 72)⟩,
    ⟨(some 74), (some (65, false)), .pick (.t 69) (.t 73) (.c (.kb false))⟩,
    ⟨(some 75), none, .pick (.t 65) (.c (.kb true)) (.t 74)⟩])
  (.cond (.t 75)
   (.seq (.reg [⟨(some 2), none, .mov (.c (.kb false))⟩])
   .ret)
   .skip))
  (.seq (.seq (.reg [⟨(some 76), none, .faddr 0 (.t 7)⟩,
    ⟨(some 77), none, .load none (.t 76)⟩,
    ⟨(some 78), none, .mov (.t 77)⟩,
    ⟨(some 79), (some (78, true)), .faddr 0 (.t 5)⟩,
    ⟨(some 80), (some (78, true)), .load none (.t 79)⟩,
    ⟨(some 81), (some (78, true)), .bin .neq .no (.t 80) (.c (.raw (.int .i64 3)))⟩,
    ⟨(some 82), none, .pick (.t 78) (.t 81) (.c (.kb false))⟩,
    ⟨(some 83), none, .mov (.t 82)⟩,
    ⟨(some 84), (some (83, true)), .faddr 3 (.t 5)⟩,
    ⟨(some 85), (some (83, true)), .load (some 2) (.t 84)⟩,
    ⟨(some 86), (some (83, true)), .faddr 10 (.t 6)⟩,
    ⟨(some 87), (some (83, true)), .load (some 2) (.t 86)⟩,
    ⟨(some 88), (some (83, true)), .call 19 [(.t 85), (.t 87)]⟩,
    ⟨(some 89), (some (83, true)), .bin .lss .no (.t 88) (.c (.raw (.int .i64 0)))⟩,
    ⟨(some 90), (some (83, true)), .mov (.t 89)⟩,
    ⟨(some 91), (some (90, false)), .faddr 10 (.t 9)⟩,
    ⟨(some 92), (some (90, false)), .load (some 2) (.t 91)⟩,
    ⟨(some 93), (some (90, false)), .faddr 3 (.t 5)⟩,
    ⟨(some 94), (some (90, false)), .load (some 2) (.t 93)⟩,
    ⟨(some 95), (some (90, false)), .bin .neq (.agg [.i, .i]) (.t 92) (.t 94)⟩,
    ⟨(some 96), (some (83, true)), .pick (.t 90) (.c (.kb true)) (.t 95)⟩,
    ⟨(some 97), none, .pick (.t 83) (.t 96) (.c (.kb false))⟩,
    ⟨(some 98), none, .mov (.t 97)⟩,
    ⟨(some 99), (some (98, false)), .faddr 0 (.t 6)⟩,
    ⟨(some 100), (some (98, false)), .load none (.t 99)⟩,
    ⟨(some 101), (some (98, false)), .bin .eql .no (.t 100) (.c (.raw (.int .i64 2)))⟩,
    ⟨(some 102), (some (98, false)), .mov (.t 101)⟩,
    ⟨(some 103), (some (102, true)), .faddr 0 (.t 9)⟩,
    ⟨(some 104), (some (102, true)), .load none (.t 103)⟩,
    ⟨(some 105), (some (102, true)), .bin .lss .no (.t 104) (.c (.raw (.int .i64 2)))⟩,
    ⟨(some 106), (some (98, false)), .pick (.t 102) (.t 105) (.c (.kb false))⟩,
    ⟨(some 107), none, .pick (.t 98) (.c (.kb true)) (.t 106)⟩])
  (.cond (.t 107)
   (.seq (.reg [⟨(some 2), none, .mov (.c (.kb false))⟩])
   .ret)
   .skip))
  (.seq (.reg [⟨(some 108), none, .faddr 0 (.t 6)⟩,
    ⟨(some 109), none, .load none (.t 108)⟩,
    ⟨(some 110), none, .bin .eql .no (.t 109) (.c (.raw (.int .i64 1)))⟩,
    ⟨(some 111), none, .mov (.t 110)⟩,
    ⟨(some 112), (some (111, true)), .faddr 12 (.t 6)⟩,
    ⟨(some 113), (some (111, true)), .load (some 2) (.t 112)⟩,
    ⟨(some 114), (some (111, true)), .faddr 3 (.t 5)⟩,
    ⟨(some 115), (some (111, true)), .load (some 2) (.t 114)⟩,
    ⟨(some 116), (some (111, true)), .bin .eql (.agg [.i, .i]) (.t 113) (.t 115)⟩,
    ⟨(some 117), none, .pick (.t 111) (.t 116) (.c (.kb false))⟩,
    ⟨(some 10), none, .mov (.t 117)⟩])
  (.seq (.reg [⟨(some 118), none, .faddr 0 (.t 7)⟩,
    ⟨(some 119), none, .load none (.t 118)⟩,
    ⟨(some 120), none, .mov (.t 119)⟩,
    ⟨(some 121), (some (120, true)), .faddr 0 (.t 5)⟩,
    ⟨(some 122), (some (120, true)), .load none (.t 121)⟩,
    ⟨(some 123), (some (120, true)), .bin .eql .no (.t 122) (.c (.raw (.int .i64 1)))⟩,
    ⟨(some 124), none, .pick (.t 120) (.t 123) (.c (.kb false))⟩,
    ⟨(some 125), none, .mov (.t 124)⟩,
    ⟨(some 126), (some (125, true)), .mov (.t 10)⟩,
    ⟨(some 127), (some (125, true)), .un .not (.t 126)⟩,
    ⟨(some 128), none, .pick (.t 125) (.t 127) (.c (.kb false))⟩,
    ⟨(some 129), none, .mov (.t 128)⟩,
    ⟨(some 130), (some (129, true)), .faddr 7 (.t 5)⟩,
    ⟨(some 131), (some (129, true)), .load (some 7) (.t 130)⟩,
    ⟨(some 132), (some (129, true)), .faddr 3 (.t 9)⟩,
    ⟨(some 133), (some (129, true)), .load (some 7) (.t 132)⟩,
    ⟨(some 134), (some (129, true)), .call 20 [(.t 131), (.t 133)]⟩,
    ⟨(some 135), (some (129, true)), .un .not (.t 134)⟩,
    ⟨(some 136), (some (129, true)), .mov (.t 135)⟩,
    ⟨(some 137), (some (136, false)), .faddr 2 (.t 9)⟩,
    ⟨(some 138), (some (136, false)), .load none (.t 137)⟩,
    ⟨(some 139), (some (136, false)), .faddr 6 (.t 5)⟩,
    ⟨(some 140), (some (136, false)), .load none (.t 139)⟩,
    ⟨(some 141), (some (136, false)), .bin .lss .no (.t 138) (.t 140)⟩,
    ⟨(some 142), (some (129, true)), .pick (.t 136) (.c (.kb true)) (.t 141)⟩,
    ⟨(some 143), none, .pick (.t 129) (.t 142) (.c (.kb false))⟩])
  (.cond (.t 143)
   (.seq (.reg [⟨(some 2), none, .mov (.c (.kb false))⟩])
   .ret)
   .skip)))))))))))
  (.reg [⟨(some 21), none, .mov (.t 4)⟩,
    ⟨(some 22), none, .bin .add .no (.t 21) (.c (.raw (.int .i64 1)))⟩,
    ⟨(some 4), none, .mov (.t 22)⟩]))))))
 (.seq (.reg [⟨(some 2), none, .mov (.c (.kb true))⟩])
 .ret))))))
theorem i_rostrumlaw20_InstPromise : Is Try.prog 6 144 [.t 2] c_rostrumlaw20_InstPromise := ⟨Try.f6, _, p_rostrumlaw20_InstPromise, rfl, rfl, by kernel_rfl, by kernel_rfl, rfl⟩
def p_rostrumlaw20_InstLoad : List (Nat × Pl) := [(17, (.fl 0 (.fl 1 (.fl 2 (.fr 3 (.fr 4 (.fr 5 (.st 6 [] (.fl 7 .done))))))))), (19, (.fl 0 (.fl 2 (.st 1 [] (.st 3 [] (.fl 4 (.fl 5 (.fl 6 (.fl 8 (.st 7 [] (.st 9 [] (.fl 10 (.fl 11 (.fl 12 (.fl 13 (.fl 14 (.fr 15 (.st 16 [] (.fl 17 (.fl 18 (.fl 19 (.fl 20 (.fl 21 (.fr 22 (.fl 25 (.fl 26 (.fr 27 (.st 23 [27] (.fl 24 (.st 28 [] (.fl 29 (.fl 30 (.fl 31 (.fl 32 .done)))))))))))))))))))))))))))))))))), (23, (.fl 0 (.fl 1 (.fl 2 (.fl 3 (.fr 4 (.fr 6 (.st 5 [6] (.st 7 [] (.st 8 [] (.fl 9 (.fl 10 (.fl 11 (.fl 12 (.fr 13 (.fl 15 (.fl 16 (.fr 17 (.st 14 [17] (.st 18 [] (.st 19 [] (.fl 20 (.fl 21 .done)))))))))))))))))))))))]
def c_rostrumlaw20_InstLoad : VCode :=
 (.seq (.reg [⟨(some 3), none, .box 35 (.t 1)⟩,
   ⟨(some 4), none, .mov (.c (.kb false))⟩])
 (.seq (.seq (.reg [⟨(some 15), none, .call 8 []⟩,
   ⟨(some 16), none, .un .not (.t 15)⟩])
 (.cond (.t 16)
  (.seq (.reg [⟨(some 4), none, .mov (.c (.kb false))⟩])
  .ret)
  .skip))
 (.seq (.seq (.reg [⟨(some 17), none, .mov (.t 0)⟩,
   ⟨(some 18), none, .call 9 [(.t 17)]⟩,
   ⟨(some 19), none, .un .not (.t 18)⟩,
   ⟨(some 20), none, .mov (.t 19)⟩,
   ⟨(some 21), (some (20, false)), .faddr 5 (.t 3)⟩,
   ⟨(some 22), (some (20, false)), .load none (.t 21)⟩,
   ⟨(some 23), (some (20, false)), .len .sl (.t 22)⟩,
   ⟨(some 24), (some (20, false)), .bin .gtr .no (.t 23) (.c (.raw (.int .i64 350)))⟩,
   ⟨(some 25), none, .pick (.t 20) (.c (.kb true)) (.t 24)⟩])
 (.cond (.t 25)
  (.seq (.reg [⟨(some 4), none, .mov (.c (.kb true))⟩])
  .ret)
  .skip))
 (.seq (.reg [⟨(some 26), none, .call 10 []⟩,
   ⟨(some 27), none, .call 10 []⟩,
   ⟨(some 5), none, .mov (.t 26)⟩,
   ⟨(some 6), none, .mov (.t 27)⟩])
 (.seq (.seq (.reg [⟨(some 7), none, .mov (.c (.raw (.int .i64 0)))⟩])
 (.block 0 (.loop (.seq (.seq (.reg [⟨(some 28), none, .mov (.t 7)⟩,
    ⟨(some 29), none, .mov (.t 0)⟩,
    ⟨(some 30), none, .len .sl (.t 29)⟩,
    ⟨(some 31), none, .bin .lss .no (.t 28) (.t 30)⟩])
  (.cond (.t 31)
   .skip
   (.exit 0)))
  (.seq (.block 1 (.reg [⟨(some 34), none, .mov (.t 5)⟩,
    ⟨(some 35), none, .mov (.t 0)⟩,
    ⟨(some 36), none, .mov (.t 7)⟩,
    ⟨(some 37), none, .iaddr 14 none (.t 35) (.t 36)⟩,
    ⟨(some 38), none, .load (some 14) (.t 37)⟩,
    ⟨(some 39), none, .call 11 [(.t 34), (.t 38)]⟩]))
  (.reg [⟨(some 32), none, .mov (.t 7)⟩,
    ⟨(some 33), none, .bin .add .no (.t 32) (.c (.raw (.int .i64 1)))⟩,
    ⟨(some 7), none, .mov (.t 33)⟩]))))))
 (.seq (.reg [⟨(some 40), none, .mov (.t 5)⟩,
   ⟨(some 41), none, .call 17 [(.t 40)]⟩,
   ⟨(some 8), none, .mov (.t 41)⟩])
 (.seq (.seq (.reg [⟨(some 9), none, .mov (.c (.raw (.int .i64 0)))⟩])
 (.block 2 (.loop (.seq (.seq (.reg [⟨(some 42), none, .mov (.t 9)⟩,
    ⟨(some 43), none, .mov (.t 8)⟩,
    ⟨(some 44), none, .len .sl (.t 43)⟩,
    ⟨(some 45), none, .bin .lss .no (.t 42) (.t 44)⟩])
  (.cond (.t 45)
   .skip
   (.exit 2)))
  (.seq (.block 3 (.seq (.reg [⟨(some 48), none, .mov (.t 5)⟩,
    ⟨(some 49), none, .mov (.t 8)⟩,
    ⟨(some 50), none, .mov (.t 9)⟩,
    ⟨(some 51), none, .iaddr 2 none (.t 49) (.t 50)⟩,
    ⟨(some 52), none, .load (some 2) (.t 51)⟩,
    ⟨(some 53), none, .call 12 [(.t 48), (.t 52)]⟩,
    ⟨(some 10), none, .new 37 [(.int .i64 0), (.slice none 0 0), (.int .i64 0), (.int .i64 0), (.int .i64 0), (.int .i64 0), (.int .i64 0), (.int .i64 0), (.int .i64 0), (.int .i64 0), (.int .i64 0), (.int .i64 0), (.int .i64 0), (.int .i64 0)]⟩,
    ⟨none, none, .store (some 14) (.t 10) (.t 53)⟩])
  (.seq (.seq (.reg [⟨(some 54), none, .faddr 2 (.t 10)⟩,
    ⟨(some 55), none, .load none (.t 54)⟩,
    ⟨(some 56), none, .bin .gtr .no (.t 55) (.c (.raw (.int .i64 1099511627776)))⟩])
  (.cond (.t 56)
   (.seq (.reg [⟨(some 4), none, .mov (.c (.kb true))⟩])
   .ret)
   .skip))
  (.seq (.draw [⟨(some 57), none, .mov (.t 6)⟩,
    ⟨(some 58), none, .mov (.t 8)⟩,
    ⟨(some 59), none, .mov (.t 9)⟩,
    ⟨(some 60), none, .iaddr 2 none (.t 58) (.t 59)⟩,
    ⟨(some 61), none, .load (some 2) (.t 60)⟩,
    ⟨(some 62), none, .load (some 14) (.t 10)⟩,
    ⟨(some 63), none, .call 15 [(.t 57), (.t 61), (.t 62)]⟩,
    ⟨(some 64), none, .bin .neq .no (.t 63) (.c (.raw (.int .i64 0)))⟩]
    (.fl 0 (.fl 1 (.fl 2 (.fr 3 (.fr 4 (.fr 5 (.st 6 [] (.fl 7 .done)))))))))
  (.cond (.t 64)
   (.seq (.reg [⟨(some 4), none, .mov (.c (.kb false))⟩])
   .ret)
   .skip)))))
  (.reg [⟨(some 46), none, .mov (.t 9)⟩,
    ⟨(some 47), none, .bin .add .no (.t 46) (.c (.raw (.int .i64 1)))⟩,
    ⟨(some 9), none, .mov (.t 47)⟩]))))))
 (.seq (.seq (.draw [⟨(some 65), none, .mov (.t 5)⟩,
   ⟨(some 66), none, .call 14 [(.t 65)]⟩,
   ⟨(some 67), none, .mov (.t 6)⟩,
   ⟨(some 68), none, .call 14 [(.t 67)]⟩,
   ⟨(some 69), none, .bin .neq (.agg [.i, .i, .i, .i, .i, .i, .i]) (.t 66) (.t 68)⟩,
   ⟨(some 70), none, .mov (.t 69)⟩,
   ⟨(some 71), (some (70, false)), .mov (.t 5)⟩,
   ⟨(some 72), (some (70, false)), .call 16 [(.t 71)]⟩,
   ⟨(some 73), (some (70, false)), .mov (.t 6)⟩,
   ⟨(some 74), (some (70, false)), .call 16 [(.t 73)]⟩,
   ⟨(some 75), (some (70, false)), .bin .neq .no (.t 72) (.t 74)⟩,
   ⟨(some 76), none, .pick (.t 70) (.c (.kb true)) (.t 75)⟩,
   ⟨(some 77), none, .mov (.t 76)⟩,
   ⟨(some 78), (some (77, false)), .mov (.t 5)⟩,
   ⟨(some 79), (some (77, false)), .faddr 1 (.t 3)⟩,
   ⟨(some 80), (some (77, false)), .load (some 2) (.t 79)⟩,
   ⟨(some 81), (some (77, false)), .call 12 [(.t 78), (.t 80)]⟩,
   ⟨(some 82), (some (77, false)), .field 0 none (.t 81)⟩,
   ⟨(some 83), (some (77, false)), .bin .eql .no (.t 82) (.c (.raw (.int .i64 0)))⟩,
   ⟨(some 84), (some (77, false)), .mov (.t 83)⟩,
   ⟨(some 85), (some (84, true)), .mov (.t 5)⟩,
   ⟨(some 86), (some (84, true)), .faddr 1 (.t 3)⟩,
   ⟨(some 87), (some (84, true)), .load (some 2) (.t 86)⟩,
   ⟨(some 88), (some (84, true)), .call 12 [(.t 85), (.t 87)]⟩,
   ⟨(some 89), (some (84, true)), .field 10 (some 2) (.t 88)⟩,
   ⟨(some 90), (some (84, true)), .mov (.t 6)⟩,
   ⟨(some 91), (some (84, true)), .faddr 1 (.t 3)⟩,
   ⟨(some 92), (some (84, true)), .load (some 2) (.t 91)⟩,
   ⟨(some 93), (some (84, true)), .call 12 [(.t 90), (.t 92)]⟩,
   ⟨(some 94), (some (84, true)), .field 10 (some 2) (.t 93)⟩,
   ⟨(some 95), (some (84, true)), .bin .neq (.agg [.i, .i]) (.t 89) (.t 94)⟩,
   ⟨(some 96), (some (77, false)), .pick (.t 84) (.t 95) (.c (.kb false))⟩,
   ⟨(some 97), none, .pick (.t 77) (.c (.kb true)) (.t 96)⟩]
   (.fl 0 (.fl 2 (.st 1 [] (.st 3 [] (.fl 4 (.fl 5 (.fl 6 (.fl 8 (.st 7 [] (.st 9 [] (.fl 10 (.fl 11 (.fl 12 (.fl 13 (.fl 14 (.fr 15 (.st 16 [] (.fl 17 (.fl 18 (.fl 19 (.fl 20 (.fl 21 (.fr 22 (.fl 25 (.fl 26 (.fr 27 (.st 23 [27] (.fl 24 (.st 28 [] (.fl 29 (.fl 30 (.fl 31 (.fl 32 .done))))))))))))))))))))))))))))))))))
 (.cond (.t 97)
  (.seq (.reg [⟨(some 98), none, .mov (.t 5)⟩,
    ⟨(some 99), none, .faddr 1 (.t 3)⟩,
    ⟨(some 100), none, .load (some 2) (.t 99)⟩,
    ⟨(some 101), none, .call 12 [(.t 98), (.t 100)]⟩,
    ⟨(some 102), none, .field 0 none (.t 101)⟩,
    ⟨(some 103), none, .bin .eql .no (.t 102) (.c (.raw (.int .i64 0)))⟩,
    ⟨(some 104), none, .mov (.t 103)⟩,
    ⟨(some 105), (some (104, true)), .mov (.t 5)⟩,
    ⟨(some 106), (some (104, true)), .call 14 [(.t 105)]⟩,
    ⟨(some 107), (some (104, true)), .mov (.t 6)⟩,
    ⟨(some 108), (some (104, true)), .call 14 [(.t 107)]⟩,
    ⟨(some 109), (some (104, true)), .bin .eql (.agg [.i, .i, .i, .i, .i, .i, .i]) (.t 106) (.t 108)⟩,
    ⟨(some 110), none, .pick (.t 104) (.t 109) (.c (.kb false))⟩,
    ⟨(some 4), none, .mov (.t 110)⟩])
  .ret)
  .skip))
 (.seq (.reg [⟨(some 112), none, .mov (.t 5)⟩,
   ⟨(some 113), none, .load (some 14) (.t 3)⟩,
   ⟨(some 114), none, .call 11 [(.t 112), (.t 113)]⟩,
   ⟨(some 111), none, .mov (.t 114)⟩,
   ⟨(some 115), none, .extr (.t 111) 0⟩,
   ⟨(some 116), none, .extr (.t 111) 1⟩,
   ⟨(some 11), none, .new 39 [(.bool false), (.int .i64 0), (.int .i64 0), (.int .i64 0), (.slice none 0 0), (.int .i64 0), (.int .i64 0), (.int .i64 0), (.int .i64 0), (.int .i64 0), (.int .i64 0), (.int .i64 0), (.int .i64 0), (.int .i64 0), (.int .i64 0), (.int .i64 0), (.int .i64 0)]⟩,
   ⟨none, none, .store (some 17) (.t 11) (.t 115)⟩,
   ⟨(some 12), none, .mov (.t 116)⟩])
 (.seq (.reg [⟨(some 118), none, .mov (.t 6)⟩,
   ⟨(some 119), none, .load (some 14) (.t 3)⟩,
   ⟨(some 120), none, .call 11 [(.t 118), (.t 119)]⟩,
   ⟨(some 117), none, .mov (.t 120)⟩,
   ⟨(some 121), none, .extr (.t 117) 0⟩,
   ⟨(some 122), none, .extr (.t 117) 1⟩,
   ⟨(some 13), none, .new 39 [(.bool false), (.int .i64 0), (.int .i64 0), (.int .i64 0), (.slice none 0 0), (.int .i64 0), (.int .i64 0), (.int .i64 0), (.int .i64 0), (.int .i64 0), (.int .i64 0), (.int .i64 0), (.int .i64 0), (.int .i64 0), (.int .i64 0), (.int .i64 0), (.int .i64 0)]⟩,
   ⟨none, none, .store (some 17) (.t 13) (.t 121)⟩,
   ⟨(some 14), none, .mov (.t 122)⟩])
 (.seq (.draw [⟨(some 123), none, .mov (.t 12)⟩,
   ⟨(some 124), none, .mov (.t 14)⟩,
   ⟨(some 125), none, .bin .eql .no (.t 123) (.t 124)⟩,
   ⟨(some 126), none, .mov (.t 125)⟩,
   ⟨(some 127), (some (126, true)), .load (some 17) (.t 11)⟩,
   ⟨(some 128), (some (126, true)), .call 22 [(.t 127)]⟩,
   ⟨(some 129), (some (126, true)), .load (some 17) (.t 13)⟩,
   ⟨(some 130), (some (126, true)), .call 22 [(.t 129)]⟩,
   ⟨(some 131), (some (126, true)), .call 21 [(.t 128), (.t 130)]⟩,
   ⟨(some 132), none, .pick (.t 126) (.t 131) (.c (.kb false))⟩,
   ⟨(some 133), none, .mov (.t 132)⟩,
   ⟨(some 134), (some (133, true)), .mov (.t 5)⟩,
   ⟨(some 135), (some (133, true)), .faddr 1 (.t 3)⟩,
   ⟨(some 136), (some (133, true)), .load (some 2) (.t 135)⟩,
   ⟨(some 137), (some (133, true)), .call 12 [(.t 134), (.t 136)]⟩,
   ⟨(some 138), (some (133, true)), .mov (.t 6)⟩,
   ⟨(some 139), (some (133, true)), .faddr 1 (.t 3)⟩,
   ⟨(some 140), (some (133, true)), .load (some 2) (.t 139)⟩,
   ⟨(some 141), (some (133, true)), .call 12 [(.t 138), (.t 140)]⟩,
   ⟨(some 142), (some (133, true)), .call 13 [(.t 137), (.t 141)]⟩,
   ⟨(some 143), none, .pick (.t 133) (.t 142) (.c (.kb false))⟩,
   ⟨(some 4), none, .mov (.t 143)⟩]
   (.fl 0 (.fl 1 (.fl 2 (.fl 3 (.fr 4 (.fr 6 (.st 5 [6] (.st 7 [] (.st 8 [] (.fl 9 (.fl 10 (.fl 11 (.fl 12 (.fr 13 (.fl 15 (.fl 16 (.fr 17 (.st 14 [17] (.st 18 [] (.st 19 [] (.fl 20 (.fl 21 .done)))))))))))))))))))))))
 .ret)))))))))))
theorem i_rostrumlaw20_InstLoad : Is Try.prog 7 144 [.t 4] c_rostrumlaw20_InstLoad := ⟨Try.f7, _, p_rostrumlaw20_InstLoad, rfl, rfl, by kernel_rfl, by kernel_rfl, rfl⟩
def p_rostrumlaw20_awake : List (Nat × Pl) := []
def c_rostrumlaw20_awake : VCode :=
 (.seq (.reg [⟨(some 0), none, .mov (.c (.kb false))⟩])
 (.seq (.reg [⟨(some 6), none, .call 10 []⟩,
   ⟨(some 1), none, .mov (.t 6)⟩])
 (.seq (.seq (.reg [⟨(some 7), none, .mov (.t 1)⟩,
   ⟨(some 8), none, .bin .eql .p (.t 7) (.c (.raw (.pointer none)))⟩])
 (.cond (.t 8)
  (.seq (.reg [⟨(some 0), none, .mov (.c (.kb false))⟩])
  .ret)
  .skip))
 (.seq (.reg [⟨(some 10), none, .mov (.t 1)⟩,
   ⟨(some 11), none, .build [(.int .i64 0), (.int .i64 0)] [(1, 1, (.c (.raw (.int .i64 1))))]⟩,
   ⟨(some 12), none, .bslice 5 1 [(.int .u8 0)] [(0, 1, (.c (.raw (.int .u8 120))))]⟩,
   ⟨(some 13), none, .conv .s2s (.t 12)⟩,
   ⟨(some 14), none, .build [(.int .i64 0), (.int .i64 0), (.int .i64 0), (.int .i64 0), (.int .i64 0), (.slice none 0 0), (.int .i64 0), (.int .i64 0), (.int .i64 0), (.int .i64 0), (.int .i64 0), (.int .i64 0), (.int .i64 0), (.int .i64 0)] [(0, 1, (.c (.raw (.int .i64 1)))), (1, 2, (.t 11)), (5, 1, (.t 13))]⟩,
   ⟨(some 15), none, .call 11 [(.t 10), (.t 14)]⟩,
   ⟨(some 9), none, .mov (.t 15)⟩,
   ⟨(some 16), none, .extr (.t 9) 0⟩,
   ⟨(some 17), none, .extr (.t 9) 1⟩,
   ⟨(some 2), none, .new 39 [(.bool false), (.int .i64 0), (.int .i64 0), (.int .i64 0), (.slice none 0 0), (.int .i64 0), (.int .i64 0), (.int .i64 0), (.int .i64 0), (.int .i64 0), (.int .i64 0), (.int .i64 0), (.int .i64 0), (.int .i64 0), (.int .i64 0), (.int .i64 0), (.int .i64 0)]⟩,
   ⟨none, none, .store (some 17) (.t 2) (.t 16)⟩,
   ⟨(some 3), none, .mov (.t 17)⟩])
 (.seq (.reg [⟨(some 19), none, .mov (.t 1)⟩,
   ⟨(some 20), none, .build [(.int .i64 0), (.int .i64 0)] [(0, 1, (.c (.raw (.int .i64 1)))), (1, 1, (.c (.raw (.int .i64 1))))]⟩,
   ⟨(some 21), none, .build [(.int .i64 0), (.int .i64 0)] [(1, 1, (.c (.raw (.int .i64 1))))]⟩,
   ⟨(some 22), none, .bslice 5 1 [(.int .u8 0)] [(0, 1, (.c (.raw (.int .u8 121))))]⟩,
   ⟨(some 23), none, .conv .s2s (.t 22)⟩,
   ⟨(some 24), none, .build [(.int .i64 0), (.int .i64 0), (.int .i64 0), (.int .i64 0), (.int .i64 0), (.slice none 0 0), (.int .i64 0), (.int .i64 0), (.int .i64 0), (.int .i64 0), (.int .i64 0), (.int .i64 0), (.int .i64 0), (.int .i64 0)] [(0, 1, (.c (.raw (.int .i64 1)))), (1, 2, (.t 20)), (3, 2, (.t 21)), (5, 1, (.t 23))]⟩,
   ⟨(some 25), none, .call 11 [(.t 19), (.t 24)]⟩,
   ⟨(some 18), none, .mov (.t 25)⟩,
   ⟨(some 26), none, .extr (.t 18) 0⟩,
   ⟨(some 27), none, .extr (.t 18) 1⟩,
   ⟨(some 4), none, .new 39 [(.bool false), (.int .i64 0), (.int .i64 0), (.int .i64 0), (.slice none 0 0), (.int .i64 0), (.int .i64 0), (.int .i64 0), (.int .i64 0), (.int .i64 0), (.int .i64 0), (.int .i64 0), (.int .i64 0), (.int .i64 0), (.int .i64 0), (.int .i64 0), (.int .i64 0)]⟩,
   ⟨none, none, .store (some 17) (.t 4) (.t 26)⟩,
   ⟨(some 5), none, .mov (.t 27)⟩])
 (.seq (.reg [⟨(some 28), none, .mov (.t 3)⟩,
   ⟨(some 29), none, .bin .eql .no (.t 28) (.c (.raw (.int .i64 0)))⟩,
   ⟨(some 30), none, .mov (.t 29)⟩,
   ⟨(some 31), (some (30, true)), .mov (.t 5)⟩,
   ⟨(some 32), (some (30, true)), .bin .eql .no (.t 31) (.c (.raw (.int .i64 0)))⟩,
   ⟨(some 33), none, .pick (.t 30) (.t 32) (.c (.kb false))⟩,
   ⟨(some 34), none, .mov (.t 33)⟩,
   ⟨(some 35), (some (34, true)), .faddr 0 (.t 2)⟩,
   ⟨(some 36), (some (34, true)), .load none (.t 35)⟩,
   ⟨(some 37), none, .pick (.t 34) (.t 36) (.c (.kb false))⟩,
   ⟨(some 38), none, .mov (.t 37)⟩,
   ⟨(some 39), (some (38, true)), .faddr 3 (.t 2)⟩,
   ⟨(some 40), (some (38, true)), .faddr 2 (.t 39)⟩,
   ⟨(some 41), (some (38, true)), .load none (.t 40)⟩,
   ⟨(some 42), (some (38, true)), .bin .eql .no (.t 41) (.c (.raw (.int .i64 0)))⟩,
   ⟨(some 43), none, .pick (.t 38) (.t 42) (.c (.kb false))⟩,
   ⟨(some 44), none, .mov (.t 43)⟩,
   ⟨(some 45), (some (44, true)), .faddr 0 (.t 4)⟩,
   ⟨(some 46), (some (44, true)), .load none (.t 45)⟩,
   ⟨(some 47), none, .pick (.t 44) (.t 46) (.c (.kb false))⟩,
   ⟨(some 48), none, .mov (.t 47)⟩,
   ⟨(some 49), (some (48, true)), .faddr 3 (.t 4)⟩,
   ⟨(some 50), (some (48, true)), .faddr 2 (.t 49)⟩,
   ⟨(some 51), (some (48, true)), .load none (.t 50)⟩,
   ⟨(some 52), (some (48, true)), .bin .eql .no (.t 51) (.c (.raw (.int .i64 1)))⟩,
   ⟨(some 53), none, .pick (.t 48) (.t 52) (.c (.kb false))⟩,
   ⟨(some 54), none, .mov (.t 53)⟩,
   ⟨(some 55), (some (54, true)), .faddr 3 (.t 4)⟩,
   ⟨(some 56), (some (54, true)), .faddr 3 (.t 55)⟩,
   ⟨(some 57), (some (54, true)), .load (some 7) (.t 56)⟩,
   ⟨(some 58), (some (54, true)), .build [(.int .i64 0), (.int .i64 0), (.int .i64 0), (.int .i64 0), (.int .i64 0), (.int .i64 0), (.int .i64 0)] [(0, 1, (.c (.raw (.int .i64 1))))]⟩,
   ⟨(some 59), (some (54, true)), .bin .eql (.agg [.i, .i, .i, .i, .i, .i, .i]) (.t 57) (.t 58)⟩,
   ⟨(some 60), none, .pick (.t 54) (.t 59) (.c (.kb false))⟩,
   ⟨(some 61), none, .mov (.t 60)⟩,
   ⟨(some 62), (some (61, true)), .mov (.t 1)⟩,
   ⟨(some 63), (some (61, true)), .call 14 [(.t 62)]⟩,
   ⟨(some 64), (some (61, true)), .build [(.int .i64 0), (.int .i64 0), (.int .i64 0), (.int .i64 0), (.int .i64 0), (.int .i64 0), (.int .i64 0)] [(0, 1, (.c (.raw (.int .i64 1)))), (1, 1, (.c (.raw (.int .i64 1))))]⟩,
   ⟨(some 65), (some (61, true)), .bin .eql (.agg [.i, .i, .i, .i, .i, .i, .i]) (.t 63) (.t 64)⟩,
   ⟨(some 66), none, .pick (.t 61) (.t 65) (.c (.kb false))⟩,
   ⟨(some 0), none, .mov (.t 66)⟩])
 .ret))))))
theorem i_rostrumlaw20_awake : Is Try.prog 8 67 [.t 0] c_rostrumlaw20_awake := ⟨Try.f8, _, p_rostrumlaw20_awake, rfl, rfl, by kernel_rfl, by kernel_rfl, rfl⟩
def p_rostrumlaw20_light : List (Nat × Pl) := []
def c_rostrumlaw20_light : VCode :=
 (.seq (.reg [⟨(some 2), none, .mov (.c (.kb false))⟩])
 (.seq (.seq (.reg [⟨(some 4), none, .mov (.t 0)⟩,
   ⟨(some 5), none, .len .sl (.t 4)⟩,
   ⟨(some 6), none, .bin .gtr .no (.t 5) (.c (.raw (.int .i64 40)))⟩])
 (.cond (.t 6)
  (.seq (.reg [⟨(some 2), none, .mov (.c (.kb false))⟩])
  .ret)
  .skip))
 (.seq (.seq (.reg [⟨(some 3), none, .mov (.c (.raw (.int .i64 0)))⟩])
 (.block 0 (.loop (.seq (.seq (.reg [⟨(some 7), none, .mov (.t 3)⟩,
    ⟨(some 8), none, .mov (.t 0)⟩,
    ⟨(some 9), none, .len .sl (.t 8)⟩,
    ⟨(some 10), none, .bin .lss .no (.t 7) (.t 9)⟩])
  (.cond (.t 10)
   .skip
   (.exit 0)))
  (.seq (.block 1 (.seq (.reg [⟨(some 13), none, .mov (.t 0)⟩,
    ⟨(some 14), none, .mov (.t 3)⟩,
    ⟨(some 15), none, .iaddr 14 none (.t 13) (.t 14)⟩,
    ⟨(some 16), none, .faddr 5 (.t 15)⟩,
    ⟨(some 17), none, .load none (.t 16)⟩,
    ⟨(some 18), none, .len .sl (.t 17)⟩,
    ⟨(some 19), none, .bin .gtr .no (.t 18) (.c (.raw (.int .i64 350)))⟩])
  (.cond (.t 19)
   (.seq (.reg [⟨(some 2), none, .mov (.c (.kb false))⟩])
   .ret)
   .skip)))
  (.reg [⟨(some 11), none, .mov (.t 3)⟩,
    ⟨(some 12), none, .bin .add .no (.t 11) (.c (.raw (.int .i64 1)))⟩,
    ⟨(some 3), none, .mov (.t 12)⟩]))))))
 (.seq (.reg [⟨(some 2), none, .mov (.c (.kb true))⟩])
 .ret))))
theorem i_rostrumlaw20_light : Is Try.prog 9 20 [.t 2] c_rostrumlaw20_light := ⟨Try.f9, _, p_rostrumlaw20_light, rfl, rfl, by kernel_rfl, by kernel_rfl, rfl⟩
def p_inst_New : List (Nat × Pl) := []
def c_inst_New : VCode :=
 (.seq (.reg [⟨(some 0), none, .mov (.c (.raw (.pointer none)))⟩])
 (.seq (.reg [⟨(some 1), none, .mkmap⟩,
   ⟨(some 2), none, .build [(.map none)] [(0, 1, (.t 1))]⟩,
   ⟨(some 3), none, .box 65 (.t 2)⟩,
   ⟨(some 0), none, .mov (.t 3)⟩])
 .ret))
theorem i_inst_New : Is Try.prog 10 4 [.t 0] c_inst_New := ⟨Try.f10, _, p_inst_New, rfl, rfl, by kernel_rfl, by kernel_rfl, rfl⟩
def p_inst_Table_Do : List (Nat × Pl) := [(3, (.fl 0 (.fr 1 (.fl 2 (.fr 3 (.fl 4 (.fr 5 (.fr 6 (.st 7 [1, 3, 5, 6] (.st 8 [] .done)))))))))), (12, (.fl 0 (.fl 1 (.fr 2 (.fl 3 (.fl 4 (.fl 5 (.fr 6 (.fr 7 (.fl 9 (.fr 10 (.fl 11 (.fr 12 (.st 8 [2, 10, 12] (.fr 13 (.st 14 [] .done)))))))))))))))), (16, (.fl 0 (.fl 1 (.fr 2 (.fl 3 (.fr 4 (.fl 5 (.fr 6 (.fl 7 (.fr 8 (.fl 11 (.fr 12 (.fl 13 (.fr 14 (.br (.st 9 [2, 4, 12, 14] (.br (.st 10 [2, 4, 12, 14] (.st 15 [2, 4] (.st 16 [2, 4] (.fr 17 (.st 18 [] .done))))) (.st 15 [2, 4] (.st 10 [2, 4] (.st 16 [2, 4] (.fr 17 (.st 18 [] .done))))))) (.st 15 [2, 4, 6, 8] (.st 9 [2, 4] (.st 10 [2, 4] (.st 16 [2, 4] (.fr 17 (.st 18 [] .done))))))))))))))))))))), (17, (.fl 0 (.fr 1 (.fl 2 (.fr 3 (.fl 4 (.fr 5 (.fr 6 (.st 7 [] .done))))))))), (18, (.fl 0 (.fr 1 (.fr 2 (.st 3 [1] (.fr 4 (.st 5 [] (.fl 6 .done))))))))]
def c_inst_Table_Do : VCode :=
 (.seq (.reg [⟨(some 3), none, .box 35 (.t 1)⟩,
   ⟨(some 4), none, .new 39 [(.bool false), (.int .i64 0), (.int .i64 0), (.int .i64 0), (.slice none 0 0), (.int .i64 0), (.int .i64 0), (.int .i64 0), (.int .i64 0), (.int .i64 0), (.int .i64 0), (.int .i64 0), (.int .i64 0), (.int .i64 0), (.int .i64 0), (.int .i64 0), (.int .i64 0)]⟩,
   ⟨(some 5), none, .mov (.c (.raw (.int .i64 0)))⟩])
 (.seq (.seq (.reg [⟨(some 12), none, .load (some 14) (.t 3)⟩,
   ⟨(some 13), none, .call 18 [(.t 12)]⟩,
   ⟨(some 14), none, .un .not (.t 13)⟩])
 (.cond (.t 14)
  (.seq (.reg [⟨(some 15), none, .build [(.bool false), (.int .i64 0), (.int .i64 0), (.int .i64 0), (.slice none 0 0), (.int .i64 0), (.int .i64 0), (.int .i64 0), (.int .i64 0), (.int .i64 0), (.int .i64 0), (.int .i64 0), (.int .i64 0), (.int .i64 0), (.int .i64 0), (.int .i64 0), (.int .i64 0)] []⟩,
    ⟨none, none, .store (some 17) (.t 4) (.t 15)⟩,
    ⟨(some 5), none, .mov (.c (.raw (.int .i64 1)))⟩])
  .ret)
  .skip))
 (.seq (.draw [⟨(some 16), none, .mov (.t 0)⟩,
   ⟨(some 17), none, .nilck (.t 16)⟩,
   ⟨(some 18), none, .faddr 0 (.t 17)⟩,
   ⟨(some 19), none, .load none (.t 18)⟩,
   ⟨(some 20), none, .faddr 1 (.t 3)⟩,
   ⟨(some 21), none, .load (some 2) (.t 20)⟩,
   ⟨(some 22), none, .lookup 63 false (.t 19) (.t 21)⟩,
   ⟨(some 6), none, .new 37 [(.int .i64 0), (.slice none 0 0), (.int .i64 0), (.int .i64 0), (.int .i64 0), (.int .i64 0), (.int .i64 0), (.int .i64 0), (.int .i64 0), (.int .i64 0), (.int .i64 0), (.int .i64 0), (.int .i64 0), (.int .i64 0)]⟩,
   ⟨none, none, .store (some 14) (.t 6) (.t 22)⟩]
   (.fl 0 (.fr 1 (.fl 2 (.fr 3 (.fl 4 (.fr 5 (.fr 6 (.st 7 [1, 3, 5, 6] (.st 8 [] .done))))))))))
 (.seq (.seq (.reg [⟨(some 24), none, .mov (.t 0)⟩,
   ⟨(some 25), none, .load (some 14) (.t 3)⟩,
   ⟨(some 26), none, .load (some 14) (.t 6)⟩,
   ⟨(some 27), none, .call 23 [(.t 24), (.t 25), (.t 26)]⟩,
   ⟨(some 23), none, .mov (.t 27)⟩,
   ⟨(some 28), none, .extr (.t 23) 0⟩,
   ⟨(some 29), none, .extr (.t 23) 1⟩,
   ⟨(some 7), none, .new 39 [(.bool false), (.int .i64 0), (.int .i64 0), (.int .i64 0), (.slice none 0 0), (.int .i64 0), (.int .i64 0), (.int .i64 0), (.int .i64 0), (.int .i64 0), (.int .i64 0), (.int .i64 0), (.int .i64 0), (.int .i64 0), (.int .i64 0), (.int .i64 0), (.int .i64 0)]⟩,
   ⟨none, none, .store (some 17) (.t 7) (.t 28)⟩,
   ⟨(some 8), none, .mov (.t 29)⟩])
 (.seq (.reg [⟨(some 30), none, .mov (.t 8)⟩])
 (.cond (.t 30)
  (.seq (.reg [⟨(some 31), none, .load (some 17) (.t 7)⟩,
    ⟨none, none, .store (some 17) (.t 4) (.t 31)⟩,
    ⟨(some 5), none, .mov (.c (.raw (.int .i64 0)))⟩])
  .ret)
  .skip)))
 (.seq (.reg [⟨(some 32), none, .faddr 5 (.t 3)⟩,
   ⟨(some 33), none, .load none (.t 32)⟩,
   ⟨(some 34), none, .call 24 [(.t 33)]⟩,
   ⟨(some 9), none, .mov (.t 34)⟩])
 (.seq (.seq (.reg [⟨(some 35), none, .faddr 0 (.t 3)⟩,
   ⟨(some 36), none, .load none (.t 35)⟩])
 (.block 0 (.seq (.reg [⟨(some 41), none, .bin .eql .no (.t 36) (.c (.raw (.int .i64 1)))⟩,
   ⟨(some 40), none, .mov (.t 41)⟩])
 (.cond (.t 40)
  (.seq (.reg [⟨(some 43), none, .mov (.t 0)⟩,
    ⟨(some 44), none, .faddr 1 (.t 3)⟩,
    ⟨(some 45), none, .load (some 2) (.t 44)⟩,
    ⟨(some 46), none, .call 25 [(.t 43), (.t 45)]⟩,
    ⟨(some 42), none, .mov (.t 46)⟩,
    ⟨(some 47), none, .extr (.t 42) 0⟩,
    ⟨(some 48), none, .extr (.t 42) 1⟩,
    ⟨(some 11), none, .new 33 [(.int .i64 0), (.int .i64 0), (.int .i64 0), (.int .i64 0), (.int .i64 0), (.int .i64 0), (.int .i64 0)]⟩,
    ⟨(some 10), none, .mov (.t 47)⟩,
    ⟨none, none, .store (some 7) (.t 11) (.t 48)⟩])
  (.draw [⟨(some 49), none, .mov (.t 9)⟩,
    ⟨(some 50), none, .faddr 6 (.t 3)⟩,
    ⟨(some 51), none, .load none (.t 50)⟩,
    ⟨(some 52), none, .mov (.t 10)⟩,
    ⟨(some 53), none, .max (.t 51) (.t 52)⟩,
    ⟨(some 54), none, .faddr 7 (.t 3)⟩,
    ⟨(some 55), none, .load (some 7) (.t 54)⟩,
    ⟨(some 56), none, .load (some 7) (.t 11)⟩,
    ⟨(some 57), none, .call 26 [(.t 55), (.t 56)]⟩,
    ⟨(some 58), none, .faddr 3 (.t 3)⟩,
    ⟨(some 59), none, .load (some 2) (.t 58)⟩,
    ⟨(some 60), none, .faddr 3 (.t 3)⟩,
    ⟨(some 61), none, .load (some 2) (.t 60)⟩,
    ⟨(some 62), none, .build [(.int .i64 0), (.slice none 0 0), (.int .i64 0), (.int .i64 0), (.int .i64 0), (.int .i64 0), (.int .i64 0), (.int .i64 0), (.int .i64 0), (.int .i64 0), (.int .i64 0), (.int .i64 0), (.int .i64 0), (.int .i64 0)] [(0, 1, (.c (.raw (.int .i64 1)))), (1, 1, (.t 49)), (2, 1, (.t 53)), (3, 7, (.t 57)), (10, 2, (.t 59)), (12, 2, (.t 61))]⟩,
    ⟨none, none, .store (some 14) (.t 6) (.t 62)⟩]
    (.fl 0 (.fl 1 (.fr 2 (.fl 3 (.fl 4 (.fl 5 (.fr 6 (.fr 7 (.fl 9 (.fr 10 (.fl 11 (.fr 12 (.st 8 [2, 10, 12] (.fr 13 (.st 14 [] .done)))))))))))))))))
  (.seq (.reg [⟨(some 64), none, .bin .eql .no (.t 36) (.c (.raw (.int .i64 2)))⟩,
    ⟨(some 63), none, .mov (.t 64)⟩])
  (.cond (.t 63)
   (.reg [⟨(some 65), none, .mov (.t 9)⟩,
     ⟨(some 66), none, .faddr 6 (.t 3)⟩,
     ⟨(some 67), none, .load none (.t 66)⟩,
     ⟨(some 68), none, .faddr 7 (.t 3)⟩,
     ⟨(some 69), none, .load (some 7) (.t 68)⟩,
     ⟨(some 70), none, .faddr 3 (.t 3)⟩,
     ⟨(some 71), none, .load (some 2) (.t 70)⟩,
     ⟨(some 72), none, .faddr 3 (.t 3)⟩,
     ⟨(some 73), none, .load (some 2) (.t 72)⟩,
     ⟨(some 74), none, .build [(.int .i64 0), (.slice none 0 0), (.int .i64 0), (.int .i64 0), (.int .i64 0), (.int .i64 0), (.int .i64 0), (.int .i64 0), (.int .i64 0), (.int .i64 0), (.int .i64 0), (.int .i64 0), (.int .i64 0), (.int .i64 0)] [(0, 1, (.c (.raw (.int .i64 2)))), (1, 1, (.t 65)), (2, 1, (.t 67)), (3, 7, (.t 69)), (10, 2, (.t 71)), (12, 2, (.t 73))]⟩,
     ⟨none, none, .store (some 14) (.t 6) (.t 74)⟩])
   (.seq (.reg [⟨(some 76), none, .bin .eql .no (.t 36) (.c (.raw (.int .i64 3)))⟩,
     ⟨(some 75), none, .mov (.t 76)⟩])
   (.cond (.t 75)
    (.draw [⟨(some 77), none, .mov (.t 9)⟩,
      ⟨(some 78), none, .faddr 6 (.t 3)⟩,
      ⟨(some 79), none, .load none (.t 78)⟩,
      ⟨(some 80), none, .faddr 7 (.t 3)⟩,
      ⟨(some 81), none, .load (some 7) (.t 80)⟩,
      ⟨(some 82), none, .faddr 3 (.t 3)⟩,
      ⟨(some 83), none, .load (some 2) (.t 82)⟩,
      ⟨(some 84), none, .faddr 10 (.t 6)⟩,
      ⟨(some 85), none, .load (some 2) (.t 84)⟩,
      ⟨(some 86), none, .bslice 30 2 [(.int .i64 0), (.int .i64 0), (.int .i64 0), (.int .i64 0)] [(0, 2, (.t 83)), (2, 2, (.t 85))]⟩,
      ⟨(some 87), none, .call 27 [(.t 86)]⟩,
      ⟨(some 88), none, .faddr 3 (.t 3)⟩,
      ⟨(some 89), none, .load (some 2) (.t 88)⟩,
      ⟨(some 90), none, .faddr 12 (.t 6)⟩,
      ⟨(some 91), none, .load (some 2) (.t 90)⟩,
      ⟨(some 92), none, .bslice 30 2 [(.int .i64 0), (.int .i64 0), (.int .i64 0), (.int .i64 0)] [(0, 2, (.t 89)), (2, 2, (.t 91))]⟩,
      ⟨(some 93), none, .call 27 [(.t 92)]⟩,
      ⟨(some 94), none, .build [(.int .i64 0), (.slice none 0 0), (.int .i64 0), (.int .i64 0), (.int .i64 0), (.int .i64 0), (.int .i64 0), (.int .i64 0), (.int .i64 0), (.int .i64 0), (.int .i64 0), (.int .i64 0), (.int .i64 0), (.int .i64 0)] [(0, 1, (.c (.raw (.int .i64 3)))), (1, 1, (.t 77)), (2, 1, (.t 79)), (3, 7, (.t 81)), (10, 2, (.t 87)), (12, 2, (.t 93))]⟩,
      ⟨none, none, .store (some 14) (.t 6) (.t 94)⟩]
      (.fl 0 (.fl 1 (.fr 2 (.fl 3 (.fr 4 (.fl 5 (.fr 6 (.fl 7 (.fr 8 (.fl 11 (.fr 12 (.fl 13 (.fr 14 (.br (.st 9 [2, 4, 12, 14] (.br (.st 10 [2, 4, 12, 14] (.st 15 [2, 4] (.st 16 [2, 4] (.fr 17 (.st 18 [] .done))))) (.st 15 [2, 4] (.st 10 [2, 4] (.st 16 [2, 4] (.fr 17 (.st 18 [] .done))))))) (.st 15 [2, 4, 6, 8] (.st 9 [2, 4] (.st 10 [2, 4] (.st 16 [2, 4] (.fr 17 (.st 18 [] .done)))))))))))))))))))))
    (.reg [⟨(some 37), none, .faddr 3 (.t 3)⟩,
      ⟨(some 38), none, .load (some 2) (.t 37)⟩,
      ⟨(some 39), none, .faddr 10 (.t 6)⟩,
      ⟨none, none, .store (some 2) (.t 39) (.t 38)⟩])))))))))
 (.seq (.draw [⟨(some 95), none, .mov (.t 0)⟩,
   ⟨(some 96), none, .nilck (.t 95)⟩,
   ⟨(some 97), none, .faddr 0 (.t 96)⟩,
   ⟨(some 98), none, .load none (.t 97)⟩,
   ⟨(some 99), none, .faddr 1 (.t 3)⟩,
   ⟨(some 100), none, .load (some 2) (.t 99)⟩,
   ⟨(some 101), none, .load (some 14) (.t 6)⟩,
   ⟨none, none, .mapup 63 (.t 98) (.t 100) (.t 101)⟩]
   (.fl 0 (.fr 1 (.fl 2 (.fr 3 (.fl 4 (.fr 5 (.fr 6 (.st 7 [] .done)))))))))
 (.seq (.draw [⟨(some 102), none, .faddr 10 (.t 6)⟩,
   ⟨(some 103), none, .load (some 2) (.t 102)⟩,
   ⟨(some 104), none, .load (some 14) (.t 6)⟩,
   ⟨(some 105), none, .call 28 [(.t 104)]⟩,
   ⟨(some 106), none, .build [(.bool false), (.int .i64 0), (.int .i64 0), (.int .i64 0), (.slice none 0 0), (.int .i64 0), (.int .i64 0), (.int .i64 0), (.int .i64 0), (.int .i64 0), (.int .i64 0), (.int .i64 0), (.int .i64 0), (.int .i64 0), (.int .i64 0), (.int .i64 0), (.int .i64 0)] [(0, 1, (.c (.kb true))), (1, 2, (.t 103)), (3, 14, (.t 105))]⟩,
   ⟨none, none, .store (some 17) (.t 4) (.t 106)⟩,
   ⟨(some 5), none, .mov (.c (.raw (.int .i64 0)))⟩]
   (.fl 0 (.fr 1 (.fr 2 (.st 3 [1] (.fr 4 (.st 5 [] (.fl 6 .done))))))))
 .ret))))))))
theorem i_inst_Table_Do : Is Try.prog 11 107 [.cell 4 (some 17), .t 5] c_inst_Table_Do := ⟨Try.f11, _, p_inst_Table_Do, rfl, rfl, by kernel_rfl, by kernel_rfl, rfl⟩
def p_inst_Table_Rec : List (Nat × Pl) := [(1, (.fl 0 (.fr 1 (.fl 2 (.fr 3 (.fr 4 (.fr 5 (.st 6 [] (.st 7 [] .done)))))))))]
def c_inst_Table_Rec : VCode :=
 (.seq (.reg [⟨(some 3), none, .box 24 (.t 1)⟩,
   ⟨(some 4), none, .new 37 [(.int .i64 0), (.slice none 0 0), (.int .i64 0), (.int .i64 0), (.int .i64 0), (.int .i64 0), (.int .i64 0), (.int .i64 0), (.int .i64 0), (.int .i64 0), (.int .i64 0), (.int .i64 0), (.int .i64 0), (.int .i64 0)]⟩])
 (.seq (.draw [⟨(some 5), none, .mov (.t 0)⟩,
   ⟨(some 6), none, .nilck (.t 5)⟩,
   ⟨(some 7), none, .faddr 0 (.t 6)⟩,
   ⟨(some 8), none, .load none (.t 7)⟩,
   ⟨(some 9), none, .load (some 2) (.t 3)⟩,
   ⟨(some 10), none, .lookup 63 false (.t 8) (.t 9)⟩,
   ⟨(some 11), none, .call 28 [(.t 10)]⟩,
   ⟨none, none, .store (some 14) (.t 4) (.t 11)⟩]
   (.fl 0 (.fr 1 (.fl 2 (.fr 3 (.fr 4 (.fr 5 (.st 6 [] (.st 7 [] .done)))))))))
 .ret))
theorem i_inst_Table_Rec : Is Try.prog 12 12 [.cell 4 (some 14)] c_inst_Table_Rec := ⟨Try.f12, _, p_inst_Table_Rec, rfl, rfl, by kernel_rfl, by kernel_rfl, rfl⟩
def p_inst_Same : List (Nat × Pl) := []
def c_inst_Same : VCode :=
 (.seq (.reg [⟨(some 2), none, .box 37 (.t 0)⟩,
   ⟨(some 3), none, .box 37 (.t 1)⟩,
   ⟨(some 4), none, .mov (.c (.kb false))⟩])
 (.seq (.reg [⟨(some 5), none, .faddr 0 (.t 2)⟩,
   ⟨(some 6), none, .load none (.t 5)⟩,
   ⟨(some 7), none, .faddr 0 (.t 3)⟩,
   ⟨(some 8), none, .load none (.t 7)⟩,
   ⟨(some 9), none, .bin .eql .no (.t 6) (.t 8)⟩,
   ⟨(some 10), none, .mov (.t 9)⟩,
   ⟨(some 11), (some (10, true)), .faddr 1 (.t 2)⟩,
   ⟨(some 12), (some (10, true)), .load none (.t 11)⟩,
   ⟨(some 13), (some (10, true)), .faddr 1 (.t 3)⟩,
   ⟨(some 14), (some (10, true)), .load none (.t 13)⟩,
   ⟨(some 15), (some (10, true)), .call 29 [(.t 12), (.t 14)]⟩,
   ⟨(some 16), none, .pick (.t 10) (.t 15) (.c (.kb false))⟩,
   ⟨(some 17), none, .mov (.t 16)⟩,
   ⟨(some 18), (some (17, true)), .faddr 2 (.t 2)⟩,
   ⟨(some 19), (some (17, true)), .load none (.t 18)⟩,
   ⟨(some 20), (some (17, true)), .faddr 2 (.t 3)⟩,
   ⟨(some 21), (some (17, true)), .load none (.t 20)⟩,
   ⟨(some 22), (some (17, true)), .bin .eql .no (.t 19) (.t 21)⟩,
   ⟨(some 23), none, .pick (.t 17) (.t 22) (.c (.kb false))⟩,
   ⟨(some 24), none, .mov (.t 23)⟩,
   ⟨(some 25), (some (24, true)), .faddr 3 (.t 2)⟩,
   ⟨(some 26), (some (24, true)), .load (some 7) (.t 25)⟩,
   ⟨(some 27), (some (24, true)), .faddr 3 (.t 3)⟩,
   ⟨(some 28), (some (24, true)), .load (some 7) (.t 27)⟩,
   ⟨(some 29), (some (24, true)), .bin .eql (.agg [.i, .i, .i, .i, .i, .i, .i]) (.t 26) (.t 28)⟩,
   ⟨(some 30), none, .pick (.t 24) (.t 29) (.c (.kb false))⟩,
   ⟨(some 31), none, .mov (.t 30)⟩,
   ⟨(some 32), (some (31, true)), .faddr 10 (.t 2)⟩,
   ⟨(some 33), (some (31, true)), .load (some 2) (.t 32)⟩,
   ⟨(some 34), (some (31, true)), .faddr 10 (.t 3)⟩,
   ⟨(some 35), (some (31, true)), .load (some 2) (.t 34)⟩,
   ⟨(some 36), (some (31, true)), .bin .eql (.agg [.i, .i]) (.t 33) (.t 35)⟩,
   ⟨(some 37), none, .pick (.t 31) (.t 36) (.c (.kb false))⟩,
   ⟨(some 38), none, .mov (.t 37)⟩,
   ⟨(some 39), (some (38, true)), .faddr 12 (.t 2)⟩,
   ⟨(some 40), (some (38, true)), .load (some 2) (.t 39)⟩,
   ⟨(some 41), (some (38, true)), .faddr 12 (.t 3)⟩,
   ⟨(some 42), (some (38, true)), .load (some 2) (.t 41)⟩,
   ⟨(some 43), (some (38, true)), .bin .eql (.agg [.i, .i]) (.t 40) (.t 42)⟩,
   ⟨(some 44), none, .pick (.t 38) (.t 43) (.c (.kb false))⟩,
   ⟨(some 4), none, .mov (.t 44)⟩])
 .ret))
theorem i_inst_Same : Is Try.prog 13 45 [.t 4] c_inst_Same := ⟨Try.f13, _, p_inst_Same, rfl, rfl, by kernel_rfl, by kernel_rfl, rfl⟩
def p_inst_Table_Known : List (Nat × Pl) := [(5, (.fl 0 (.fr 1 (.fl 2 (.fr 3 (.fr 4 (.fr 5 (.fl 6 (.fr 7 (.fl 8 (.fr 9 (.st 10 [] .done))))))))))))]
def c_inst_Table_Known : VCode :=
 (.seq (.reg [⟨(some 2), none, .new 33 [(.int .i64 0), (.int .i64 0), (.int .i64 0), (.int .i64 0), (.int .i64 0), (.int .i64 0), (.int .i64 0)]⟩])
 (.seq (.reg [⟨(some 3), none, .new 33 [(.int .i64 0), (.int .i64 0), (.int .i64 0), (.int .i64 0), (.int .i64 0), (.int .i64 0), (.int .i64 0)]⟩])
 (.seq (.seq (.reg [⟨(some 6), none, .mov (.t 0)⟩,
   ⟨(some 7), none, .call 17 [(.t 6)]⟩,
   ⟨(some 8), none, .len .sl (.t 7)⟩,
   ⟨(some 9), none, .mov (.c (.raw (.int .i64 0)))⟩])
 (.block 0 (.loop (.seq (.reg [⟨(some 10), none, .bin .lss .no (.t 9) (.t 8)⟩])
  (.seq (.cond (.t 10)
   .skip
   (.exit 0))
  (.seq (.block 1 (.seq (.reg [⟨(some 11), none, .iaddr 2 none (.t 7) (.t 9)⟩,
    ⟨(some 12), none, .load (some 2) (.t 11)⟩,
    ⟨(some 5), none, .new 24 [(.int .i64 0), (.int .i64 0)]⟩,
    ⟨none, none, .store (some 2) (.t 5) (.t 12)⟩])
  (.draw [⟨(some 13), none, .faddr 0 (.t 5)⟩,
    ⟨(some 14), none, .load none (.t 13)⟩,
    ⟨(some 15), none, .faddr 0 (.t 5)⟩,
    ⟨(some 16), none, .load none (.t 15)⟩,
    ⟨(some 17), none, .iaddr 1 (some 7) (.t 3) (.t 16)⟩,
    ⟨(some 18), none, .load none (.t 17)⟩,
    ⟨(some 19), none, .faddr 1 (.t 5)⟩,
    ⟨(some 20), none, .load none (.t 19)⟩,
    ⟨(some 21), none, .max (.t 18) (.t 20)⟩,
    ⟨(some 22), none, .iaddr 1 (some 7) (.t 3) (.t 14)⟩,
    ⟨none, none, .store none (.t 22) (.t 21)⟩]
    (.fl 0 (.fr 1 (.fl 2 (.fr 3 (.fr 4 (.fr 5 (.fl 6 (.fr 7 (.fl 8 (.fr 9 (.st 10 [] .done))))))))))))))
  (.reg [⟨(some 23), none, .bin .add .no (.t 9) (.c (.raw (.int .i64 1)))⟩,
    ⟨(some 9), none, .mov (.t 23)⟩])))))))
 (.seq (.reg [⟨(some 24), none, .load (some 7) (.t 3)⟩,
   ⟨none, none, .store (some 7) (.t 2) (.t 24)⟩])
 .ret))))
theorem i_inst_Table_Known : Is Try.prog 14 25 [.cell 2 (some 7)] c_inst_Table_Known := ⟨Try.f14, _, p_inst_Table_Known, rfl, rfl, by kernel_rfl, by kernel_rfl, rfl⟩
def p_inst_Table_Load : List (Nat × Pl) := [(3, (.fl 0 (.fr 1 (.fl 2 (.fr 3 (.fr 4 (.fr 5 (.st 6 [1, 3, 4] (.st 7 [] .done)))))))))]
def c_inst_Table_Load : VCode :=
 (.seq (.reg [⟨(some 4), none, .box 24 (.t 1)⟩,
   ⟨(some 5), none, .box 37 (.t 2)⟩,
   ⟨(some 6), none, .mov (.c (.raw (.int .i64 0)))⟩])
 (.seq (.seq (.reg [⟨(some 7), none, .load (some 2) (.t 4)⟩,
   ⟨(some 8), none, .call 30 [(.t 7)]⟩,
   ⟨(some 9), none, .un .not (.t 8)⟩,
   ⟨(some 10), none, .mov (.t 9)⟩,
   ⟨(some 11), (some (10, false)), .faddr 0 (.t 5)⟩,
   ⟨(some 12), (some (10, false)), .load none (.t 11)⟩,
   ⟨(some 13), (some (10, false)), .bin .lss .no (.t 12) (.c (.raw (.int .i64 1)))⟩,
   ⟨(some 14), none, .pick (.t 10) (.c (.kb true)) (.t 13)⟩,
   ⟨(some 15), none, .mov (.t 14)⟩,
   ⟨(some 16), (some (15, false)), .faddr 0 (.t 5)⟩,
   ⟨(some 17), (some (15, false)), .load none (.t 16)⟩,
   ⟨(some 18), (some (15, false)), .bin .gtr .no (.t 17) (.c (.raw (.int .i64 3)))⟩,
   ⟨(some 19), none, .pick (.t 15) (.c (.kb true)) (.t 18)⟩,
   ⟨(some 20), none, .mov (.t 19)⟩,
   ⟨(some 21), (some (20, false)), .faddr 1 (.t 5)⟩,
   ⟨(some 22), (some (20, false)), .load none (.t 21)⟩,
   ⟨(some 23), (some (20, false)), .faddr 2 (.t 5)⟩,
   ⟨(some 24), (some (20, false)), .load none (.t 23)⟩,
   ⟨(some 25), (some (20, false)), .faddr 3 (.t 5)⟩,
   ⟨(some 26), (some (20, false)), .load (some 7) (.t 25)⟩,
   ⟨(some 27), (some (20, false)), .call 31 [(.t 22), (.t 24), (.t 26)]⟩,
   ⟨(some 28), (some (20, false)), .un .not (.t 27)⟩,
   ⟨(some 29), none, .pick (.t 20) (.c (.kb true)) (.t 28)⟩,
   ⟨(some 30), none, .mov (.t 29)⟩,
   ⟨(some 31), (some (30, false)), .faddr 10 (.t 5)⟩,
   ⟨(some 32), (some (30, false)), .load (some 2) (.t 31)⟩,
   ⟨(some 33), (some (30, false)), .call 32 [(.t 32)]⟩,
   ⟨(some 34), (some (30, false)), .un .not (.t 33)⟩,
   ⟨(some 35), none, .pick (.t 30) (.c (.kb true)) (.t 34)⟩,
   ⟨(some 36), none, .mov (.t 35)⟩,
   ⟨(some 37), (some (36, false)), .faddr 12 (.t 5)⟩,
   ⟨(some 38), (some (36, false)), .load (some 2) (.t 37)⟩,
   ⟨(some 39), (some (36, false)), .call 32 [(.t 38)]⟩,
   ⟨(some 40), (some (36, false)), .un .not (.t 39)⟩,
   ⟨(some 41), none, .pick (.t 36) (.c (.kb true)) (.t 40)⟩])
 (.cond (.t 41)
  (.seq (.reg [⟨(some 6), none, .mov (.c (.raw (.int .i64 1)))⟩])
  .ret)
  .skip))
 (.seq (.draw [⟨(some 42), none, .mov (.t 0)⟩,
   ⟨(some 43), none, .nilck (.t 42)⟩,
   ⟨(some 44), none, .faddr 0 (.t 43)⟩,
   ⟨(some 45), none, .load none (.t 44)⟩,
   ⟨(some 46), none, .load (some 2) (.t 4)⟩,
   ⟨(some 47), none, .load (some 14) (.t 5)⟩,
   ⟨(some 48), none, .call 28 [(.t 47)]⟩,
   ⟨none, none, .mapup 63 (.t 45) (.t 46) (.t 48)⟩]
   (.fl 0 (.fr 1 (.fl 2 (.fr 3 (.fr 4 (.fr 5 (.st 6 [1, 3, 4] (.st 7 [] .done)))))))))
 (.seq (.reg [⟨(some 6), none, .mov (.c (.raw (.int .i64 0)))⟩])
 .ret))))
theorem i_inst_Table_Load : Is Try.prog 15 49 [.t 6] c_inst_Table_Load := ⟨Try.f15, _, p_inst_Table_Load, rfl, rfl, by kernel_rfl, by kernel_rfl, rfl⟩
def p_inst_Table_Top : List (Nat × Pl) := [(5, (.fl 0 (.fl 1 (.fr 2 (.fl 3 (.fr 4 (.fr 5 (.fr 6 (.fl 7 (.fl 8 (.fl 9 .done)))))))))))]
def c_inst_Table_Top : VCode :=
 (.seq (.reg [⟨(some 2), none, .mov (.c (.raw (.int .i64 0)))⟩])
 (.seq (.reg [⟨(some 3), none, .mov (.c (.raw (.int .i64 0)))⟩])
 (.seq (.seq (.reg [⟨(some 6), none, .mov (.t 0)⟩,
   ⟨(some 7), none, .call 17 [(.t 6)]⟩,
   ⟨(some 8), none, .len .sl (.t 7)⟩,
   ⟨(some 9), none, .mov (.c (.raw (.int .i64 0)))⟩])
 (.block 0 (.loop (.seq (.reg [⟨(some 10), none, .bin .lss .no (.t 9) (.t 8)⟩])
  (.seq (.cond (.t 10)
   .skip
   (.exit 0))
  (.seq (.block 1 (.seq (.reg [⟨(some 11), none, .iaddr 2 none (.t 7) (.t 9)⟩,
    ⟨(some 12), none, .load (some 2) (.t 11)⟩,
    ⟨(some 5), none, .new 24 [(.int .i64 0), (.int .i64 0)]⟩,
    ⟨none, none, .store (some 2) (.t 5) (.t 12)⟩])
  (.draw [⟨(some 13), none, .mov (.t 3)⟩,
    ⟨(some 14), none, .mov (.t 0)⟩,
    ⟨(some 15), none, .nilck (.t 14)⟩,
    ⟨(some 16), none, .faddr 0 (.t 15)⟩,
    ⟨(some 17), none, .load none (.t 16)⟩,
    ⟨(some 18), none, .load (some 2) (.t 5)⟩,
    ⟨(some 19), none, .lookup 63 false (.t 17) (.t 18)⟩,
    ⟨(some 20), none, .field 2 none (.t 19)⟩,
    ⟨(some 21), none, .max (.t 13) (.t 20)⟩,
    ⟨(some 3), none, .mov (.t 21)⟩]
    (.fl 0 (.fl 1 (.fr 2 (.fl 3 (.fr 4 (.fr 5 (.fr 6 (.fl 7 (.fl 8 (.fl 9 .done)))))))))))))
  (.reg [⟨(some 22), none, .bin .add .no (.t 9) (.c (.raw (.int .i64 1)))⟩,
    ⟨(some 9), none, .mov (.t 22)⟩])))))))
 (.seq (.reg [⟨(some 23), none, .mov (.t 3)⟩,
   ⟨(some 2), none, .mov (.t 23)⟩])
 .ret))))
theorem i_inst_Table_Top : Is Try.prog 16 24 [.t 2] c_inst_Table_Top := ⟨Try.f16, _, p_inst_Table_Top, rfl, rfl, by kernel_rfl, by kernel_rfl, rfl⟩
def p_inst_Table_All : List (Nat × Pl) := []
def c_inst_Table_All : VCode :=
 (.seq (.reg [⟨(some 1), none, .box 27 (.t 0)⟩,
   ⟨(some 2), none, .mov (.c (.raw (.slice none 0 0)))⟩])
 (.seq (.reg [⟨(some 4), none, .load none (.t 1)⟩,
   ⟨(some 5), none, .nilck (.t 4)⟩,
   ⟨(some 6), none, .faddr 0 (.t 5)⟩,
   ⟨(some 7), none, .load none (.t 6)⟩,
   ⟨(some 8), none, .call 34 [(.t 7)]⟩,
   ⟨(some 9), none, .call 33 [(.t 8), (.c (.fn 35 []))]⟩,
   ⟨(some 3), none, .mov (.t 9)⟩])
 (.seq (.reg [⟨(some 10), none, .mov (.t 3)⟩,
   ⟨(some 11), none, .mkfn 37 [(.t 1)]⟩,
   ⟨(some 12), none, .call 36 [(.t 10), (.t 11)]⟩,
   ⟨(some 2), none, .mov (.t 12)⟩])
 .ret)))
theorem i_inst_Table_All : Is Try.prog 17 13 [.t 2] c_inst_Table_All := ⟨Try.f17, _, p_inst_Table_All, rfl, rfl, by kernel_rfl, by kernel_rfl, rfl⟩
def p_inst_May : List (Nat × Pl) := []
def c_inst_May : VCode :=
 (.seq (.reg [⟨(some 1), none, .box 35 (.t 0)⟩,
   ⟨(some 2), none, .mov (.c (.kb false))⟩])
 (.seq (.seq (.reg [⟨(some 3), none, .faddr 0 (.t 1)⟩,
   ⟨(some 4), none, .load none (.t 3)⟩,
   ⟨(some 5), none, .bin .lss .no (.t 4) (.c (.raw (.int .i64 1)))⟩,
   ⟨(some 6), none, .mov (.t 5)⟩,
   ⟨(some 7), (some (6, false)), .faddr 0 (.t 1)⟩,
   ⟨(some 8), (some (6, false)), .load none (.t 7)⟩,
   ⟨(some 9), (some (6, false)), .bin .gtr .no (.t 8) (.c (.raw (.int .i64 4)))⟩,
   ⟨(some 10), none, .pick (.t 6) (.c (.kb true)) (.t 9)⟩,
   ⟨(some 11), none, .mov (.t 10)⟩,
   ⟨(some 12), (some (11, false)), .faddr 1 (.t 1)⟩,
   ⟨(some 13), (some (11, false)), .load (some 2) (.t 12)⟩,
   ⟨(some 14), (some (11, false)), .call 30 [(.t 13)]⟩,
   ⟨(some 15), (some (11, false)), .un .not (.t 14)⟩,
   ⟨(some 16), none, .pick (.t 11) (.c (.kb true)) (.t 15)⟩,
   ⟨(some 17), none, .mov (.t 16)⟩,
   ⟨(some 18), (some (17, false)), .faddr 3 (.t 1)⟩,
   ⟨(some 19), (some (17, false)), .load (some 2) (.t 18)⟩,
   ⟨(some 20), (some (17, false)), .call 32 [(.t 19)]⟩,
   ⟨(some 21), (some (17, false)), .un .not (.t 20)⟩,
   ⟨(some 22), none, .pick (.t 17) (.c (.kb true)) (.t 21)⟩,
   ⟨(some 23), none, .mov (.t 22)⟩,
   ⟨(some 24), (some (23, false)), .faddr 5 (.t 1)⟩,
   ⟨(some 25), (some (23, false)), .load none (.t 24)⟩,
   ⟨(some 26), (some (23, false)), .faddr 6 (.t 1)⟩,
   ⟨(some 27), (some (23, false)), .load none (.t 26)⟩,
   ⟨(some 28), (some (23, false)), .faddr 7 (.t 1)⟩,
   ⟨(some 29), (some (23, false)), .load (some 7) (.t 28)⟩,
   ⟨(some 30), (some (23, false)), .call 31 [(.t 25), (.t 27), (.t 29)]⟩,
   ⟨(some 31), (some (23, false)), .un .not (.t 30)⟩,
   ⟨(some 32), none, .pick (.t 23) (.c (.kb true)) (.t 31)⟩])
 (.cond (.t 32)
  (.seq (.reg [⟨(some 2), none, .mov (.c (.kb false))⟩])
  .ret)
  .skip))
 (.seq (.reg [⟨(some 33), none, .faddr 0 (.t 1)⟩,
   ⟨(some 34), none, .load none (.t 33)⟩,
   ⟨(some 35), none, .bin .neq .no (.t 34) (.c (.raw (.int .i64 4)))⟩,
   ⟨(some 36), none, .mov (.t 35)⟩,
   ⟨(some 37), (some (36, false)), .faddr 5 (.t 1)⟩,
   ⟨(some 38), (some (36, false)), .load none (.t 37)⟩,
   ⟨(some 39), (some (36, false)), .len .sl (.t 38)⟩,
   ⟨(some 40), (some (36, false)), .bin .eql .no (.t 39) (.c (.raw (.int .i64 0)))⟩,
   ⟨(some 41), (some (36, false)), .mov (.t 40)⟩,
   ⟨(some 42), (some (41, true)), .faddr 6 (.t 1)⟩,
   ⟨(some 43), (some (41, true)), .load none (.t 42)⟩,
   ⟨(some 44), (some (41, true)), .bin .eql .no (.t 43) (.c (.raw (.int .i64 0)))⟩,
   ⟨(some 45), (some (36, false)), .pick (.t 41) (.t 44) (.c (.kb false))⟩,
   ⟨(some 46), (some (36, false)), .mov (.t 45)⟩,
   ⟨(some 47), (some (46, true)), .faddr 7 (.t 1)⟩,
   ⟨(some 48), (some (46, true)), .load (some 7) (.t 47)⟩,
   ⟨(some 49), (some (46, true)), .build [(.int .i64 0), (.int .i64 0), (.int .i64 0), (.int .i64 0), (.int .i64 0), (.int .i64 0), (.int .i64 0)] []⟩,
   ⟨(some 50), (some (46, true)), .bin .eql (.agg [.i, .i, .i, .i, .i, .i, .i]) (.t 48) (.t 49)⟩,
   ⟨(some 51), (some (36, false)), .pick (.t 46) (.t 50) (.c (.kb false))⟩,
   ⟨(some 52), none, .pick (.t 36) (.c (.kb true)) (.t 51)⟩,
   ⟨(some 2), none, .mov (.t 52)⟩])
 .ret)))
theorem i_inst_May : Is Try.prog 18 53 [.t 2] c_inst_May := ⟨Try.f18, _, p_inst_May, rfl, rfl, by kernel_rfl, by kernel_rfl, rfl⟩
def p_ballot_Cmp : List (Nat × Pl) := [(1, (.fl 0 (.fr 1 (.fl 2 (.fr 3 (.fl 5 (.fr 6 (.fl 7 (.fr 8 (.st 4 [6, 8] (.st 9 [] (.st 10 [] (.st 11 [] (.fl 12 .done))))))))))))))]
def c_ballot_Cmp : VCode :=
 (.seq (.reg [⟨(some 2), none, .box 30 (.t 0)⟩,
   ⟨(some 3), none, .box 30 (.t 1)⟩,
   ⟨(some 4), none, .mov (.c (.raw (.int .i64 0)))⟩])
 (.seq (.draw [⟨(some 5), none, .faddr 0 (.t 2)⟩,
   ⟨(some 6), none, .load none (.t 5)⟩,
   ⟨(some 7), none, .faddr 0 (.t 3)⟩,
   ⟨(some 8), none, .load none (.t 7)⟩,
   ⟨(some 9), none, .call 39 [(.t 6), (.t 8)]⟩,
   ⟨(some 10), none, .faddr 1 (.t 2)⟩,
   ⟨(some 11), none, .load none (.t 10)⟩,
   ⟨(some 12), none, .faddr 1 (.t 3)⟩,
   ⟨(some 13), none, .load none (.t 12)⟩,
   ⟨(some 14), none, .call 40 [(.t 11), (.t 13)]⟩,
   ⟨(some 15), none, .bslice 3 2 [(.int .i64 0), (.int .i64 0)] [(0, 1, (.t 9)), (1, 1, (.t 14))]⟩,
   ⟨(some 16), none, .call 38 [(.t 15)]⟩,
   ⟨(some 4), none, .mov (.t 16)⟩]
   (.fl 0 (.fr 1 (.fl 2 (.fr 3 (.fl 5 (.fr 6 (.fl 7 (.fr 8 (.st 4 [6, 8] (.st 9 [] (.st 10 [] (.st 11 [] (.fl 12 .done))))))))))))))
 .ret))
theorem i_ballot_Cmp : Is Try.prog 19 17 [.t 4] c_ballot_Cmp := ⟨Try.f19, _, p_ballot_Cmp, rfl, rfl, by kernel_rfl, by kernel_rfl, rfl⟩
def p_vec_Le : List (Nat × Pl) := [(4, (.fl 0 (.fr 1 (.fr 2 (.fl 3 (.fr 4 (.fr 5 (.fl 6 .done))))))))]
def c_vec_Le : VCode :=
 (.seq (.reg [⟨(some 2), none, .box 33 (.t 0)⟩,
   ⟨(some 3), none, .box 33 (.t 1)⟩,
   ⟨(some 4), none, .mov (.c (.kb false))⟩])
 (.seq (.seq (.reg [⟨(some 6), none, .mov (.c (.raw (.int .i64 0)))⟩])
 (.block 0 (.loop (.seq (.reg [⟨(some 7), none, .bin .lss .no (.t 6) (.c (.raw (.int .i64 7)))⟩])
  (.seq (.cond (.t 7)
   .skip
   (.exit 0))
  (.seq (.block 1 (.seq (.reg [⟨(some 8), none, .mov (.t 6)⟩,
    ⟨(some 5), none, .mov (.t 8)⟩])
  (.seq (.draw [⟨(some 9), none, .mov (.t 5)⟩,
    ⟨(some 10), none, .iaddr 1 (some 7) (.t 2) (.t 9)⟩,
    ⟨(some 11), none, .load none (.t 10)⟩,
    ⟨(some 12), none, .mov (.t 5)⟩,
    ⟨(some 13), none, .iaddr 1 (some 7) (.t 3) (.t 12)⟩,
    ⟨(some 14), none, .load none (.t 13)⟩,
    ⟨(some 15), none, .bin .gtr .no (.t 11) (.t 14)⟩]
    (.fl 0 (.fr 1 (.fr 2 (.fl 3 (.fr 4 (.fr 5 (.fl 6 .done))))))))
  (.cond (.t 15)
   (.seq (.reg [⟨(some 4), none, .mov (.c (.kb false))⟩])
   .ret)
   .skip))))
  (.reg [⟨(some 16), none, .bin .add .no (.t 6) (.c (.raw (.int .i64 1)))⟩,
    ⟨(some 6), none, .mov (.t 16)⟩])))))))
 (.seq (.reg [⟨(some 4), none, .mov (.c (.kb true))⟩])
 .ret)))
theorem i_vec_Le : Is Try.prog 20 17 [.t 4] c_vec_Le := ⟨Try.f20, _, p_vec_Le, rfl, rfl, by kernel_rfl, by kernel_rfl, rfl⟩
def p_rostrumlaw20_sameAns : List (Nat × Pl) := []
def c_rostrumlaw20_sameAns : VCode :=
 (.seq (.reg [⟨(some 2), none, .box 60 (.t 0)⟩,
   ⟨(some 3), none, .box 60 (.t 1)⟩,
   ⟨(some 4), none, .mov (.c (.kb false))⟩])
 (.seq (.reg [⟨(some 5), none, .faddr 0 (.t 2)⟩,
   ⟨(some 6), none, .load none (.t 5)⟩,
   ⟨(some 7), none, .faddr 0 (.t 3)⟩,
   ⟨(some 8), none, .load none (.t 7)⟩,
   ⟨(some 9), none, .bin .eql .b (.t 6) (.t 8)⟩,
   ⟨(some 10), none, .mov (.t 9)⟩,
   ⟨(some 11), (some (10, true)), .faddr 1 (.t 2)⟩,
   ⟨(some 12), (some (10, true)), .load (some 2) (.t 11)⟩,
   ⟨(some 13), (some (10, true)), .faddr 1 (.t 3)⟩,
   ⟨(some 14), (some (10, true)), .load (some 2) (.t 13)⟩,
   ⟨(some 15), (some (10, true)), .bin .eql (.agg [.i, .i]) (.t 12) (.t 14)⟩,
   ⟨(some 16), none, .pick (.t 10) (.t 15) (.c (.kb false))⟩,
   ⟨(some 17), none, .mov (.t 16)⟩,
   ⟨(some 18), (some (17, true)), .faddr 3 (.t 2)⟩,
   ⟨(some 19), (some (17, true)), .load (some 14) (.t 18)⟩,
   ⟨(some 20), (some (17, true)), .faddr 3 (.t 3)⟩,
   ⟨(some 21), (some (17, true)), .load (some 14) (.t 20)⟩,
   ⟨(some 22), (some (17, true)), .call 41 [(.t 19), (.t 21)]⟩,
   ⟨(some 23), none, .pick (.t 17) (.t 22) (.c (.kb false))⟩,
   ⟨(some 4), none, .mov (.t 23)⟩])
 .ret))
theorem i_rostrumlaw20_sameAns : Is Try.prog 21 24 [.t 4] c_rostrumlaw20_sameAns := ⟨Try.f21, _, p_rostrumlaw20_sameAns, rfl, rfl, by kernel_rfl, by kernel_rfl, rfl⟩
def p_rostrumlaw20_ans : List (Nat × Pl) := [(1, (.fl 0 (.fr 1 (.fl 2 (.fr 3 (.fl 5 (.fr 6 (.st 4 [1, 6] (.st 7 [1] (.fr 8 (.st 9 [] .done)))))))))))]
def c_rostrumlaw20_ans : VCode :=
 (.seq (.reg [⟨(some 1), none, .box 39 (.t 0)⟩,
   ⟨(some 2), none, .new 60 [(.bool false), (.int .i64 0), (.int .i64 0), (.int .i64 0), (.slice none 0 0), (.int .i64 0), (.int .i64 0), (.int .i64 0), (.int .i64 0), (.int .i64 0), (.int .i64 0), (.int .i64 0), (.int .i64 0), (.int .i64 0), (.int .i64 0), (.int .i64 0), (.int .i64 0)]⟩])
 (.seq (.draw [⟨(some 3), none, .faddr 0 (.t 1)⟩,
   ⟨(some 4), none, .load none (.t 3)⟩,
   ⟨(some 5), none, .faddr 1 (.t 1)⟩,
   ⟨(some 6), none, .load (some 2) (.t 5)⟩,
   ⟨(some 7), none, .call 42 [(.t 6)]⟩,
   ⟨(some 8), none, .faddr 3 (.t 1)⟩,
   ⟨(some 9), none, .load (some 14) (.t 8)⟩,
   ⟨(some 10), none, .call 43 [(.t 9)]⟩,
   ⟨(some 11), none, .build [(.bool false), (.int .i64 0), (.int .i64 0), (.int .i64 0), (.slice none 0 0), (.int .i64 0), (.int .i64 0), (.int .i64 0), (.int .i64 0), (.int .i64 0), (.int .i64 0), (.int .i64 0), (.int .i64 0), (.int .i64 0), (.int .i64 0), (.int .i64 0), (.int .i64 0)] [(0, 1, (.t 4)), (1, 2, (.t 7)), (3, 14, (.t 10))]⟩,
   ⟨none, none, .store (some 17) (.t 2) (.t 11)⟩]
   (.fl 0 (.fr 1 (.fl 2 (.fr 3 (.fl 5 (.fr 6 (.st 4 [1, 6] (.st 7 [1] (.fr 8 (.st 9 [] .done)))))))))))
 .ret))
theorem i_rostrumlaw20_ans : Is Try.prog 22 12 [.cell 2 (some 17)] c_rostrumlaw20_ans := ⟨Try.f22, _, p_rostrumlaw20_ans, rfl, rfl, by kernel_rfl, by kernel_rfl, rfl⟩
def p_inst_Table_old : List (Nat × Pl) := [(2, (.fl 0 (.fr 1 (.fl 2 (.fl 3 (.fr 4 (.fr 5 (.st 6 [1, 4] (.fr 7 (.st 8 [] (.fl 9 .done))))))))))), (7, (.fl 0 (.fr 1 (.fr 2 (.st 3 [1] (.fr 4 (.st 5 [] (.fl 6 .done)))))))), (9, (.fl 0 (.fr 1 (.fr 2 (.st 3 [1] (.fr 4 (.st 5 [] (.fl 6 .done))))))))]
def c_inst_Table_old : VCode :=
 (.seq (.reg [⟨(some 4), none, .box 35 (.t 1)⟩,
   ⟨(some 5), none, .box 37 (.t 2)⟩,
   ⟨(some 6), none, .new 39 [(.bool false), (.int .i64 0), (.int .i64 0), (.int .i64 0), (.slice none 0 0), (.int .i64 0), (.int .i64 0), (.int .i64 0), (.int .i64 0), (.int .i64 0), (.int .i64 0), (.int .i64 0), (.int .i64 0), (.int .i64 0), (.int .i64 0), (.int .i64 0), (.int .i64 0)]⟩,
   ⟨(some 7), none, .mov (.c (.kb false))⟩])
 (.seq (.block 0 (.seq (.reg [⟨(some 9), none, .faddr 0 (.t 5)⟩,
   ⟨(some 10), none, .load none (.t 9)⟩,
   ⟨(some 11), none, .bin .eql .no (.t 10) (.c (.raw (.int .i64 3)))⟩,
   ⟨(some 8), none, .mov (.t 11)⟩])
 (.cond (.t 8)
  (.seq (.draw [⟨(some 12), none, .faddr 0 (.t 4)⟩,
    ⟨(some 13), none, .load none (.t 12)⟩,
    ⟨(some 14), none, .bin .eql .no (.t 13) (.c (.raw (.int .i64 3)))⟩,
    ⟨(some 15), none, .faddr 10 (.t 5)⟩,
    ⟨(some 16), none, .load (some 2) (.t 15)⟩,
    ⟨(some 17), none, .load (some 14) (.t 5)⟩,
    ⟨(some 18), none, .call 28 [(.t 17)]⟩,
    ⟨(some 19), none, .build [(.bool false), (.int .i64 0), (.int .i64 0), (.int .i64 0), (.slice none 0 0), (.int .i64 0), (.int .i64 0), (.int .i64 0), (.int .i64 0), (.int .i64 0), (.int .i64 0), (.int .i64 0), (.int .i64 0), (.int .i64 0), (.int .i64 0), (.int .i64 0), (.int .i64 0)] [(0, 1, (.t 14)), (1, 2, (.t 16)), (3, 14, (.t 18))]⟩,
    ⟨none, none, .store (some 17) (.t 6) (.t 19)⟩,
    ⟨(some 7), none, .mov (.c (.kb true))⟩]
    (.fl 0 (.fr 1 (.fl 2 (.fl 3 (.fr 4 (.fr 5 (.st 6 [1, 4] (.fr 7 (.st 8 [] (.fl 9 .done)))))))))))
  .ret)
  (.seq (.reg [⟨(some 21), none, .faddr 0 (.t 4)⟩,
    ⟨(some 22), none, .load none (.t 21)⟩,
    ⟨(some 23), none, .bin .eql .no (.t 22) (.c (.raw (.int .i64 3)))⟩,
    ⟨(some 20), none, .mov (.t 23)⟩])
  (.cond (.t 20)
   (.seq (.reg [⟨(some 24), none, .build [(.bool false), (.int .i64 0), (.int .i64 0), (.int .i64 0), (.slice none 0 0), (.int .i64 0), (.int .i64 0), (.int .i64 0), (.int .i64 0), (.int .i64 0), (.int .i64 0), (.int .i64 0), (.int .i64 0), (.int .i64 0), (.int .i64 0), (.int .i64 0), (.int .i64 0)] []⟩,
     ⟨none, none, .store (some 17) (.t 6) (.t 24)⟩,
     ⟨(some 7), none, .mov (.c (.kb false))⟩])
   .ret)
   (.seq (.seq (.reg [⟨(some 26), none, .faddr 3 (.t 4)⟩,
     ⟨(some 27), none, .load (some 2) (.t 26)⟩,
     ⟨(some 28), none, .faddr 10 (.t 5)⟩,
     ⟨(some 29), none, .load (some 2) (.t 28)⟩,
     ⟨(some 30), none, .call 19 [(.t 27), (.t 29)]⟩,
     ⟨(some 31), none, .bin .lss .no (.t 30) (.c (.raw (.int .i64 0)))⟩,
     ⟨(some 25), none, .mov (.t 31)⟩])
   (.cond (.t 25)
    .skip
    (.reg [⟨(some 32), none, .faddr 0 (.t 4)⟩,
      ⟨(some 33), none, .load none (.t 32)⟩,
      ⟨(some 34), none, .bin .eql .no (.t 33) (.c (.raw (.int .i64 1)))⟩,
      ⟨(some 35), none, .mov (.t 34)⟩,
      ⟨(some 36), (some (35, true)), .faddr 0 (.t 5)⟩,
      ⟨(some 37), (some (35, true)), .load none (.t 36)⟩,
      ⟨(some 38), (some (35, true)), .bin .eql .no (.t 37) (.c (.raw (.int .i64 2)))⟩,
      ⟨(some 39), none, .pick (.t 35) (.t 38) (.c (.kb false))⟩,
      ⟨(some 25), none, .mov (.t 39)⟩])))
   (.cond (.t 25)
    (.seq (.draw [⟨(some 40), none, .faddr 10 (.t 5)⟩,
      ⟨(some 41), none, .load (some 2) (.t 40)⟩,
      ⟨(some 42), none, .load (some 14) (.t 5)⟩,
      ⟨(some 43), none, .call 28 [(.t 42)]⟩,
      ⟨(some 44), none, .build [(.bool false), (.int .i64 0), (.int .i64 0), (.int .i64 0), (.slice none 0 0), (.int .i64 0), (.int .i64 0), (.int .i64 0), (.int .i64 0), (.int .i64 0), (.int .i64 0), (.int .i64 0), (.int .i64 0), (.int .i64 0), (.int .i64 0), (.int .i64 0), (.int .i64 0)] [(0, 1, (.c (.kb false))), (1, 2, (.t 41)), (3, 14, (.t 43))]⟩,
      ⟨none, none, .store (some 17) (.t 6) (.t 44)⟩,
      ⟨(some 7), none, .mov (.c (.kb true))⟩]
      (.fl 0 (.fr 1 (.fr 2 (.st 3 [1] (.fr 4 (.st 5 [] (.fl 6 .done))))))))
    .ret)
    (.seq (.reg [⟨(some 46), none, .faddr 0 (.t 4)⟩,
      ⟨(some 47), none, .load none (.t 46)⟩,
      ⟨(some 48), none, .bin .eql .no (.t 47) (.c (.raw (.int .i64 1)))⟩,
      ⟨(some 49), none, .mov (.t 48)⟩,
      ⟨(some 50), (some (49, true)), .faddr 0 (.t 5)⟩,
      ⟨(some 51), (some (49, true)), .load none (.t 50)⟩,
      ⟨(some 52), (some (49, true)), .bin .eql .no (.t 51) (.c (.raw (.int .i64 1)))⟩,
      ⟨(some 53), none, .pick (.t 49) (.t 52) (.c (.kb false))⟩,
      ⟨(some 54), none, .mov (.t 53)⟩,
      ⟨(some 55), (some (54, true)), .faddr 12 (.t 5)⟩,
      ⟨(some 56), (some (54, true)), .load (some 2) (.t 55)⟩,
      ⟨(some 57), (some (54, true)), .faddr 3 (.t 4)⟩,
      ⟨(some 58), (some (54, true)), .load (some 2) (.t 57)⟩,
      ⟨(some 59), (some (54, true)), .bin .eql (.agg [.i, .i]) (.t 56) (.t 58)⟩,
      ⟨(some 60), none, .pick (.t 54) (.t 59) (.c (.kb false))⟩,
      ⟨(some 45), none, .mov (.t 60)⟩])
    (.cond (.t 45)
     (.seq (.draw [⟨(some 61), none, .faddr 10 (.t 5)⟩,
       ⟨(some 62), none, .load (some 2) (.t 61)⟩,
       ⟨(some 63), none, .load (some 14) (.t 5)⟩,
       ⟨(some 64), none, .call 28 [(.t 63)]⟩,
       ⟨(some 65), none, .build [(.bool false), (.int .i64 0), (.int .i64 0), (.int .i64 0), (.slice none 0 0), (.int .i64 0), (.int .i64 0), (.int .i64 0), (.int .i64 0), (.int .i64 0), (.int .i64 0), (.int .i64 0), (.int .i64 0), (.int .i64 0), (.int .i64 0), (.int .i64 0), (.int .i64 0)] [(0, 1, (.c (.kb true))), (1, 2, (.t 62)), (3, 14, (.t 64))]⟩,
       ⟨none, none, .store (some 17) (.t 6) (.t 65)⟩,
       ⟨(some 7), none, .mov (.c (.kb true))⟩]
       (.fl 0 (.fr 1 (.fr 2 (.st 3 [1] (.fr 4 (.st 5 [] (.fl 6 .done))))))))
     .ret)
     .skip)))))))))
 (.seq (.reg [⟨(some 66), none, .build [(.bool false), (.int .i64 0), (.int .i64 0), (.int .i64 0), (.slice none 0 0), (.int .i64 0), (.int .i64 0), (.int .i64 0), (.int .i64 0), (.int .i64 0), (.int .i64 0), (.int .i64 0), (.int .i64 0), (.int .i64 0), (.int .i64 0), (.int .i64 0), (.int .i64 0)] []⟩,
   ⟨none, none, .store (some 17) (.t 6) (.t 66)⟩,
   ⟨(some 7), none, .mov (.c (.kb false))⟩])
 .ret)))
theorem i_inst_Table_old : Is Try.prog 23 67 [.cell 6 (some 17), .t 7] c_inst_Table_old := ⟨Try.f23, _, p_inst_Table_old, rfl, rfl, by kernel_rfl, by kernel_rfl, rfl⟩
def p_bytes_Clone : List (Nat × Pl) := []
def c_bytes_Clone : VCode :=
 (.seq (.reg [⟨(some 2), none, .mov (.c (.raw (.slice none 0 0)))⟩])
 (.seq (.seq (.reg [⟨(some 3), none, .mov (.t 0)⟩,
   ⟨(some 4), none, .bin .eql .sl (.t 3) (.c (.raw (.slice none 0 0)))⟩])
 (.cond (.t 4)
  (.seq (.reg [⟨(some 2), none, .mov (.c (.raw (.slice none 0 0)))⟩])
  .ret)
  .skip))
 (.seq (.reg [⟨(some 5), none, .bslice 5 0 [] []⟩,
   ⟨(some 6), none, .mov (.t 0)⟩,
   ⟨(some 7), none, .append 5 1 1 [(.int .u8 0)] (.t 5) (.t 6)⟩,
   ⟨(some 2), none, .mov (.t 7)⟩])
 .ret)))
theorem i_bytes_Clone : Is Try.prog 24 8 [.t 2] c_bytes_Clone := ⟨Try.f24, _, p_bytes_Clone, rfl, rfl, by kernel_rfl, by kernel_rfl, rfl⟩
def p_inst_Table_Would : List (Nat × Pl) := [(7, (.fl 0 (.fr 1 (.fl 2 (.fr 3 (.fr 4 (.fr 5 (.fl 6 (.fr 7 (.fl 8 (.fr 9 (.st 10 [] .done)))))))))))), (8, (.fl 0 (.fr 1 (.fl 2 (.st 3 [] .done)))))]
def c_inst_Table_Would : VCode :=
 (.seq (.reg [⟨(some 3), none, .box 24 (.t 1)⟩,
   ⟨(some 4), none, .mov (.c (.raw (.int .i64 0)))⟩,
   ⟨(some 5), none, .new 33 [(.int .i64 0), (.int .i64 0), (.int .i64 0), (.int .i64 0), (.int .i64 0), (.int .i64 0), (.int .i64 0)]⟩])
 (.seq (.reg [⟨(some 10), none, .build [(.int .i64 0), (.int .i64 0), (.int .i64 0), (.int .i64 0), (.int .i64 0), (.int .i64 0), (.int .i64 0)] []⟩,
   ⟨(some 7), none, .new 33 [(.int .i64 0), (.int .i64 0), (.int .i64 0), (.int .i64 0), (.int .i64 0), (.int .i64 0), (.int .i64 0)]⟩,
   ⟨(some 6), none, .mov (.c (.raw (.int .i64 0)))⟩,
   ⟨none, none, .store (some 7) (.t 7) (.t 10)⟩])
 (.seq (.seq (.reg [⟨(some 11), none, .mov (.t 0)⟩,
   ⟨(some 12), none, .nilck (.t 11)⟩,
   ⟨(some 13), none, .faddr 0 (.t 12)⟩,
   ⟨(some 14), none, .load none (.t 13)⟩,
   ⟨(some 15), none, .range false (.t 14)⟩])
 (.block 0 (.loop (.seq (.reg [⟨(some 16), none, .next false (.t 15)⟩,
    ⟨(some 17), none, .extr (.t 16) 0⟩])
  (.seq (.cond (.t 17)
   .skip
   (.exit 0))
  (.block 1 (.seq (.reg [⟨(some 18), none, .entry (.t 15)⟩,
    ⟨(some 19), none, .extr (.t 18) 0⟩,
    ⟨(some 20), none, .extr (.t 18) 1⟩,
    ⟨(some 8), none, .new 24 [(.int .i64 0), (.int .i64 0)]⟩,
    ⟨(some 9), none, .new 37 [(.int .i64 0), (.slice none 0 0), (.int .i64 0), (.int .i64 0), (.int .i64 0), (.int .i64 0), (.int .i64 0), (.int .i64 0), (.int .i64 0), (.int .i64 0), (.int .i64 0), (.int .i64 0), (.int .i64 0), (.int .i64 0)]⟩,
    ⟨none, none, .store (some 2) (.t 8) (.t 19)⟩,
    ⟨none, none, .store (some 14) (.t 9) (.t 20)⟩])
  (.seq (.seq (.reg [⟨(some 21), none, .load (some 2) (.t 8)⟩,
    ⟨(some 22), none, .load (some 2) (.t 3)⟩,
    ⟨(some 23), none, .bin .eql (.agg [.i, .i]) (.t 21) (.t 22)⟩,
    ⟨(some 24), none, .mov (.t 23)⟩,
    ⟨(some 25), (some (24, false)), .faddr 0 (.t 9)⟩,
    ⟨(some 26), (some (24, false)), .load none (.t 25)⟩,
    ⟨(some 27), (some (24, false)), .bin .eql .no (.t 26) (.c (.raw (.int .i64 0)))⟩,
    ⟨(some 28), none, .pick (.t 24) (.c (.kb true)) (.t 27)⟩])
  (.cond (.t 28)
   (.exit 1)
   .skip))
  (.seq (.reg [⟨(some 29), none, .mov (.t 6)⟩,
    ⟨(some 30), none, .faddr 2 (.t 9)⟩,
    ⟨(some 31), none, .load none (.t 30)⟩,
    ⟨(some 32), none, .bin .add .no (.t 31) (.c (.raw (.int .i64 1)))⟩,
    ⟨(some 33), none, .max (.t 29) (.t 32)⟩,
    ⟨(some 6), none, .mov (.t 33)⟩])
  (.draw [⟨(some 34), none, .faddr 0 (.t 8)⟩,
    ⟨(some 35), none, .load none (.t 34)⟩,
    ⟨(some 36), none, .faddr 0 (.t 8)⟩,
    ⟨(some 37), none, .load none (.t 36)⟩,
    ⟨(some 38), none, .iaddr 1 (some 7) (.t 7) (.t 37)⟩,
    ⟨(some 39), none, .load none (.t 38)⟩,
    ⟨(some 40), none, .faddr 1 (.t 8)⟩,
    ⟨(some 41), none, .load none (.t 40)⟩,
    ⟨(some 42), none, .max (.t 39) (.t 41)⟩,
    ⟨(some 43), none, .iaddr 1 (some 7) (.t 7) (.t 35)⟩,
    ⟨none, none, .store none (.t 43) (.t 42)⟩]
    (.fl 0 (.fr 1 (.fl 2 (.fr 3 (.fr 4 (.fr 5 (.fl 6 (.fr 7 (.fl 8 (.fr 9 (.st 10 [] .done)))))))))))))))))))))
 (.seq (.draw [⟨(some 44), none, .mov (.t 6)⟩,
   ⟨(some 45), none, .load (some 7) (.t 7)⟩,
   ⟨(some 4), none, .mov (.t 44)⟩,
   ⟨none, none, .store (some 7) (.t 5) (.t 45)⟩]
   (.fl 0 (.fr 1 (.fl 2 (.st 3 [] .done)))))
 .ret))))
theorem i_inst_Table_Would : Is Try.prog 25 46 [.t 4, .cell 5 (some 7)] c_inst_Table_Would := ⟨Try.f25, _, p_inst_Table_Would, rfl, rfl, by kernel_rfl, by kernel_rfl, rfl⟩
def p_vec_Merge : List (Nat × Pl) := [(4, (.fl 0 (.fl 1 (.fr 2 (.fr 3 (.fl 4 (.fr 5 (.fr 6 (.fl 7 (.fr 8 (.st 9 [] .done)))))))))))]
def c_vec_Merge : VCode :=
 (.seq (.reg [⟨(some 2), none, .box 33 (.t 0)⟩,
   ⟨(some 3), none, .box 33 (.t 1)⟩,
   ⟨(some 4), none, .new 33 [(.int .i64 0), (.int .i64 0), (.int .i64 0), (.int .i64 0), (.int .i64 0), (.int .i64 0), (.int .i64 0)]⟩])
 (.seq (.seq (.reg [⟨(some 6), none, .mov (.c (.raw (.int .i64 0)))⟩])
 (.block 0 (.loop (.seq (.reg [⟨(some 7), none, .bin .lss .no (.t 6) (.c (.raw (.int .i64 7)))⟩])
  (.seq (.cond (.t 7)
   .skip
   (.exit 0))
  (.seq (.block 1 (.seq (.reg [⟨(some 8), none, .mov (.t 6)⟩,
    ⟨(some 5), none, .mov (.t 8)⟩])
  (.draw [⟨(some 9), none, .mov (.t 5)⟩,
    ⟨(some 10), none, .mov (.t 5)⟩,
    ⟨(some 11), none, .iaddr 1 (some 7) (.t 2) (.t 10)⟩,
    ⟨(some 12), none, .load none (.t 11)⟩,
    ⟨(some 13), none, .mov (.t 5)⟩,
    ⟨(some 14), none, .iaddr 1 (some 7) (.t 3) (.t 13)⟩,
    ⟨(some 15), none, .load none (.t 14)⟩,
    ⟨(some 16), none, .max (.t 12) (.t 15)⟩,
    ⟨(some 17), none, .iaddr 1 (some 7) (.t 2) (.t 9)⟩,
    ⟨none, none, .store none (.t 17) (.t 16)⟩]
    (.fl 0 (.fl 1 (.fr 2 (.fr 3 (.fl 4 (.fr 5 (.fr 6 (.fl 7 (.fr 8 (.st 9 [] .done)))))))))))))
  (.reg [⟨(some 18), none, .bin .add .no (.t 6) (.c (.raw (.int .i64 1)))⟩,
    ⟨(some 6), none, .mov (.t 18)⟩])))))))
 (.seq (.reg [⟨(some 19), none, .load (some 7) (.t 2)⟩,
   ⟨none, none, .store (some 7) (.t 4) (.t 19)⟩])
 .ret)))
theorem i_vec_Merge : Is Try.prog 26 20 [.cell 4 (some 7)] c_vec_Merge := ⟨Try.f26, _, p_vec_Merge, rfl, rfl, by kernel_rfl, by kernel_rfl, rfl⟩
def p_ballot_Most : List (Nat × Pl) := []
def c_ballot_Most : VCode :=
 (.seq (.reg [⟨(some 2), none, .new 30 [(.int .i64 0), (.int .i64 0)]⟩])
 (.seq (.seq (.reg [⟨(some 6), none, .mov (.t 0)⟩,
   ⟨(some 7), none, .len .sl (.t 6)⟩,
   ⟨(some 8), none, .bin .eql .no (.t 7) (.c (.raw (.int .i64 0)))⟩])
 (.cond (.t 8)
  (.seq (.reg [⟨(some 9), none, .build [(.int .i64 0), (.int .i64 0)] []⟩,
    ⟨none, none, .store (some 2) (.t 2) (.t 9)⟩])
  .ret)
  .skip))
 (.seq (.reg [⟨(some 10), none, .mov (.t 0)⟩,
   ⟨(some 11), none, .iaddr 2 none (.t 10) (.c (.raw (.int .i64 0)))⟩,
   ⟨(some 12), none, .load (some 2) (.t 11)⟩,
   ⟨(some 3), none, .new 30 [(.int .i64 0), (.int .i64 0)]⟩,
   ⟨none, none, .store (some 2) (.t 3) (.t 12)⟩])
 (.seq (.seq (.reg [⟨(some 13), none, .mov (.t 0)⟩,
   ⟨(some 14), none, .len .sl (.t 13)⟩,
   ⟨(some 15), none, .mov (.c (.raw (.int .i64 0)))⟩])
 (.block 0 (.loop (.seq (.reg [⟨(some 16), none, .bin .lss .no (.t 15) (.t 14)⟩])
  (.seq (.cond (.t 16)
   .skip
   (.exit 0))
  (.seq (.block 1 (.seq (.reg [⟨(some 17), none, .iaddr 2 none (.t 13) (.t 15)⟩,
    ⟨(some 18), none, .load (some 2) (.t 17)⟩,
    ⟨(some 5), none, .new 30 [(.int .i64 0), (.int .i64 0)]⟩,
    ⟨none, none, .store (some 2) (.t 5) (.t 18)⟩])
  (.seq (.reg [⟨(some 19), none, .load (some 2) (.t 5)⟩,
    ⟨(some 20), none, .load (some 2) (.t 3)⟩,
    ⟨(some 21), none, .call 19 [(.t 19), (.t 20)]⟩,
    ⟨(some 22), none, .bin .gtr .no (.t 21) (.c (.raw (.int .i64 0)))⟩])
  (.cond (.t 22)
   (.reg [⟨(some 23), none, .load (some 2) (.t 5)⟩,
     ⟨none, none, .store (some 2) (.t 3) (.t 23)⟩])
   .skip))))
  (.reg [⟨(some 24), none, .bin .add .no (.t 15) (.c (.raw (.int .i64 1)))⟩,
    ⟨(some 15), none, .mov (.t 24)⟩])))))))
 (.seq (.reg [⟨(some 25), none, .load (some 2) (.t 3)⟩,
   ⟨none, none, .store (some 2) (.t 2) (.t 25)⟩])
 .ret)))))
theorem i_ballot_Most : Is Try.prog 27 26 [.cell 2 (some 2)] c_ballot_Most := ⟨Try.f27, _, p_ballot_Most, rfl, rfl, by kernel_rfl, by kernel_rfl, rfl⟩
def p_inst_copied : List (Nat × Pl) := []
def c_inst_copied : VCode :=
 (.seq (.reg [⟨(some 1), none, .box 37 (.t 0)⟩,
   ⟨(some 2), none, .new 37 [(.int .i64 0), (.slice none 0 0), (.int .i64 0), (.int .i64 0), (.int .i64 0), (.int .i64 0), (.int .i64 0), (.int .i64 0), (.int .i64 0), (.int .i64 0), (.int .i64 0), (.int .i64 0), (.int .i64 0), (.int .i64 0)]⟩])
 (.seq (.reg [⟨(some 3), none, .faddr 1 (.t 1)⟩,
   ⟨(some 4), none, .load none (.t 3)⟩,
   ⟨(some 5), none, .call 24 [(.t 4)]⟩,
   ⟨(some 6), none, .faddr 1 (.t 1)⟩,
   ⟨none, none, .store none (.t 6) (.t 5)⟩])
 (.seq (.reg [⟨(some 7), none, .load (some 14) (.t 1)⟩,
   ⟨none, none, .store (some 14) (.t 2) (.t 7)⟩])
 .ret)))
theorem i_inst_copied : Is Try.prog 28 8 [.cell 2 (some 14)] c_inst_copied := ⟨Try.f28, _, p_inst_copied, rfl, rfl, by kernel_rfl, by kernel_rfl, rfl⟩
def p_bytes_Equal : List (Nat × Pl) := []
def c_bytes_Equal : VCode :=
 (.seq (.reg [⟨(some 4), none, .mov (.c (.kb false))⟩])
 (.seq (.reg [⟨(some 5), none, .mov (.t 0)⟩,
   ⟨(some 6), none, .conv .b2s (.t 5)⟩,
   ⟨(some 7), none, .mov (.t 1)⟩,
   ⟨(some 8), none, .conv .b2s (.t 7)⟩,
   ⟨(some 9), none, .bin .eql .no (.t 6) (.t 8)⟩,
   ⟨(some 4), none, .mov (.t 9)⟩])
 .ret))
theorem i_bytes_Equal : Is Try.prog 29 10 [.t 4] c_bytes_Equal := ⟨Try.f29, _, p_bytes_Equal, rfl, rfl, by kernel_rfl, by kernel_rfl, rfl⟩
def p_inst_Dot : List (Nat × Pl) := []
def c_inst_Dot : VCode :=
 (.seq (.reg [⟨(some 1), none, .box 24 (.t 0)⟩,
   ⟨(some 2), none, .mov (.c (.kb false))⟩])
 (.seq (.reg [⟨(some 3), none, .faddr 0 (.t 1)⟩,
   ⟨(some 4), none, .load none (.t 3)⟩,
   ⟨(some 5), none, .call 44 [(.t 4)]⟩,
   ⟨(some 6), none, .mov (.t 5)⟩,
   ⟨(some 7), (some (6, true)), .faddr 1 (.t 1)⟩,
   ⟨(some 8), (some (6, true)), .load none (.t 7)⟩,
   ⟨(some 9), (some (6, true)), .bin .geq .no (.t 8) (.c (.raw (.int .i64 1)))⟩,
   ⟨(some 10), none, .pick (.t 6) (.t 9) (.c (.kb false))⟩,
   ⟨(some 11), none, .mov (.t 10)⟩,
   ⟨(some 12), (some (11, true)), .faddr 1 (.t 1)⟩,
   ⟨(some 13), (some (11, true)), .load none (.t 12)⟩,
   ⟨(some 14), (some (11, true)), .bin .leq .no (.t 13) (.c (.raw (.int .i64 1000)))⟩,
   ⟨(some 15), none, .pick (.t 11) (.t 14) (.c (.kb false))⟩,
   ⟨(some 2), none, .mov (.t 15)⟩])
 .ret))
theorem i_inst_Dot : Is Try.prog 30 16 [.t 2] c_inst_Dot := ⟨Try.f30, _, p_inst_Dot, rfl, rfl, by kernel_rfl, by kernel_rfl, rfl⟩
def p_inst_content : List (Nat × Pl) := []
def c_inst_content : VCode :=
 (.seq (.reg [⟨(some 5), none, .box 33 (.t 2)⟩,
   ⟨(some 6), none, .mov (.c (.kb false))⟩])
 (.seq (.seq (.reg [⟨(some 9), none, .load (some 7) (.t 5)⟩,
   ⟨(some 10), none, .mov (.c (.raw (.int .i64 0)))⟩])
 (.block 0 (.loop (.seq (.reg [⟨(some 11), none, .bin .lss .no (.t 10) (.c (.raw (.int .i64 7)))⟩])
  (.seq (.cond (.t 11)
   .skip
   (.exit 0))
  (.seq (.block 1 (.seq (.reg [⟨(some 12), none, .aindex 7 1 false (.t 9) (.t 10)⟩,
    ⟨(some 8), none, .mov (.t 12)⟩])
  (.seq (.reg [⟨(some 13), none, .mov (.t 8)⟩,
    ⟨(some 14), none, .bin .lss .no (.t 13) (.c (.raw (.int .i64 0)))⟩,
    ⟨(some 15), none, .mov (.t 14)⟩,
    ⟨(some 16), (some (15, false)), .mov (.t 8)⟩,
    ⟨(some 17), (some (15, false)), .bin .gtr .no (.t 16) (.c (.raw (.int .i64 1000)))⟩,
    ⟨(some 18), none, .pick (.t 15) (.c (.kb true)) (.t 17)⟩])
  (.cond (.t 18)
   (.seq (.reg [⟨(some 6), none, .mov (.c (.kb false))⟩])
   .ret)
   .skip))))
  (.reg [⟨(some 19), none, .bin .add .no (.t 10) (.c (.raw (.int .i64 1)))⟩,
    ⟨(some 10), none, .mov (.t 19)⟩])))))))
 (.seq (.reg [⟨(some 20), none, .mov (.t 1)⟩,
   ⟨(some 21), none, .bin .geq .no (.t 20) (.c (.raw (.int .i64 0)))⟩,
   ⟨(some 22), none, .mov (.t 21)⟩,
   ⟨(some 23), (some (22, true)), .mov (.t 1)⟩,
   ⟨(some 24), (some (22, true)), .bin .leq .no (.t 23) (.c (.raw (.int .i64 1099511627776)))⟩,
   ⟨(some 25), none, .pick (.t 22) (.t 24) (.c (.kb false))⟩,
   ⟨(some 26), none, .mov (.t 25)⟩,
   ⟨(some 27), (some (26, true)), .mov (.t 0)⟩,
   ⟨(some 28), (some (26, true)), .len .sl (.t 27)⟩,
   ⟨(some 29), (some (26, true)), .bin .leq .no (.t 28) (.c (.raw (.int .i64 300)))⟩,
   ⟨(some 30), none, .pick (.t 26) (.t 29) (.c (.kb false))⟩,
   ⟨(some 6), none, .mov (.t 30)⟩])
 .ret)))
theorem i_inst_content : Is Try.prog 31 31 [.t 6] c_inst_content := ⟨Try.f31, _, p_inst_content, rfl, rfl, by kernel_rfl, by kernel_rfl, rfl⟩
def p_ballot_Good : List (Nat × Pl) := []
def c_ballot_Good : VCode :=
 (.seq (.reg [⟨(some 1), none, .box 30 (.t 0)⟩,
   ⟨(some 2), none, .mov (.c (.kb false))⟩])
 (.seq (.reg [⟨(some 3), none, .faddr 0 (.t 1)⟩,
   ⟨(some 4), none, .load none (.t 3)⟩,
   ⟨(some 5), none, .bin .geq .no (.t 4) (.c (.raw (.int .i64 0)))⟩,
   ⟨(some 6), none, .mov (.t 5)⟩,
   ⟨(some 7), (some (6, true)), .faddr 0 (.t 1)⟩,
   ⟨(some 8), (some (6, true)), .load none (.t 7)⟩,
   ⟨(some 9), (some (6, true)), .bin .leq .no (.t 8) (.c (.raw (.int .i64 1099511627776)))⟩,
   ⟨(some 10), none, .pick (.t 6) (.t 9) (.c (.kb false))⟩,
   ⟨(some 11), none, .mov (.t 10)⟩,
   ⟨(some 12), (some (11, true)), .faddr 1 (.t 1)⟩,
   ⟨(some 13), (some (11, true)), .load none (.t 12)⟩,
   ⟨(some 14), (some (11, true)), .call 45 [(.t 13)]⟩,
   ⟨(some 15), none, .pick (.t 11) (.t 14) (.c (.kb false))⟩,
   ⟨(some 2), none, .mov (.t 15)⟩])
 .ret))
theorem i_ballot_Good : Is Try.prog 32 16 [.t 2] c_ballot_Good := ⟨Try.f32, _, p_ballot_Good, rfl, rfl, by kernel_rfl, by kernel_rfl, rfl⟩
def p_slices_SortedFunc_api_Dot : List (Nat × Pl) := []
def c_slices_SortedFunc_api_Dot : VCode :=
 (.seq (.reg [⟨(some 4), none, .mov (.c (.raw (.slice none 0 0)))⟩])
 (.seq (.reg [⟨(some 6), none, .mov (.t 0)⟩,
   ⟨(some 7), none, .call 46 [(.t 6)]⟩,
   ⟨(some 5), none, .mov (.t 7)⟩])
 (.seq (.reg [⟨(some 8), none, .mov (.t 5)⟩,
   ⟨(some 9), none, .mov (.t 1)⟩,
   ⟨(some 10), none, .call 47 [(.t 8), (.t 9)]⟩])
 (.seq (.reg [⟨(some 11), none, .mov (.t 5)⟩,
   ⟨(some 4), none, .mov (.t 11)⟩])
 .ret))))
theorem i_slices_SortedFunc_api_Dot : Is Try.prog 33 12 [.t 4] c_slices_SortedFunc_api_Dot := ⟨Try.f33, _, p_slices_SortedFunc_api_Dot, rfl, rfl, by kernel_rfl, by kernel_rfl, rfl⟩
def p_maps_Keys_map_api_Dot_inst_Rec_api_Dot_inst_Rec : List (Nat × Pl) := []
def c_maps_Keys_map_api_Dot_inst_Rec_api_Dot_inst_Rec : VCode :=
 (.seq (.reg [⟨(some 1), none, .box 63 (.t 0)⟩,
   ⟨(some 2), none, .mov (.c (.raw .nilFunc))⟩])
 (.seq (.reg [⟨(some 3), none, .mkfn 48 [(.t 1)]⟩,
   ⟨(some 2), none, .mov (.t 3)⟩])
 .ret))
theorem i_maps_Keys_map_api_Dot_inst_Rec_api_Dot_inst_Rec : Is Try.prog 34 4 [.t 2] c_maps_Keys_map_api_Dot_inst_Rec_api_Dot_inst_Rec := ⟨Try.f34, _, p_maps_Keys_map_api_Dot_inst_Rec_api_Dot_inst_Rec, rfl, rfl, by kernel_rfl, by kernel_rfl, rfl⟩
def p_dots_Order : List (Nat × Pl) := [(1, (.fl 0 (.fr 1 (.fl 2 (.fr 3 (.fl 5 (.fr 6 (.fl 7 (.fr 8 (.st 4 [6, 8] (.st 9 [] (.st 10 [] (.st 11 [] (.fl 12 .done))))))))))))))]
def c_dots_Order : VCode :=
 (.seq (.reg [⟨(some 2), none, .box 24 (.t 0)⟩,
   ⟨(some 3), none, .box 24 (.t 1)⟩,
   ⟨(some 4), none, .mov (.c (.raw (.int .i64 0)))⟩])
 (.seq (.draw [⟨(some 5), none, .faddr 0 (.t 2)⟩,
   ⟨(some 6), none, .load none (.t 5)⟩,
   ⟨(some 7), none, .faddr 0 (.t 3)⟩,
   ⟨(some 8), none, .load none (.t 7)⟩,
   ⟨(some 9), none, .call 40 [(.t 6), (.t 8)]⟩,
   ⟨(some 10), none, .faddr 1 (.t 2)⟩,
   ⟨(some 11), none, .load none (.t 10)⟩,
   ⟨(some 12), none, .faddr 1 (.t 3)⟩,
   ⟨(some 13), none, .load none (.t 12)⟩,
   ⟨(some 14), none, .call 39 [(.t 11), (.t 13)]⟩,
   ⟨(some 15), none, .bslice 3 2 [(.int .i64 0), (.int .i64 0)] [(0, 1, (.t 9)), (1, 1, (.t 14))]⟩,
   ⟨(some 16), none, .call 38 [(.t 15)]⟩,
   ⟨(some 4), none, .mov (.t 16)⟩]
   (.fl 0 (.fr 1 (.fl 2 (.fr 3 (.fl 5 (.fr 6 (.fl 7 (.fr 8 (.st 4 [6, 8] (.st 9 [] (.st 10 [] (.st 11 [] (.fl 12 .done))))))))))))))
 .ret))
theorem i_dots_Order : Is Try.prog 35 17 [.t 4] c_dots_Order := ⟨Try.f35, _, p_dots_Order, rfl, rfl, by kernel_rfl, by kernel_rfl, rfl⟩
def p_slices_DeleteFunc_sl_api_Dot_api_Dot : List (Nat × Pl) := []
def c_slices_DeleteFunc_sl_api_Dot_api_Dot : VCode :=
 (.seq (.reg [⟨(some 4), none, .mov (.c (.raw (.slice none 0 0)))⟩])
 (.seq (.reg [⟨(some 8), none, .mov (.t 0)⟩,
   ⟨(some 9), none, .mov (.t 1)⟩,
   ⟨(some 10), none, .call 49 [(.t 8), (.t 9)]⟩,
   ⟨(some 5), none, .mov (.t 10)⟩])
 (.seq (.seq (.reg [⟨(some 11), none, .mov (.t 5)⟩,
   ⟨(some 12), none, .bin .eql .no (.t 11) (.c (.raw (.int .i64 (-1))))⟩])
 (.cond (.t 12)
  (.seq (.reg [⟨(some 13), none, .mov (.t 0)⟩,
    ⟨(some 4), none, .mov (.t 13)⟩])
  .ret)
  .skip))
 (.seq (.seq (.reg [⟨(some 14), none, .mov (.t 5)⟩,
   ⟨(some 15), none, .bin .add .no (.t 14) (.c (.raw (.int .i64 1)))⟩,
   ⟨(some 6), none, .mov (.t 15)⟩])
 (.block 0 (.loop (.seq (.seq (.reg [⟨(some 16), none, .mov (.t 6)⟩,
    ⟨(some 17), none, .mov (.t 0)⟩,
    ⟨(some 18), none, .len .sl (.t 17)⟩,
    ⟨(some 19), none, .bin .lss .no (.t 16) (.t 18)⟩])
  (.cond (.t 19)
   .skip
   (.exit 0)))
  (.seq (.block 1 (.seq (.reg [⟨(some 22), none, .mov (.t 0)⟩,
    ⟨(some 23), none, .mov (.t 6)⟩,
    ⟨(some 24), none, .iaddr 2 none (.t 22) (.t 23)⟩,
    ⟨(some 25), none, .load (some 2) (.t 24)⟩,
    ⟨(some 7), none, .new 24 [(.int .i64 0), (.int .i64 0)]⟩,
    ⟨none, none, .store (some 2) (.t 7) (.t 25)⟩])
  (.seq (.reg [⟨(some 26), none, .mov (.t 1)⟩,
    ⟨(some 27), none, .load (some 2) (.t 7)⟩,
    ⟨(some 28), none, .callv (.t 26) [(.t 27)]⟩,
    ⟨(some 29), none, .un .not (.t 28)⟩])
  (.cond (.t 29)
   (.seq (.reg [⟨(some 30), none, .mov (.t 0)⟩,
     ⟨(some 31), none, .mov (.t 5)⟩,
     ⟨(some 32), none, .load (some 2) (.t 7)⟩,
     ⟨(some 33), none, .iaddr 2 none (.t 30) (.t 31)⟩,
     ⟨none, none, .store (some 2) (.t 33) (.t 32)⟩])
   (.reg [⟨(some 34), none, .mov (.t 5)⟩,
     ⟨(some 35), none, .bin .add .no (.t 34) (.c (.raw (.int .i64 1)))⟩,
     ⟨(some 5), none, .mov (.t 35)⟩]))
   .skip))))
  (.reg [⟨(some 20), none, .mov (.t 6)⟩,
    ⟨(some 21), none, .bin .add .no (.t 20) (.c (.raw (.int .i64 1)))⟩,
    ⟨(some 6), none, .mov (.t 21)⟩]))))))
 (.seq (.reg [⟨(some 36), none, .mov (.t 0)⟩,
   ⟨(some 37), none, .mov (.t 5)⟩,
   ⟨(some 38), none, .slice (some 2) (.t 36) (some (.t 37)) none⟩,
   ⟨none, none, .clear 2 [(.int .i64 0), (.int .i64 0)] (.t 38)⟩])
 (.seq (.reg [⟨(some 39), none, .mov (.t 0)⟩,
   ⟨(some 40), none, .mov (.t 5)⟩,
   ⟨(some 41), none, .slice (some 2) (.t 39) none (some (.t 40))⟩,
   ⟨(some 4), none, .mov (.t 41)⟩])
 .ret))))))
theorem i_slices_DeleteFunc_sl_api_Dot_api_Dot : Is Try.prog 36 42 [.t 4] c_slices_DeleteFunc_sl_api_Dot_api_Dot := ⟨Try.f36, _, p_slices_DeleteFunc_sl_api_Dot_api_Dot, rfl, rfl, by kernel_rfl, by kernel_rfl, rfl⟩
def p_inst_Table_All_1 : List (Nat × Pl) := [(1, (.fr 0 (.fr 1 (.fl 2 (.fr 3 (.fr 4 (.fr 5 (.fl 6 (.fl 7 (.fl 8 .done))))))))))]
def c_inst_Table_All_1 : VCode :=
 (.seq (.reg [⟨(some 2), none, .box 24 (.t 0)⟩,
   ⟨(some 3), none, .mov (.c (.kb false))⟩])
 (.seq (.draw [⟨(some 4), none, .load none (.t 1)⟩,
   ⟨(some 5), none, .nilck (.t 4)⟩,
   ⟨(some 6), none, .faddr 0 (.t 5)⟩,
   ⟨(some 7), none, .load none (.t 6)⟩,
   ⟨(some 8), none, .load (some 2) (.t 2)⟩,
   ⟨(some 9), none, .lookup 63 false (.t 7) (.t 8)⟩,
   ⟨(some 10), none, .field 0 none (.t 9)⟩,
   ⟨(some 11), none, .bin .eql .no (.t 10) (.c (.raw (.int .i64 0)))⟩,
   ⟨(some 3), none, .mov (.t 11)⟩]
   (.fr 0 (.fr 1 (.fl 2 (.fr 3 (.fr 4 (.fr 5 (.fl 6 (.fl 7 (.fl 8 .done))))))))))
 .ret))
theorem i_inst_Table_All_1 : Is Try.prog 37 12 [.t 3] c_inst_Table_All_1 := ⟨Try.f37, _, p_inst_Table_All_1, rfl, rfl, by kernel_rfl, by kernel_rfl, rfl⟩
def p_cmp_Or_int : List (Nat × Pl) := []
def c_cmp_Or_int : VCode :=
 (.seq (.reg [⟨(some 2), none, .mov (.c (.raw (.int .i64 0)))⟩])
 (.seq (.reg [⟨(some 3), none, .mov (.c (.raw (.int .i64 0)))⟩])
 (.seq (.seq (.reg [⟨(some 6), none, .mov (.t 0)⟩,
   ⟨(some 7), none, .len .sl (.t 6)⟩,
   ⟨(some 8), none, .mov (.c (.raw (.int .i64 0)))⟩])
 (.block 0 (.loop (.seq (.reg [⟨(some 9), none, .bin .lss .no (.t 8) (.t 7)⟩])
  (.seq (.cond (.t 9)
   .skip
   (.exit 0))
  (.seq (.block 1 (.seq (.reg [⟨(some 10), none, .iaddr 1 none (.t 6) (.t 8)⟩,
    ⟨(some 11), none, .load none (.t 10)⟩,
    ⟨(some 5), none, .mov (.t 11)⟩])
  (.seq (.reg [⟨(some 12), none, .mov (.t 5)⟩,
    ⟨(some 13), none, .mov (.t 3)⟩,
    ⟨(some 14), none, .bin .neq .no (.t 12) (.t 13)⟩])
  (.cond (.t 14)
   (.seq (.reg [⟨(some 15), none, .mov (.t 5)⟩,
     ⟨(some 2), none, .mov (.t 15)⟩])
   .ret)
   .skip))))
  (.reg [⟨(some 16), none, .bin .add .no (.t 8) (.c (.raw (.int .i64 1)))⟩,
    ⟨(some 8), none, .mov (.t 16)⟩])))))))
 (.seq (.reg [⟨(some 17), none, .mov (.t 3)⟩,
   ⟨(some 2), none, .mov (.t 17)⟩])
 .ret))))
theorem i_cmp_Or_int : Is Try.prog 38 18 [.t 2] c_cmp_Or_int := ⟨Try.f38, _, p_cmp_Or_int, rfl, rfl, by kernel_rfl, by kernel_rfl, rfl⟩
def p_cmp_Compare_int64 : List (Nat × Pl) := []
def c_cmp_Compare_int64 : VCode :=
 (.seq (.reg [⟨(some 4), none, .mov (.c (.raw (.int .i64 0)))⟩])
 (.seq (.reg [⟨(some 7), none, .mov (.t 0)⟩,
   ⟨(some 8), none, .call 50 [(.t 7)]⟩,
   ⟨(some 5), none, .mov (.t 8)⟩])
 (.seq (.reg [⟨(some 9), none, .mov (.t 1)⟩,
   ⟨(some 10), none, .call 50 [(.t 9)]⟩,
   ⟨(some 6), none, .mov (.t 10)⟩])
 (.seq (.seq (.reg [⟨(some 11), none, .mov (.t 5)⟩])
 (.cond (.t 11)
  (.seq (.seq (.reg [⟨(some 12), none, .mov (.t 6)⟩])
  (.cond (.t 12)
   (.seq (.reg [⟨(some 4), none, .mov (.c (.raw (.int .i64 0)))⟩])
   .ret)
   .skip))
  (.seq (.reg [⟨(some 4), none, .mov (.c (.raw (.int .i64 (-1))))⟩])
  .ret))
  .skip))
 (.seq (.seq (.reg [⟨(some 13), none, .mov (.t 6)⟩])
 (.cond (.t 13)
  (.seq (.reg [⟨(some 4), none, .mov (.c (.raw (.int .i64 1)))⟩])
  .ret)
  .skip))
 (.seq (.seq (.reg [⟨(some 14), none, .mov (.t 0)⟩,
   ⟨(some 15), none, .mov (.t 1)⟩,
   ⟨(some 16), none, .bin .lss .no (.t 14) (.t 15)⟩])
 (.cond (.t 16)
  (.seq (.reg [⟨(some 4), none, .mov (.c (.raw (.int .i64 (-1))))⟩])
  .ret)
  .skip))
 (.seq (.seq (.reg [⟨(some 17), none, .mov (.t 0)⟩,
   ⟨(some 18), none, .mov (.t 1)⟩,
   ⟨(some 19), none, .bin .gtr .no (.t 17) (.t 18)⟩])
 (.cond (.t 19)
  (.seq (.reg [⟨(some 4), none, .mov (.c (.raw (.int .i64 1)))⟩])
  .ret)
  .skip))
 (.seq (.reg [⟨(some 4), none, .mov (.c (.raw (.int .i64 0)))⟩])
 .ret))))))))
theorem i_cmp_Compare_int64 : Is Try.prog 39 20 [.t 4] c_cmp_Compare_int64 := ⟨Try.f39, _, p_cmp_Compare_int64, rfl, rfl, by kernel_rfl, by kernel_rfl, rfl⟩
def p_cmp_Compare_int : List (Nat × Pl) := []
def c_cmp_Compare_int : VCode :=
 (.seq (.reg [⟨(some 4), none, .mov (.c (.raw (.int .i64 0)))⟩])
 (.seq (.reg [⟨(some 7), none, .mov (.t 0)⟩,
   ⟨(some 8), none, .call 51 [(.t 7)]⟩,
   ⟨(some 5), none, .mov (.t 8)⟩])
 (.seq (.reg [⟨(some 9), none, .mov (.t 1)⟩,
   ⟨(some 10), none, .call 51 [(.t 9)]⟩,
   ⟨(some 6), none, .mov (.t 10)⟩])
 (.seq (.seq (.reg [⟨(some 11), none, .mov (.t 5)⟩])
 (.cond (.t 11)
  (.seq (.seq (.reg [⟨(some 12), none, .mov (.t 6)⟩])
  (.cond (.t 12)
   (.seq (.reg [⟨(some 4), none, .mov (.c (.raw (.int .i64 0)))⟩])
   .ret)
   .skip))
  (.seq (.reg [⟨(some 4), none, .mov (.c (.raw (.int .i64 (-1))))⟩])
  .ret))
  .skip))
 (.seq (.seq (.reg [⟨(some 13), none, .mov (.t 6)⟩])
 (.cond (.t 13)
  (.seq (.reg [⟨(some 4), none, .mov (.c (.raw (.int .i64 1)))⟩])
  .ret)
  .skip))
 (.seq (.seq (.reg [⟨(some 14), none, .mov (.t 0)⟩,
   ⟨(some 15), none, .mov (.t 1)⟩,
   ⟨(some 16), none, .bin .lss .no (.t 14) (.t 15)⟩])
 (.cond (.t 16)
  (.seq (.reg [⟨(some 4), none, .mov (.c (.raw (.int .i64 (-1))))⟩])
  .ret)
  .skip))
 (.seq (.seq (.reg [⟨(some 17), none, .mov (.t 0)⟩,
   ⟨(some 18), none, .mov (.t 1)⟩,
   ⟨(some 19), none, .bin .gtr .no (.t 17) (.t 18)⟩])
 (.cond (.t 19)
  (.seq (.reg [⟨(some 4), none, .mov (.c (.raw (.int .i64 1)))⟩])
  .ret)
  .skip))
 (.seq (.reg [⟨(some 4), none, .mov (.c (.raw (.int .i64 0)))⟩])
 .ret))))))))
theorem i_cmp_Compare_int : Is Try.prog 40 20 [.t 4] c_cmp_Compare_int := ⟨Try.f40, _, p_cmp_Compare_int, rfl, rfl, by kernel_rfl, by kernel_rfl, rfl⟩
def p_rostrumref18_SameRec : List (Nat × Pl) := []
def c_rostrumref18_SameRec : VCode :=
 (.seq (.reg [⟨(some 2), none, .box 58 (.t 0)⟩,
   ⟨(some 3), none, .box 58 (.t 1)⟩,
   ⟨(some 4), none, .mov (.c (.kb false))⟩])
 (.seq (.reg [⟨(some 5), none, .faddr 0 (.t 2)⟩,
   ⟨(some 6), none, .load none (.t 5)⟩,
   ⟨(some 7), none, .faddr 0 (.t 3)⟩,
   ⟨(some 8), none, .load none (.t 7)⟩,
   ⟨(some 9), none, .bin .eql .no (.t 6) (.t 8)⟩,
   ⟨(some 10), none, .mov (.t 9)⟩,
   ⟨(some 11), (some (10, true)), .faddr 1 (.t 2)⟩,
   ⟨(some 12), (some (10, true)), .load none (.t 11)⟩,
   ⟨(some 13), (some (10, true)), .conv .b2s (.t 12)⟩,
   ⟨(some 14), (some (10, true)), .faddr 1 (.t 3)⟩,
   ⟨(some 15), (some (10, true)), .load none (.t 14)⟩,
   ⟨(some 16), (some (10, true)), .conv .b2s (.t 15)⟩,
   ⟨(some 17), (some (10, true)), .bin .eql .no (.t 13) (.t 16)⟩,
   ⟨(some 18), none, .pick (.t 10) (.t 17) (.c (.kb false))⟩,
   ⟨(some 19), none, .mov (.t 18)⟩,
   ⟨(some 20), (some (19, true)), .faddr 2 (.t 2)⟩,
   ⟨(some 21), (some (19, true)), .load none (.t 20)⟩,
   ⟨(some 22), (some (19, true)), .faddr 2 (.t 3)⟩,
   ⟨(some 23), (some (19, true)), .load none (.t 22)⟩,
   ⟨(some 24), (some (19, true)), .bin .eql .no (.t 21) (.t 23)⟩,
   ⟨(some 25), none, .pick (.t 19) (.t 24) (.c (.kb false))⟩,
   ⟨(some 26), none, .mov (.t 25)⟩,
   ⟨(some 27), (some (26, true)), .faddr 3 (.t 2)⟩,
   ⟨(some 28), (some (26, true)), .load (some 7) (.t 27)⟩,
   ⟨(some 29), (some (26, true)), .faddr 3 (.t 3)⟩,
   ⟨(some 30), (some (26, true)), .load (some 7) (.t 29)⟩,
   ⟨(some 31), (some (26, true)), .bin .eql (.agg [.i, .i, .i, .i, .i, .i, .i]) (.t 28) (.t 30)⟩,
   ⟨(some 32), none, .pick (.t 26) (.t 31) (.c (.kb false))⟩,
   ⟨(some 33), none, .mov (.t 32)⟩,
   ⟨(some 34), (some (33, true)), .faddr 10 (.t 2)⟩,
   ⟨(some 35), (some (33, true)), .load (some 2) (.t 34)⟩,
   ⟨(some 36), (some (33, true)), .faddr 10 (.t 3)⟩,
   ⟨(some 37), (some (33, true)), .load (some 2) (.t 36)⟩,
   ⟨(some 38), (some (33, true)), .bin .eql (.agg [.i, .i]) (.t 35) (.t 37)⟩,
   ⟨(some 39), none, .pick (.t 33) (.t 38) (.c (.kb false))⟩,
   ⟨(some 40), none, .mov (.t 39)⟩,
   ⟨(some 41), (some (40, true)), .faddr 12 (.t 2)⟩,
   ⟨(some 42), (some (40, true)), .load (some 2) (.t 41)⟩,
   ⟨(some 43), (some (40, true)), .faddr 12 (.t 3)⟩,
   ⟨(some 44), (some (40, true)), .load (some 2) (.t 43)⟩,
   ⟨(some 45), (some (40, true)), .bin .eql (.agg [.i, .i]) (.t 42) (.t 44)⟩,
   ⟨(some 46), none, .pick (.t 40) (.t 45) (.c (.kb false))⟩,
   ⟨(some 4), none, .mov (.t 46)⟩])
 .ret))
theorem i_rostrumref18_SameRec : Is Try.prog 41 47 [.t 4] c_rostrumref18_SameRec := ⟨Try.f41, _, p_rostrumref18_SameRec, rfl, rfl, by kernel_rfl, by kernel_rfl, rfl⟩
def p_rostrumlaw20_bal : List (Nat × Pl) := []
def c_rostrumlaw20_bal : VCode :=
 (.seq (.reg [⟨(some 1), none, .box 30 (.t 0)⟩,
   ⟨(some 2), none, .new 55 [(.int .i64 0), (.int .i64 0)]⟩])
 (.seq (.reg [⟨(some 3), none, .faddr 0 (.t 1)⟩,
   ⟨(some 4), none, .load none (.t 3)⟩,
   ⟨(some 5), none, .faddr 1 (.t 1)⟩,
   ⟨(some 6), none, .load none (.t 5)⟩,
   ⟨(some 7), none, .build [(.int .i64 0), (.int .i64 0)] [(0, 1, (.t 4)), (1, 1, (.t 6))]⟩,
   ⟨none, none, .store (some 2) (.t 2) (.t 7)⟩])
 .ret))
theorem i_rostrumlaw20_bal : Is Try.prog 42 8 [.cell 2 (some 2)] c_rostrumlaw20_bal := ⟨Try.f42, _, p_rostrumlaw20_bal, rfl, rfl, by kernel_rfl, by kernel_rfl, rfl⟩
def p_rostrumlaw20_rec : List (Nat × Pl) := [(1, (.fl 0 (.fr 1 (.fl 2 (.fr 3 (.fl 4 (.fr 5 (.fl 6 (.fr 7 (.fl 8 (.fr 9 (.fl 11 (.fr 12 (.st 10 [1, 3, 5, 7, 12] (.st 13 [1, 3, 5, 7] (.fr 14 (.st 15 [] .done)))))))))))))))))]
def c_rostrumlaw20_rec : VCode :=
 (.seq (.reg [⟨(some 1), none, .box 37 (.t 0)⟩,
   ⟨(some 2), none, .new 58 [(.int .i64 0), (.slice none 0 0), (.int .i64 0), (.int .i64 0), (.int .i64 0), (.int .i64 0), (.int .i64 0), (.int .i64 0), (.int .i64 0), (.int .i64 0), (.int .i64 0), (.int .i64 0), (.int .i64 0), (.int .i64 0)]⟩])
 (.seq (.draw [⟨(some 3), none, .faddr 0 (.t 1)⟩,
   ⟨(some 4), none, .load none (.t 3)⟩,
   ⟨(some 5), none, .faddr 1 (.t 1)⟩,
   ⟨(some 6), none, .load none (.t 5)⟩,
   ⟨(some 7), none, .faddr 2 (.t 1)⟩,
   ⟨(some 8), none, .load none (.t 7)⟩,
   ⟨(some 9), none, .faddr 3 (.t 1)⟩,
   ⟨(some 10), none, .load (some 7) (.t 9)⟩,
   ⟨(some 11), none, .faddr 10 (.t 1)⟩,
   ⟨(some 12), none, .load (some 2) (.t 11)⟩,
   ⟨(some 13), none, .call 42 [(.t 12)]⟩,
   ⟨(some 14), none, .faddr 12 (.t 1)⟩,
   ⟨(some 15), none, .load (some 2) (.t 14)⟩,
   ⟨(some 16), none, .call 42 [(.t 15)]⟩,
   ⟨(some 17), none, .build [(.int .i64 0), (.slice none 0 0), (.int .i64 0), (.int .i64 0), (.int .i64 0), (.int .i64 0), (.int .i64 0), (.int .i64 0), (.int .i64 0), (.int .i64 0), (.int .i64 0), (.int .i64 0), (.int .i64 0), (.int .i64 0)] [(0, 1, (.t 4)), (1, 1, (.t 6)), (2, 1, (.t 8)), (3, 7, (.t 10)), (10, 2, (.t 13)), (12, 2, (.t 16))]⟩,
   ⟨none, none, .store (some 14) (.t 2) (.t 17)⟩]
   (.fl 0 (.fr 1 (.fl 2 (.fr 3 (.fl 4 (.fr 5 (.fl 6 (.fr 7 (.fl 8 (.fr 9 (.fl 11 (.fr 12 (.st 10 [1, 3, 5, 7, 12] (.st 13 [1, 3, 5, 7] (.fr 14 (.st 15 [] .done)))))))))))))))))
 .ret))
theorem i_rostrumlaw20_rec : Is Try.prog 43 18 [.cell 2 (some 14)] c_rostrumlaw20_rec := ⟨Try.f43, _, p_rostrumlaw20_rec, rfl, rfl, by kernel_rfl, by kernel_rfl, rfl⟩
def p_vec_Rep : List (Nat × Pl) := []
def c_vec_Rep : VCode :=
 (.seq (.reg [⟨(some 2), none, .mov (.c (.kb false))⟩])
 (.seq (.reg [⟨(some 3), none, .mov (.t 0)⟩,
   ⟨(some 4), none, .bin .geq .no (.t 3) (.c (.raw (.int .i64 0)))⟩,
   ⟨(some 5), none, .mov (.t 4)⟩,
   ⟨(some 6), (some (5, true)), .mov (.t 0)⟩,
   ⟨(some 7), (some (5, true)), .bin .lss .no (.t 6) (.c (.raw (.int .i64 7)))⟩,
   ⟨(some 8), none, .pick (.t 5) (.t 7) (.c (.kb false))⟩,
   ⟨(some 2), none, .mov (.t 8)⟩])
 .ret))
theorem i_vec_Rep : Is Try.prog 44 9 [.t 2] c_vec_Rep := ⟨Try.f44, _, p_vec_Rep, rfl, rfl, by kernel_rfl, by kernel_rfl, rfl⟩
def p_ballot_rep : List (Nat × Pl) := []
def c_ballot_rep : VCode :=
 (.seq (.reg [⟨(some 2), none, .mov (.c (.kb false))⟩])
 (.seq (.reg [⟨(some 3), none, .mov (.t 0)⟩,
   ⟨(some 4), none, .bin .geq .no (.t 3) (.c (.raw (.int .i64 0)))⟩,
   ⟨(some 5), none, .mov (.t 4)⟩,
   ⟨(some 6), (some (5, true)), .mov (.t 0)⟩,
   ⟨(some 7), (some (5, true)), .bin .lss .no (.t 6) (.c (.raw (.int .i64 7)))⟩,
   ⟨(some 8), none, .pick (.t 5) (.t 7) (.c (.kb false))⟩,
   ⟨(some 2), none, .mov (.t 8)⟩])
 .ret))
theorem i_ballot_rep : Is Try.prog 45 9 [.t 2] c_ballot_rep := ⟨Try.f45, _, p_ballot_rep, rfl, rfl, by kernel_rfl, by kernel_rfl, rfl⟩
def p_slices_Collect_api_Dot : List (Nat × Pl) := []
def c_slices_Collect_api_Dot : VCode :=
 (.seq (.reg [⟨(some 2), none, .mov (.c (.raw (.slice none 0 0)))⟩])
 (.seq (.reg [⟨(some 3), none, .mov (.t 0)⟩,
   ⟨(some 4), none, .call 52 [(.c (.raw (.slice none 0 0))), (.t 3)]⟩,
   ⟨(some 2), none, .mov (.t 4)⟩])
 .ret))
theorem i_slices_Collect_api_Dot : Is Try.prog 46 5 [.t 2] c_slices_Collect_api_Dot := ⟨Try.f46, _, p_slices_Collect_api_Dot, rfl, rfl, by kernel_rfl, by kernel_rfl, rfl⟩
def p_slices_SortFunc_sl_api_Dot_api_Dot : List (Nat × Pl) := []
def c_slices_SortFunc_sl_api_Dot_api_Dot : VCode :=
 (.seq (.reg [⟨(some 5), none, .mov (.t 0)⟩,
   ⟨(some 6), none, .len .sl (.t 5)⟩,
   ⟨(some 4), none, .mov (.t 6)⟩])
 (.reg [⟨(some 7), none, .mov (.t 0)⟩,
   ⟨(some 8), none, .mov (.t 4)⟩,
   ⟨(some 9), none, .mov (.t 4)⟩,
   ⟨(some 10), none, .conv (.int .u64) (.t 9)⟩,
   ⟨(some 11), none, .call 54 [(.t 10)]⟩,
   ⟨(some 12), none, .mov (.t 1)⟩,
   ⟨(some 13), none, .call 53 [(.t 7), (.c (.raw (.int .i64 0))), (.t 8), (.t 11), (.t 12)]⟩]))
theorem i_slices_SortFunc_sl_api_Dot_api_Dot : Is Try.prog 47 14 [] c_slices_SortFunc_sl_api_Dot_api_Dot := ⟨Try.f47, _, p_slices_SortFunc_sl_api_Dot_api_Dot, rfl, rfl, by kernel_rfl, by kernel_rfl, rfl⟩
def p_maps_Keys_map_api_Dot_inst_Rec_api_Dot_inst_Rec_1 : List (Nat × Pl) := []
def c_maps_Keys_map_api_Dot_inst_Rec_api_Dot_inst_Rec_1 : VCode :=
 (.seq (.reg [⟨(some 4), none, .load none (.t 1)⟩,
   ⟨(some 5), none, .range false (.t 4)⟩])
 (.block 0 (.loop (.seq (.reg [⟨(some 6), none, .next false (.t 5)⟩,
    ⟨(some 7), none, .extr (.t 6) 0⟩])
  (.seq (.cond (.t 7)
   .skip
   (.exit 0))
  (.block 1 (.seq (.reg [⟨(some 8), none, .entry (.t 5)⟩,
    ⟨(some 9), none, .extr (.t 8) 0⟩,
    ⟨(some 3), none, .new 24 [(.int .i64 0), (.int .i64 0)]⟩,
    ⟨none, none, .store (some 2) (.t 3) (.t 9)⟩])
  (.seq (.reg [⟨(some 10), none, .mov (.t 0)⟩,
    ⟨(some 11), none, .load (some 2) (.t 3)⟩,
    ⟨(some 12), none, .callv (.t 10) [(.t 11)]⟩,
    ⟨(some 13), none, .un .not (.t 12)⟩])
  (.cond (.t 13)
   .ret
   .skip)))))))))
theorem i_maps_Keys_map_api_Dot_inst_Rec_api_Dot_inst_Rec_1 : Is Try.prog 48 14 [] c_maps_Keys_map_api_Dot_inst_Rec_api_Dot_inst_Rec_1 := ⟨Try.f48, _, p_maps_Keys_map_api_Dot_inst_Rec_api_Dot_inst_Rec_1, rfl, rfl, by kernel_rfl, by kernel_rfl, rfl⟩
def p_slices_IndexFunc_sl_api_Dot_api_Dot : List (Nat × Pl) := []
def c_slices_IndexFunc_sl_api_Dot_api_Dot : VCode :=
 (.seq (.reg [⟨(some 4), none, .mov (.c (.raw (.int .i64 0)))⟩])
 (.seq (.seq (.reg [⟨(some 6), none, .mov (.t 0)⟩,
   ⟨(some 7), none, .len .sl (.t 6)⟩,
   ⟨(some 8), none, .mov (.c (.raw (.int .i64 0)))⟩])
 (.block 0 (.loop (.seq (.reg [⟨(some 9), none, .bin .lss .no (.t 8) (.t 7)⟩])
  (.seq (.cond (.t 9)
   .skip
   (.exit 0))
  (.seq (.block 1 (.seq (.reg [⟨(some 10), none, .mov (.t 8)⟩,
    ⟨(some 5), none, .mov (.t 10)⟩])
  (.seq (.reg [⟨(some 11), none, .mov (.t 1)⟩,
    ⟨(some 12), none, .mov (.t 0)⟩,
    ⟨(some 13), none, .mov (.t 5)⟩,
    ⟨(some 14), none, .iaddr 2 none (.t 12) (.t 13)⟩,
    ⟨(some 15), none, .load (some 2) (.t 14)⟩,
    ⟨(some 16), none, .callv (.t 11) [(.t 15)]⟩])
  (.cond (.t 16)
   (.seq (.reg [⟨(some 17), none, .mov (.t 5)⟩,
     ⟨(some 4), none, .mov (.t 17)⟩])
   .ret)
   .skip))))
  (.reg [⟨(some 18), none, .bin .add .no (.t 8) (.c (.raw (.int .i64 1)))⟩,
    ⟨(some 8), none, .mov (.t 18)⟩])))))))
 (.seq (.reg [⟨(some 4), none, .mov (.c (.raw (.int .i64 (-1))))⟩])
 .ret)))
theorem i_slices_IndexFunc_sl_api_Dot_api_Dot : Is Try.prog 49 19 [.t 4] c_slices_IndexFunc_sl_api_Dot_api_Dot := ⟨Try.f49, _, p_slices_IndexFunc_sl_api_Dot_api_Dot, rfl, rfl, by kernel_rfl, by kernel_rfl, rfl⟩
def p_cmp_isNaN_int64 : List (Nat × Pl) := []
def c_cmp_isNaN_int64 : VCode :=
 (.seq (.reg [⟨(some 2), none, .mov (.c (.kb false))⟩])
 (.seq (.reg [⟨(some 3), none, .mov (.t 0)⟩,
   ⟨(some 4), none, .mov (.t 0)⟩,
   ⟨(some 5), none, .bin .neq .no (.t 3) (.t 4)⟩,
   ⟨(some 2), none, .mov (.t 5)⟩])
 .ret))
theorem i_cmp_isNaN_int64 : Is Try.prog 50 6 [.t 2] c_cmp_isNaN_int64 := ⟨Try.f50, _, p_cmp_isNaN_int64, rfl, rfl, by kernel_rfl, by kernel_rfl, rfl⟩
def p_cmp_isNaN_int : List (Nat × Pl) := []
def c_cmp_isNaN_int : VCode :=
 (.seq (.reg [⟨(some 2), none, .mov (.c (.kb false))⟩])
 (.seq (.reg [⟨(some 3), none, .mov (.t 0)⟩,
   ⟨(some 4), none, .mov (.t 0)⟩,
   ⟨(some 5), none, .bin .neq .no (.t 3) (.t 4)⟩,
   ⟨(some 2), none, .mov (.t 5)⟩])
 .ret))
theorem i_cmp_isNaN_int : Is Try.prog 51 6 [.t 2] c_cmp_isNaN_int := ⟨Try.f51, _, p_cmp_isNaN_int, rfl, rfl, by kernel_rfl, by kernel_rfl, rfl⟩
def p_slices_pdqsortCmpFunc_api_Dot : List (Nat × Pl) := [(17, (.fl 0 (.fl 1 (.fl 2 (.fl 3 (.fl 4 (.fl 5 (.fl 6 (.fr 7 (.fr 8 (.fl 9 (.fl 10 (.fr 11 (.fr 12 (.st 13 [] (.fl 14 (.fl 15 (.fl 16 .done))))))))))))))))))]
def c_slices_pdqsortCmpFunc_api_Dot : VCode :=
 (.seq (.reg [⟨(some 10), none, .mov (.c (.kb true))⟩])
 (.seq (.reg [⟨(some 11), none, .mov (.c (.kb true))⟩])
 (.block 0 (.loop (.block 1 (.seq (.reg [⟨(some 21), none, .mov (.t 2)⟩,
    ⟨(some 22), none, .mov (.t 1)⟩,
    ⟨(some 23), none, .bin .sub .no (.t 21) (.t 22)⟩,
    ⟨(some 12), none, .mov (.t 23)⟩])
  (.seq (.seq (.reg [⟨(some 24), none, .mov (.t 12)⟩,
    ⟨(some 25), none, .bin .leq .no (.t 24) (.c (.raw (.int .i64 12)))⟩])
  (.cond (.t 25)
   (.seq (.reg [⟨(some 26), none, .mov (.t 0)⟩,
     ⟨(some 27), none, .mov (.t 1)⟩,
     ⟨(some 28), none, .mov (.t 2)⟩,
     ⟨(some 29), none, .mov (.t 4)⟩,
     ⟨(some 30), none, .call 55 [(.t 26), (.t 27), (.t 28), (.t 29)]⟩])
   .ret)
   .skip))
  (.seq (.seq (.reg [⟨(some 31), none, .mov (.t 3)⟩,
    ⟨(some 32), none, .bin .eql .no (.t 31) (.c (.raw (.int .i64 0)))⟩])
  (.cond (.t 32)
   (.seq (.reg [⟨(some 33), none, .mov (.t 0)⟩,
     ⟨(some 34), none, .mov (.t 1)⟩,
     ⟨(some 35), none, .mov (.t 2)⟩,
     ⟨(some 36), none, .mov (.t 4)⟩,
     ⟨(some 37), none, .call 56 [(.t 33), (.t 34), (.t 35), (.t 36)]⟩])
   .ret)
   .skip))
  (.seq (.seq (.reg [⟨(some 38), none, .mov (.t 10)⟩,
    ⟨(some 39), none, .un .not (.t 38)⟩])
  (.cond (.t 39)
   (.seq (.reg [⟨(some 40), none, .mov (.t 0)⟩,
     ⟨(some 41), none, .mov (.t 1)⟩,
     ⟨(some 42), none, .mov (.t 2)⟩,
     ⟨(some 43), none, .mov (.t 4)⟩,
     ⟨(some 44), none, .call 57 [(.t 40), (.t 41), (.t 42), (.t 43)]⟩])
   (.reg [⟨(some 45), none, .mov (.t 3)⟩,
     ⟨(some 46), none, .bin .sub .no (.t 45) (.c (.raw (.int .i64 1)))⟩,
     ⟨(some 3), none, .mov (.t 46)⟩]))
   .skip))
  (.seq (.reg [⟨(some 48), none, .mov (.t 0)⟩,
    ⟨(some 49), none, .mov (.t 1)⟩,
    ⟨(some 50), none, .mov (.t 2)⟩,
    ⟨(some 51), none, .mov (.t 4)⟩,
    ⟨(some 52), none, .call 58 [(.t 48), (.t 49), (.t 50), (.t 51)]⟩,
    ⟨(some 47), none, .mov (.t 52)⟩,
    ⟨(some 53), none, .extr (.t 47) 0⟩,
    ⟨(some 54), none, .extr (.t 47) 1⟩,
    ⟨(some 13), none, .mov (.t 53)⟩,
    ⟨(some 14), none, .mov (.t 54)⟩])
  (.seq (.seq (.reg [⟨(some 55), none, .mov (.t 14)⟩,
    ⟨(some 56), none, .bin .eql .no (.t 55) (.c (.raw (.int .i64 2)))⟩])
  (.cond (.t 56)
   (.seq (.reg [⟨(some 57), none, .mov (.t 0)⟩,
     ⟨(some 58), none, .mov (.t 1)⟩,
     ⟨(some 59), none, .mov (.t 2)⟩,
     ⟨(some 60), none, .mov (.t 4)⟩,
     ⟨(some 61), none, .call 59 [(.t 57), (.t 58), (.t 59), (.t 60)]⟩])
   (.seq (.reg [⟨(some 62), none, .mov (.t 2)⟩,
     ⟨(some 63), none, .bin .sub .no (.t 62) (.c (.raw (.int .i64 1)))⟩,
     ⟨(some 64), none, .mov (.t 13)⟩,
     ⟨(some 65), none, .mov (.t 1)⟩,
     ⟨(some 66), none, .bin .sub .no (.t 64) (.t 65)⟩,
     ⟨(some 67), none, .bin .sub .no (.t 63) (.t 66)⟩,
     ⟨(some 13), none, .mov (.t 67)⟩])
   (.reg [⟨(some 14), none, .mov (.c (.raw (.int .i64 1)))⟩])))
   .skip))
  (.seq (.seq (.reg [⟨(some 68), none, .mov (.t 10)⟩,
    ⟨(some 69), none, .mov (.t 68)⟩,
    ⟨(some 70), (some (69, true)), .mov (.t 11)⟩,
    ⟨(some 71), none, .pick (.t 69) (.t 70) (.c (.kb false))⟩,
    ⟨(some 72), none, .mov (.t 71)⟩,
    ⟨(some 73), (some (72, true)), .mov (.t 14)⟩,
    ⟨(some 74), (some (72, true)), .bin .eql .no (.t 73) (.c (.raw (.int .i64 1)))⟩,
    ⟨(some 75), none, .pick (.t 72) (.t 74) (.c (.kb false))⟩])
  (.cond (.t 75)
   (.seq (.reg [⟨(some 76), none, .mov (.t 0)⟩,
     ⟨(some 77), none, .mov (.t 1)⟩,
     ⟨(some 78), none, .mov (.t 2)⟩,
     ⟨(some 79), none, .mov (.t 4)⟩,
     ⟨(some 80), none, .call 60 [(.t 76), (.t 77), (.t 78), (.t 79)]⟩])
   (.cond (.t 80)
    .ret
    .skip))
   .skip))
  (.seq (.seq (.draw [⟨(some 81), none, .mov (.t 1)⟩,
    ⟨(some 82), none, .bin .gtr .no (.t 81) (.c (.raw (.int .i64 0)))⟩,
    ⟨(some 83), none, .mov (.t 82)⟩,
    ⟨(some 84), (some (83, true)), .mov (.t 4)⟩,
    ⟨(some 85), (some (83, true)), .mov (.t 0)⟩,
    ⟨(some 86), (some (83, true)), .mov (.t 1)⟩,
    ⟨(some 87), (some (83, true)), .bin .sub .no (.t 86) (.c (.raw (.int .i64 1)))⟩,
    ⟨(some 88), (some (83, true)), .iaddr 2 none (.t 85) (.t 87)⟩,
    ⟨(some 89), (some (83, true)), .load (some 2) (.t 88)⟩,
    ⟨(some 90), (some (83, true)), .mov (.t 0)⟩,
    ⟨(some 91), (some (83, true)), .mov (.t 13)⟩,
    ⟨(some 92), (some (83, true)), .iaddr 2 none (.t 90) (.t 91)⟩,
    ⟨(some 93), (some (83, true)), .load (some 2) (.t 92)⟩,
    ⟨(some 94), (some (83, true)), .callv (.t 84) [(.t 89), (.t 93)]⟩,
    ⟨(some 95), (some (83, true)), .bin .lss .no (.t 94) (.c (.raw (.int .i64 0)))⟩,
    ⟨(some 96), (some (83, true)), .un .not (.t 95)⟩,
    ⟨(some 97), none, .pick (.t 83) (.t 96) (.c (.kb false))⟩]
    (.fl 0 (.fl 1 (.fl 2 (.fl 3 (.fl 4 (.fl 5 (.fl 6 (.fr 7 (.fr 8 (.fl 9 (.fl 10 (.fr 11 (.fr 12 (.st 13 [] (.fl 14 (.fl 15 (.fl 16 .done))))))))))))))))))
  (.cond (.t 97)
   (.seq (.reg [⟨(some 98), none, .mov (.t 0)⟩,
     ⟨(some 99), none, .mov (.t 1)⟩,
     ⟨(some 100), none, .mov (.t 2)⟩,
     ⟨(some 101), none, .mov (.t 13)⟩,
     ⟨(some 102), none, .mov (.t 4)⟩,
     ⟨(some 103), none, .call 61 [(.t 98), (.t 99), (.t 100), (.t 101), (.t 102)]⟩,
     ⟨(some 15), none, .mov (.t 103)⟩])
   (.seq (.reg [⟨(some 104), none, .mov (.t 15)⟩,
     ⟨(some 1), none, .mov (.t 104)⟩])
   (.exit 1)))
   .skip))
  (.seq (.reg [⟨(some 106), none, .mov (.t 0)⟩,
    ⟨(some 107), none, .mov (.t 1)⟩,
    ⟨(some 108), none, .mov (.t 2)⟩,
    ⟨(some 109), none, .mov (.t 13)⟩,
    ⟨(some 110), none, .mov (.t 4)⟩,
    ⟨(some 111), none, .call 62 [(.t 106), (.t 107), (.t 108), (.t 109), (.t 110)]⟩,
    ⟨(some 105), none, .mov (.t 111)⟩,
    ⟨(some 112), none, .extr (.t 105) 0⟩,
    ⟨(some 113), none, .extr (.t 105) 1⟩,
    ⟨(some 16), none, .mov (.t 112)⟩,
    ⟨(some 17), none, .mov (.t 113)⟩])
  (.seq (.reg [⟨(some 114), none, .mov (.t 17)⟩,
    ⟨(some 11), none, .mov (.t 114)⟩])
  (.seq (.reg [⟨(some 115), none, .mov (.t 16)⟩,
    ⟨(some 116), none, .mov (.t 1)⟩,
    ⟨(some 117), none, .bin .sub .no (.t 115) (.t 116)⟩,
    ⟨(some 118), none, .mov (.t 2)⟩,
    ⟨(some 119), none, .mov (.t 16)⟩,
    ⟨(some 120), none, .bin .sub .no (.t 118) (.t 119)⟩,
    ⟨(some 18), none, .mov (.t 117)⟩,
    ⟨(some 19), none, .mov (.t 120)⟩])
  (.seq (.reg [⟨(some 121), none, .mov (.t 12)⟩,
    ⟨(some 122), none, .bin .quo .no (.t 121) (.c (.raw (.int .i64 8)))⟩,
    ⟨(some 20), none, .mov (.t 122)⟩])
  (.seq (.reg [⟨(some 123), none, .mov (.t 18)⟩,
    ⟨(some 124), none, .mov (.t 19)⟩,
    ⟨(some 125), none, .bin .lss .no (.t 123) (.t 124)⟩])
  (.cond (.t 125)
   (.seq (.reg [⟨(some 126), none, .mov (.t 18)⟩,
     ⟨(some 127), none, .mov (.t 20)⟩,
     ⟨(some 128), none, .bin .geq .no (.t 126) (.t 127)⟩,
     ⟨(some 10), none, .mov (.t 128)⟩])
   (.seq (.reg [⟨(some 129), none, .mov (.t 0)⟩,
     ⟨(some 130), none, .mov (.t 1)⟩,
     ⟨(some 131), none, .mov (.t 16)⟩,
     ⟨(some 132), none, .mov (.t 3)⟩,
     ⟨(some 133), none, .mov (.t 4)⟩,
     ⟨(some 134), none, .call 53 [(.t 129), (.t 130), (.t 131), (.t 132), (.t 133)]⟩])
   (.reg [⟨(some 135), none, .mov (.t 16)⟩,
     ⟨(some 136), none, .bin .add .no (.t 135) (.c (.raw (.int .i64 1)))⟩,
     ⟨(some 1), none, .mov (.t 136)⟩])))
   (.seq (.reg [⟨(some 137), none, .mov (.t 19)⟩,
     ⟨(some 138), none, .mov (.t 20)⟩,
     ⟨(some 139), none, .bin .geq .no (.t 137) (.t 138)⟩,
     ⟨(some 10), none, .mov (.t 139)⟩])
   (.seq (.reg [⟨(some 140), none, .mov (.t 0)⟩,
     ⟨(some 141), none, .mov (.t 16)⟩,
     ⟨(some 142), none, .bin .add .no (.t 141) (.c (.raw (.int .i64 1)))⟩,
     ⟨(some 143), none, .mov (.t 2)⟩,
     ⟨(some 144), none, .mov (.t 3)⟩,
     ⟨(some 145), none, .mov (.t 4)⟩,
     ⟨(some 146), none, .call 53 [(.t 140), (.t 142), (.t 143), (.t 144), (.t 145)]⟩])
   (.reg [⟨(some 147), none, .mov (.t 16)⟩,
     ⟨(some 2), none, .mov (.t 147)⟩]))))))))))))))))))))))
theorem i_slices_pdqsortCmpFunc_api_Dot : Is Try.prog 53 148 [] c_slices_pdqsortCmpFunc_api_Dot := ⟨Try.f53, _, p_slices_pdqsortCmpFunc_api_Dot, rfl, rfl, by kernel_rfl, by kernel_rfl, rfl⟩
def p_math_bits_Len : List (Nat × Pl) := []
def c_math_bits_Len : VCode :=
 (.seq (.reg [⟨(some 2), none, .mov (.c (.raw (.int .i64 0)))⟩])
 (.seq (.cond (.c (.kb false))
  (.seq (.reg [⟨(some 3), none, .mov (.t 0)⟩,
    ⟨(some 4), none, .conv (.int .u32) (.t 3)⟩,
    ⟨(some 5), none, .call 63 [(.t 4)]⟩,
    ⟨(some 2), none, .mov (.t 5)⟩])
  .ret)
  .skip)
 (.seq (.reg [⟨(some 6), none, .mov (.t 0)⟩,
   ⟨(some 7), none, .call 64 [(.t 6)]⟩,
   ⟨(some 2), none, .mov (.t 7)⟩])
 .ret)))
theorem i_math_bits_Len : Is Try.prog 54 8 [.t 2] c_math_bits_Len := ⟨Try.f54, _, p_math_bits_Len, rfl, rfl, by kernel_rfl, by kernel_rfl, rfl⟩
def p_slices_insertionSortCmpFunc_api_Dot : List (Nat × Pl) := [(4, (.fl 0 (.fl 1 (.fl 2 (.fl 3 (.fl 4 (.fl 5 (.fl 6 (.fr 7 (.fr 8 (.fl 9 (.fl 10 (.fl 11 (.fr 12 (.fr 13 (.st 14 [] (.fl 15 (.fl 16 .done)))))))))))))))))), (6, (.fl 0 (.fl 1 (.fl 2 (.fl 3 (.fl 4 (.fl 5 (.fl 6 (.fl 7 (.fr 8 (.fr 9 (.fl 10 (.fl 11 (.fr 12 (.fr 13 (.fr 14 (.st 15 [] (.fr 16 (.st 17 [] .done)))))))))))))))))))]
def c_slices_insertionSortCmpFunc_api_Dot : VCode :=
 (.seq (.reg [⟨(some 10), none, .mov (.t 1)⟩,
   ⟨(some 11), none, .bin .add .no (.t 10) (.c (.raw (.int .i64 1)))⟩,
   ⟨(some 8), none, .mov (.t 11)⟩])
 (.block 0 (.loop (.seq (.seq (.reg [⟨(some 12), none, .mov (.t 8)⟩,
    ⟨(some 13), none, .mov (.t 2)⟩,
    ⟨(some 14), none, .bin .lss .no (.t 12) (.t 13)⟩])
  (.cond (.t 14)
   .skip
   (.exit 0)))
  (.seq (.block 1 (.seq (.reg [⟨(some 17), none, .mov (.t 8)⟩,
    ⟨(some 9), none, .mov (.t 17)⟩])
  (.block 2 (.loop (.seq (.seq (.draw [⟨(some 18), none, .mov (.t 9)⟩,
     ⟨(some 19), none, .mov (.t 1)⟩,
     ⟨(some 20), none, .bin .gtr .no (.t 18) (.t 19)⟩,
     ⟨(some 21), none, .mov (.t 20)⟩,
     ⟨(some 22), (some (21, true)), .mov (.t 3)⟩,
     ⟨(some 23), (some (21, true)), .mov (.t 0)⟩,
     ⟨(some 24), (some (21, true)), .mov (.t 9)⟩,
     ⟨(some 25), (some (21, true)), .iaddr 2 none (.t 23) (.t 24)⟩,
     ⟨(some 26), (some (21, true)), .load (some 2) (.t 25)⟩,
     ⟨(some 27), (some (21, true)), .mov (.t 0)⟩,
     ⟨(some 28), (some (21, true)), .mov (.t 9)⟩,
     ⟨(some 29), (some (21, true)), .bin .sub .no (.t 28) (.c (.raw (.int .i64 1)))⟩,
     ⟨(some 30), (some (21, true)), .iaddr 2 none (.t 27) (.t 29)⟩,
     ⟨(some 31), (some (21, true)), .load (some 2) (.t 30)⟩,
     ⟨(some 32), (some (21, true)), .callv (.t 22) [(.t 26), (.t 31)]⟩,
     ⟨(some 33), (some (21, true)), .bin .lss .no (.t 32) (.c (.raw (.int .i64 0)))⟩,
     ⟨(some 34), none, .pick (.t 21) (.t 33) (.c (.kb false))⟩]
     (.fl 0 (.fl 1 (.fl 2 (.fl 3 (.fl 4 (.fl 5 (.fl 6 (.fr 7 (.fr 8 (.fl 9 (.fl 10 (.fl 11 (.fr 12 (.fr 13 (.st 14 [] (.fl 15 (.fl 16 .done))))))))))))))))))
   (.cond (.t 34)
    .skip
    (.exit 2)))
   (.seq (.block 3 (.draw [⟨(some 37), none, .mov (.t 0)⟩,
     ⟨(some 38), none, .mov (.t 9)⟩,
     ⟨(some 39), none, .mov (.t 0)⟩,
     ⟨(some 40), none, .mov (.t 9)⟩,
     ⟨(some 41), none, .bin .sub .no (.t 40) (.c (.raw (.int .i64 1)))⟩,
     ⟨(some 42), none, .mov (.t 0)⟩,
     ⟨(some 43), none, .mov (.t 9)⟩,
     ⟨(some 44), none, .bin .sub .no (.t 43) (.c (.raw (.int .i64 1)))⟩,
     ⟨(some 45), none, .iaddr 2 none (.t 42) (.t 44)⟩,
     ⟨(some 46), none, .load (some 2) (.t 45)⟩,
     ⟨(some 47), none, .mov (.t 0)⟩,
     ⟨(some 48), none, .mov (.t 9)⟩,
     ⟨(some 49), none, .iaddr 2 none (.t 47) (.t 48)⟩,
     ⟨(some 50), none, .load (some 2) (.t 49)⟩,
     ⟨(some 51), none, .iaddr 2 none (.t 37) (.t 38)⟩,
     ⟨none, none, .store (some 2) (.t 51) (.t 46)⟩,
     ⟨(some 52), none, .iaddr 2 none (.t 39) (.t 41)⟩,
     ⟨none, none, .store (some 2) (.t 52) (.t 50)⟩]
     (.fl 0 (.fl 1 (.fl 2 (.fl 3 (.fl 4 (.fl 5 (.fl 6 (.fl 7 (.fr 8 (.fr 9 (.fl 10 (.fl 11 (.fr 12 (.fr 13 (.fr 14 (.st 15 [] (.fr 16 (.st 17 [] .done))))))))))))))))))))
   (.reg [⟨(some 35), none, .mov (.t 9)⟩,
     ⟨(some 36), none, .bin .sub .no (.t 35) (.c (.raw (.int .i64 1)))⟩,
     ⟨(some 9), none, .mov (.t 36)⟩])))))))
  (.reg [⟨(some 15), none, .mov (.t 8)⟩,
    ⟨(some 16), none, .bin .add .no (.t 15) (.c (.raw (.int .i64 1)))⟩,
    ⟨(some 8), none, .mov (.t 16)⟩]))))))
theorem i_slices_insertionSortCmpFunc_api_Dot : Is Try.prog 55 53 [] c_slices_insertionSortCmpFunc_api_Dot := ⟨Try.f55, _, p_slices_insertionSortCmpFunc_api_Dot, rfl, rfl, by kernel_rfl, by kernel_rfl, rfl⟩
def p_slices_heapSortCmpFunc_api_Dot : List (Nat × Pl) := [(10, (.fl 0 (.fl 1 (.fl 2 (.fl 3 (.fl 4 (.fl 5 (.fl 6 (.fl 7 (.fl 8 (.fl 9 (.fr 10 (.fr 11 (.fl 12 (.fl 13 (.fr 14 (.fr 15 (.fr 16 (.st 17 [] (.fr 18 (.st 19 [] .done)))))))))))))))))))))]
def c_slices_heapSortCmpFunc_api_Dot : VCode :=
 (.seq (.reg [⟨(some 13), none, .mov (.t 1)⟩,
   ⟨(some 8), none, .mov (.t 13)⟩])
 (.seq (.reg [⟨(some 9), none, .mov (.c (.raw (.int .i64 0)))⟩])
 (.seq (.reg [⟨(some 14), none, .mov (.t 2)⟩,
   ⟨(some 15), none, .mov (.t 1)⟩,
   ⟨(some 16), none, .bin .sub .no (.t 14) (.t 15)⟩,
   ⟨(some 10), none, .mov (.t 16)⟩])
 (.seq (.seq (.reg [⟨(some 17), none, .mov (.t 10)⟩,
   ⟨(some 18), none, .bin .sub .no (.t 17) (.c (.raw (.int .i64 1)))⟩,
   ⟨(some 19), none, .bin .quo .no (.t 18) (.c (.raw (.int .i64 2)))⟩,
   ⟨(some 11), none, .mov (.t 19)⟩])
 (.block 0 (.loop (.seq (.seq (.reg [⟨(some 20), none, .mov (.t 11)⟩,
    ⟨(some 21), none, .bin .geq .no (.t 20) (.c (.raw (.int .i64 0)))⟩])
  (.cond (.t 21)
   .skip
   (.exit 0)))
  (.seq (.block 1 (.reg [⟨(some 24), none, .mov (.t 0)⟩,
    ⟨(some 25), none, .mov (.t 11)⟩,
    ⟨(some 26), none, .mov (.t 10)⟩,
    ⟨(some 27), none, .mov (.t 8)⟩,
    ⟨(some 28), none, .mov (.t 3)⟩,
    ⟨(some 29), none, .call 65 [(.t 24), (.t 25), (.t 26), (.t 27), (.t 28)]⟩]))
  (.reg [⟨(some 22), none, .mov (.t 11)⟩,
    ⟨(some 23), none, .bin .sub .no (.t 22) (.c (.raw (.int .i64 1)))⟩,
    ⟨(some 11), none, .mov (.t 23)⟩]))))))
 (.seq (.reg [⟨(some 30), none, .mov (.t 10)⟩,
   ⟨(some 31), none, .bin .sub .no (.t 30) (.c (.raw (.int .i64 1)))⟩,
   ⟨(some 12), none, .mov (.t 31)⟩])
 (.block 2 (.loop (.seq (.seq (.reg [⟨(some 32), none, .mov (.t 12)⟩,
    ⟨(some 33), none, .bin .geq .no (.t 32) (.c (.raw (.int .i64 0)))⟩])
  (.cond (.t 33)
   .skip
   (.exit 2)))
  (.seq (.block 3 (.seq (.draw [⟨(some 36), none, .mov (.t 0)⟩,
    ⟨(some 37), none, .mov (.t 8)⟩,
    ⟨(some 38), none, .mov (.t 0)⟩,
    ⟨(some 39), none, .mov (.t 8)⟩,
    ⟨(some 40), none, .mov (.t 12)⟩,
    ⟨(some 41), none, .bin .add .no (.t 39) (.t 40)⟩,
    ⟨(some 42), none, .mov (.t 0)⟩,
    ⟨(some 43), none, .mov (.t 8)⟩,
    ⟨(some 44), none, .mov (.t 12)⟩,
    ⟨(some 45), none, .bin .add .no (.t 43) (.t 44)⟩,
    ⟨(some 46), none, .iaddr 2 none (.t 42) (.t 45)⟩,
    ⟨(some 47), none, .load (some 2) (.t 46)⟩,
    ⟨(some 48), none, .mov (.t 0)⟩,
    ⟨(some 49), none, .mov (.t 8)⟩,
    ⟨(some 50), none, .iaddr 2 none (.t 48) (.t 49)⟩,
    ⟨(some 51), none, .load (some 2) (.t 50)⟩,
    ⟨(some 52), none, .iaddr 2 none (.t 36) (.t 37)⟩,
    ⟨none, none, .store (some 2) (.t 52) (.t 47)⟩,
    ⟨(some 53), none, .iaddr 2 none (.t 38) (.t 41)⟩,
    ⟨none, none, .store (some 2) (.t 53) (.t 51)⟩]
    (.fl 0 (.fl 1 (.fl 2 (.fl 3 (.fl 4 (.fl 5 (.fl 6 (.fl 7 (.fl 8 (.fl 9 (.fr 10 (.fr 11 (.fl 12 (.fl 13 (.fr 14 (.fr 15 (.fr 16 (.st 17 [] (.fr 18 (.st 19 [] .done)))))))))))))))))))))
  (.reg [⟨(some 54), none, .mov (.t 0)⟩,
    ⟨(some 55), none, .mov (.t 9)⟩,
    ⟨(some 56), none, .mov (.t 12)⟩,
    ⟨(some 57), none, .mov (.t 8)⟩,
    ⟨(some 58), none, .mov (.t 3)⟩,
    ⟨(some 59), none, .call 65 [(.t 54), (.t 55), (.t 56), (.t 57), (.t 58)]⟩])))
  (.reg [⟨(some 34), none, .mov (.t 12)⟩,
    ⟨(some 35), none, .bin .sub .no (.t 34) (.c (.raw (.int .i64 1)))⟩,
    ⟨(some 12), none, .mov (.t 35)⟩]))))))))))
theorem i_slices_heapSortCmpFunc_api_Dot : Is Try.prog 56 60 [] c_slices_heapSortCmpFunc_api_Dot := ⟨Try.f56, _, p_slices_heapSortCmpFunc_api_Dot, rfl, rfl, by kernel_rfl, by kernel_rfl, rfl⟩
def p_slices_breakPatternsCmpFunc_api_Dot : List (Nat × Pl) := [(10, (.fl 0 (.fl 1 (.fl 2 (.fl 3 (.fl 4 (.fl 5 (.fl 6 (.fl 7 (.fl 8 (.fl 9 (.fr 10 (.fr 11 (.fl 12 (.fl 13 (.fr 14 (.fr 15 (.fr 16 (.st 17 [] (.fr 18 (.st 19 [] .done)))))))))))))))))))))]
def c_slices_breakPatternsCmpFunc_api_Dot : VCode :=
 (.seq (.reg [⟨(some 13), none, .mov (.t 2)⟩,
   ⟨(some 14), none, .mov (.t 1)⟩,
   ⟨(some 15), none, .bin .sub .no (.t 13) (.t 14)⟩,
   ⟨(some 8), none, .mov (.t 15)⟩])
 (.seq (.reg [⟨(some 16), none, .mov (.t 8)⟩,
   ⟨(some 17), none, .bin .geq .no (.t 16) (.c (.raw (.int .i64 8)))⟩])
 (.cond (.t 17)
  (.seq (.reg [⟨(some 18), none, .mov (.t 8)⟩,
    ⟨(some 19), none, .conv (.int .u64) (.t 18)⟩,
    ⟨(some 9), none, .new 113 [(.int .u64 0)]⟩,
    ⟨none, none, .store none (.t 9) (.t 19)⟩])
  (.seq (.reg [⟨(some 20), none, .mov (.t 8)⟩,
    ⟨(some 21), none, .call 66 [(.t 20)]⟩,
    ⟨(some 10), none, .mov (.t 21)⟩])
  (.seq (.reg [⟨(some 22), none, .mov (.t 1)⟩,
    ⟨(some 23), none, .mov (.t 8)⟩,
    ⟨(some 24), none, .bin .quo .no (.t 23) (.c (.raw (.int .i64 4)))⟩,
    ⟨(some 25), none, .bin .mul .no (.t 24) (.c (.raw (.int .i64 2)))⟩,
    ⟨(some 26), none, .bin .add .no (.t 22) (.t 25)⟩,
    ⟨(some 27), none, .bin .sub .no (.t 26) (.c (.raw (.int .i64 1)))⟩,
    ⟨(some 11), none, .mov (.t 27)⟩])
  (.block 0 (.loop (.seq (.seq (.reg [⟨(some 28), none, .mov (.t 11)⟩,
     ⟨(some 29), none, .mov (.t 1)⟩,
     ⟨(some 30), none, .mov (.t 8)⟩,
     ⟨(some 31), none, .bin .quo .no (.t 30) (.c (.raw (.int .i64 4)))⟩,
     ⟨(some 32), none, .bin .mul .no (.t 31) (.c (.raw (.int .i64 2)))⟩,
     ⟨(some 33), none, .bin .add .no (.t 29) (.t 32)⟩,
     ⟨(some 34), none, .bin .add .no (.t 33) (.c (.raw (.int .i64 1)))⟩,
     ⟨(some 35), none, .bin .leq .no (.t 28) (.t 34)⟩])
   (.cond (.t 35)
    .skip
    (.exit 0)))
   (.seq (.block 1 (.seq (.reg [⟨(some 38), none, .call 67 [(.t 9)]⟩,
     ⟨(some 39), none, .mov (.t 10)⟩,
     ⟨(some 40), none, .bin .sub .no (.t 39) (.c (.raw (.int .u64 1)))⟩,
     ⟨(some 41), none, .bin .and .no (.t 38) (.t 40)⟩,
     ⟨(some 42), none, .conv (.int .i64) (.t 41)⟩,
     ⟨(some 12), none, .mov (.t 42)⟩])
   (.seq (.seq (.reg [⟨(some 43), none, .mov (.t 12)⟩,
     ⟨(some 44), none, .mov (.t 8)⟩,
     ⟨(some 45), none, .bin .geq .no (.t 43) (.t 44)⟩])
   (.cond (.t 45)
    (.reg [⟨(some 46), none, .mov (.t 12)⟩,
      ⟨(some 47), none, .mov (.t 8)⟩,
      ⟨(some 48), none, .bin .sub .no (.t 46) (.t 47)⟩,
      ⟨(some 12), none, .mov (.t 48)⟩])
    .skip))
   (.draw [⟨(some 49), none, .mov (.t 0)⟩,
     ⟨(some 50), none, .mov (.t 11)⟩,
     ⟨(some 51), none, .mov (.t 0)⟩,
     ⟨(some 52), none, .mov (.t 1)⟩,
     ⟨(some 53), none, .mov (.t 12)⟩,
     ⟨(some 54), none, .bin .add .no (.t 52) (.t 53)⟩,
     ⟨(some 55), none, .mov (.t 0)⟩,
     ⟨(some 56), none, .mov (.t 1)⟩,
     ⟨(some 57), none, .mov (.t 12)⟩,
     ⟨(some 58), none, .bin .add .no (.t 56) (.t 57)⟩,
     ⟨(some 59), none, .iaddr 2 none (.t 55) (.t 58)⟩,
     ⟨(some 60), none, .load (some 2) (.t 59)⟩,
     ⟨(some 61), none, .mov (.t 0)⟩,
     ⟨(some 62), none, .mov (.t 11)⟩,
     ⟨(some 63), none, .iaddr 2 none (.t 61) (.t 62)⟩,
     ⟨(some 64), none, .load (some 2) (.t 63)⟩,
     ⟨(some 65), none, .iaddr 2 none (.t 49) (.t 50)⟩,
     ⟨none, none, .store (some 2) (.t 65) (.t 60)⟩,
     ⟨(some 66), none, .iaddr 2 none (.t 51) (.t 54)⟩,
     ⟨none, none, .store (some 2) (.t 66) (.t 64)⟩]
     (.fl 0 (.fl 1 (.fl 2 (.fl 3 (.fl 4 (.fl 5 (.fl 6 (.fl 7 (.fl 8 (.fl 9 (.fr 10 (.fr 11 (.fl 12 (.fl 13 (.fr 14 (.fr 15 (.fr 16 (.st 17 [] (.fr 18 (.st 19 [] .done))))))))))))))))))))))))
   (.reg [⟨(some 36), none, .mov (.t 11)⟩,
     ⟨(some 37), none, .bin .add .no (.t 36) (.c (.raw (.int .i64 1)))⟩,
     ⟨(some 11), none, .mov (.t 37)⟩]))))))))
  .skip)))
theorem i_slices_breakPatternsCmpFunc_api_Dot : Is Try.prog 57 67 [] c_slices_breakPatternsCmpFunc_api_Dot := ⟨Try.f57, _, p_slices_breakPatternsCmpFunc_api_Dot, rfl, rfl, by kernel_rfl, by kernel_rfl, rfl⟩
def p_slices_choosePivotCmpFunc_api_Dot : List (Nat × Pl) := []
def c_slices_choosePivotCmpFunc_api_Dot : VCode :=
 (.seq (.reg [⟨(some 8), none, .mov (.c (.raw (.int .i64 0)))⟩,
   ⟨(some 9), none, .mov (.c (.raw (.int .i64 0)))⟩])
 (.seq (.reg [⟨(some 15), none, .mov (.t 2)⟩,
   ⟨(some 16), none, .mov (.t 1)⟩,
   ⟨(some 17), none, .bin .sub .no (.t 15) (.t 16)⟩,
   ⟨(some 10), none, .mov (.t 17)⟩])
 (.seq (.reg [⟨(some 11), none, .new 3 [(.int .i64 0)]⟩])
 (.seq (.reg [⟨(some 18), none, .mov (.t 1)⟩,
   ⟨(some 19), none, .mov (.t 10)⟩,
   ⟨(some 20), none, .bin .quo .no (.t 19) (.c (.raw (.int .i64 4)))⟩,
   ⟨(some 21), none, .bin .mul .no (.t 20) (.c (.raw (.int .i64 1)))⟩,
   ⟨(some 22), none, .bin .add .no (.t 18) (.t 21)⟩,
   ⟨(some 12), none, .mov (.t 22)⟩])
 (.seq (.reg [⟨(some 23), none, .mov (.t 1)⟩,
   ⟨(some 24), none, .mov (.t 10)⟩,
   ⟨(some 25), none, .bin .quo .no (.t 24) (.c (.raw (.int .i64 4)))⟩,
   ⟨(some 26), none, .bin .mul .no (.t 25) (.c (.raw (.int .i64 2)))⟩,
   ⟨(some 27), none, .bin .add .no (.t 23) (.t 26)⟩,
   ⟨(some 13), none, .mov (.t 27)⟩])
 (.seq (.reg [⟨(some 28), none, .mov (.t 1)⟩,
   ⟨(some 29), none, .mov (.t 10)⟩,
   ⟨(some 30), none, .bin .quo .no (.t 29) (.c (.raw (.int .i64 4)))⟩,
   ⟨(some 31), none, .bin .mul .no (.t 30) (.c (.raw (.int .i64 3)))⟩,
   ⟨(some 32), none, .bin .add .no (.t 28) (.t 31)⟩,
   ⟨(some 14), none, .mov (.t 32)⟩])
 (.seq (.seq (.reg [⟨(some 33), none, .mov (.t 10)⟩,
   ⟨(some 34), none, .bin .geq .no (.t 33) (.c (.raw (.int .i64 8)))⟩])
 (.cond (.t 34)
  (.seq (.seq (.reg [⟨(some 35), none, .mov (.t 10)⟩,
    ⟨(some 36), none, .bin .geq .no (.t 35) (.c (.raw (.int .i64 50)))⟩])
  (.cond (.t 36)
   (.seq (.reg [⟨(some 37), none, .mov (.t 0)⟩,
     ⟨(some 38), none, .mov (.t 12)⟩,
     ⟨(some 39), none, .mov (.t 3)⟩,
     ⟨(some 40), none, .call 68 [(.t 37), (.t 38), (.t 11), (.t 39)]⟩,
     ⟨(some 12), none, .mov (.t 40)⟩])
   (.seq (.reg [⟨(some 41), none, .mov (.t 0)⟩,
     ⟨(some 42), none, .mov (.t 13)⟩,
     ⟨(some 43), none, .mov (.t 3)⟩,
     ⟨(some 44), none, .call 68 [(.t 41), (.t 42), (.t 11), (.t 43)]⟩,
     ⟨(some 13), none, .mov (.t 44)⟩])
   (.reg [⟨(some 45), none, .mov (.t 0)⟩,
     ⟨(some 46), none, .mov (.t 14)⟩,
     ⟨(some 47), none, .mov (.t 3)⟩,
     ⟨(some 48), none, .call 68 [(.t 45), (.t 46), (.t 11), (.t 47)]⟩,
     ⟨(some 14), none, .mov (.t 48)⟩])))
   .skip))
  (.reg [⟨(some 49), none, .mov (.t 0)⟩,
    ⟨(some 50), none, .mov (.t 12)⟩,
    ⟨(some 51), none, .mov (.t 13)⟩,
    ⟨(some 52), none, .mov (.t 14)⟩,
    ⟨(some 53), none, .mov (.t 3)⟩,
    ⟨(some 54), none, .call 69 [(.t 49), (.t 50), (.t 51), (.t 52), (.t 11), (.t 53)]⟩,
    ⟨(some 13), none, .mov (.t 54)⟩]))
  .skip))
 (.seq (.reg [⟨(some 55), none, .load none (.t 11)⟩])
 (.block 0 (.seq (.reg [⟨(some 58), none, .bin .eql .no (.t 55) (.c (.raw (.int .i64 0)))⟩,
   ⟨(some 57), none, .mov (.t 58)⟩])
 (.cond (.t 57)
  (.seq (.reg [⟨(some 59), none, .mov (.t 13)⟩,
    ⟨(some 8), none, .mov (.t 59)⟩,
    ⟨(some 9), none, .mov (.c (.raw (.int .i64 1)))⟩])
  .ret)
  (.seq (.reg [⟨(some 61), none, .bin .eql .no (.t 55) (.c (.raw (.int .i64 12)))⟩,
    ⟨(some 60), none, .mov (.t 61)⟩])
  (.cond (.t 60)
   (.seq (.reg [⟨(some 62), none, .mov (.t 13)⟩,
     ⟨(some 8), none, .mov (.t 62)⟩,
     ⟨(some 9), none, .mov (.c (.raw (.int .i64 2)))⟩])
   .ret)
   (.seq (.reg [⟨(some 56), none, .mov (.t 13)⟩,
     ⟨(some 8), none, .mov (.t 56)⟩,
     ⟨(some 9), none, .mov (.c (.raw (.int .i64 0)))⟩])
   .ret))))))))))))))
theorem i_slices_choosePivotCmpFunc_api_Dot : Is Try.prog 58 63 [.t 8, .t 9] c_slices_choosePivotCmpFunc_api_Dot := ⟨Try.f58, _, p_slices_choosePivotCmpFunc_api_Dot, rfl, rfl, by kernel_rfl, by kernel_rfl, rfl⟩
def p_slices_reverseRangeCmpFunc_api_Dot : List (Nat × Pl) := [(3, (.fl 0 (.fl 1 (.fl 2 (.fl 3 (.fl 4 (.fl 5 (.fr 6 (.fr 7 (.fl 8 (.fl 9 (.fr 10 (.fr 11 (.fr 12 (.st 13 [] (.fr 14 (.st 15 [] .done)))))))))))))))))]
def c_slices_reverseRangeCmpFunc_api_Dot : VCode :=
 (.seq (.reg [⟨(some 10), none, .mov (.t 1)⟩,
   ⟨(some 8), none, .mov (.t 10)⟩])
 (.seq (.reg [⟨(some 11), none, .mov (.t 2)⟩,
   ⟨(some 12), none, .bin .sub .no (.t 11) (.c (.raw (.int .i64 1)))⟩,
   ⟨(some 9), none, .mov (.t 12)⟩])
 (.block 0 (.loop (.seq (.seq (.reg [⟨(some 13), none, .mov (.t 8)⟩,
    ⟨(some 14), none, .mov (.t 9)⟩,
    ⟨(some 15), none, .bin .lss .no (.t 13) (.t 14)⟩])
  (.cond (.t 15)
   .skip
   (.exit 0)))
  (.block 1 (.seq (.draw [⟨(some 16), none, .mov (.t 0)⟩,
    ⟨(some 17), none, .mov (.t 8)⟩,
    ⟨(some 18), none, .mov (.t 0)⟩,
    ⟨(some 19), none, .mov (.t 9)⟩,
    ⟨(some 20), none, .mov (.t 0)⟩,
    ⟨(some 21), none, .mov (.t 9)⟩,
    ⟨(some 22), none, .iaddr 2 none (.t 20) (.t 21)⟩,
    ⟨(some 23), none, .load (some 2) (.t 22)⟩,
    ⟨(some 24), none, .mov (.t 0)⟩,
    ⟨(some 25), none, .mov (.t 8)⟩,
    ⟨(some 26), none, .iaddr 2 none (.t 24) (.t 25)⟩,
    ⟨(some 27), none, .load (some 2) (.t 26)⟩,
    ⟨(some 28), none, .iaddr 2 none (.t 16) (.t 17)⟩,
    ⟨none, none, .store (some 2) (.t 28) (.t 23)⟩,
    ⟨(some 29), none, .iaddr 2 none (.t 18) (.t 19)⟩,
    ⟨none, none, .store (some 2) (.t 29) (.t 27)⟩]
    (.fl 0 (.fl 1 (.fl 2 (.fl 3 (.fl 4 (.fl 5 (.fr 6 (.fr 7 (.fl 8 (.fl 9 (.fr 10 (.fr 11 (.fr 12 (.st 13 [] (.fr 14 (.st 15 [] .done)))))))))))))))))
  (.seq (.reg [⟨(some 30), none, .mov (.t 8)⟩,
    ⟨(some 31), none, .bin .add .no (.t 30) (.c (.raw (.int .i64 1)))⟩,
    ⟨(some 8), none, .mov (.t 31)⟩])
  (.reg [⟨(some 32), none, .mov (.t 9)⟩,
    ⟨(some 33), none, .bin .sub .no (.t 32) (.c (.raw (.int .i64 1)))⟩,
    ⟨(some 9), none, .mov (.t 33)⟩])))))))))
theorem i_slices_reverseRangeCmpFunc_api_Dot : Is Try.prog 59 34 [] c_slices_reverseRangeCmpFunc_api_Dot := ⟨Try.f59, _, p_slices_reverseRangeCmpFunc_api_Dot, rfl, rfl, by kernel_rfl, by kernel_rfl, rfl⟩
def p_slices_partialInsertionSortCmpFunc_api_Dot : List (Nat × Pl) := [(5, (.fl 0 (.fl 1 (.fl 2 (.fl 3 (.fl 4 (.fl 5 (.fl 6 (.fr 7 (.fr 8 (.fl 9 (.fl 10 (.fl 11 (.fr 12 (.fr 13 (.st 14 [] (.fl 15 (.fl 16 (.fl 17 .done))))))))))))))))))), (11, (.fl 0 (.fl 1 (.fl 2 (.fl 3 (.fl 4 (.fl 5 (.fl 6 (.fl 7 (.fr 8 (.fr 9 (.fl 10 (.fl 11 (.fr 12 (.fr 13 (.fr 14 (.st 15 [] (.fr 16 (.st 17 [] .done))))))))))))))))))), (16, (.fl 0 (.fl 1 (.fl 2 (.fr 3 (.fr 4 (.fl 5 (.fl 6 (.fl 7 (.fr 8 (.fr 9 (.st 10 [] (.fl 11 (.fl 12 .done)))))))))))))), (17, (.fl 0 (.fl 1 (.fl 2 (.fl 3 (.fl 4 (.fl 5 (.fl 6 (.fl 7 (.fr 8 (.fr 9 (.fl 10 (.fl 11 (.fr 12 (.fr 13 (.fr 14 (.st 15 [] (.fr 16 (.st 17 [] .done))))))))))))))))))), (22, (.fl 0 (.fl 1 (.fl 2 (.fr 3 (.fr 4 (.fl 5 (.fl 6 (.fl 7 (.fr 8 (.fr 9 (.st 10 [] (.fl 11 (.fl 12 .done)))))))))))))), (23, (.fl 0 (.fl 1 (.fl 2 (.fl 3 (.fl 4 (.fl 5 (.fl 6 (.fl 7 (.fr 8 (.fr 9 (.fl 10 (.fl 11 (.fr 12 (.fr 13 (.fr 14 (.st 15 [] (.fr 16 (.st 17 [] .done)))))))))))))))))))]
def c_slices_partialInsertionSortCmpFunc_api_Dot : VCode :=
 (.seq (.reg [⟨(some 8), none, .mov (.c (.kb false))⟩])
 (.seq (.reg [⟨(some 13), none, .mov (.t 1)⟩,
   ⟨(some 14), none, .bin .add .no (.t 13) (.c (.raw (.int .i64 1)))⟩,
   ⟨(some 9), none, .mov (.t 14)⟩])
 (.seq (.seq (.reg [⟨(some 10), none, .mov (.c (.raw (.int .i64 0)))⟩])
 (.block 0 (.loop (.seq (.seq (.reg [⟨(some 15), none, .mov (.t 10)⟩,
    ⟨(some 16), none, .bin .lss .no (.t 15) (.c (.raw (.int .i64 5)))⟩])
  (.cond (.t 16)
   .skip
   (.exit 0)))
  (.seq (.block 1 (.seq (.block 2 (.loop (.seq (.seq (.draw [⟨(some 19), none, .mov (.t 9)⟩,
     ⟨(some 20), none, .mov (.t 2)⟩,
     ⟨(some 21), none, .bin .lss .no (.t 19) (.t 20)⟩,
     ⟨(some 22), none, .mov (.t 21)⟩,
     ⟨(some 23), (some (22, true)), .mov (.t 3)⟩,
     ⟨(some 24), (some (22, true)), .mov (.t 0)⟩,
     ⟨(some 25), (some (22, true)), .mov (.t 9)⟩,
     ⟨(some 26), (some (22, true)), .iaddr 2 none (.t 24) (.t 25)⟩,
     ⟨(some 27), (some (22, true)), .load (some 2) (.t 26)⟩,
     ⟨(some 28), (some (22, true)), .mov (.t 0)⟩,
     ⟨(some 29), (some (22, true)), .mov (.t 9)⟩,
     ⟨(some 30), (some (22, true)), .bin .sub .no (.t 29) (.c (.raw (.int .i64 1)))⟩,
     ⟨(some 31), (some (22, true)), .iaddr 2 none (.t 28) (.t 30)⟩,
     ⟨(some 32), (some (22, true)), .load (some 2) (.t 31)⟩,
     ⟨(some 33), (some (22, true)), .callv (.t 23) [(.t 27), (.t 32)]⟩,
     ⟨(some 34), (some (22, true)), .bin .lss .no (.t 33) (.c (.raw (.int .i64 0)))⟩,
     ⟨(some 35), (some (22, true)), .un .not (.t 34)⟩,
     ⟨(some 36), none, .pick (.t 22) (.t 35) (.c (.kb false))⟩]
     (.fl 0 (.fl 1 (.fl 2 (.fl 3 (.fl 4 (.fl 5 (.fl 6 (.fr 7 (.fr 8 (.fl 9 (.fl 10 (.fl 11 (.fr 12 (.fr 13 (.st 14 [] (.fl 15 (.fl 16 (.fl 17 .done)))))))))))))))))))
   (.cond (.t 36)
    .skip
    (.exit 2)))
   (.block 3 (.reg [⟨(some 37), none, .mov (.t 9)⟩,
     ⟨(some 38), none, .bin .add .no (.t 37) (.c (.raw (.int .i64 1)))⟩,
     ⟨(some 9), none, .mov (.t 38)⟩])))))
  (.seq (.seq (.reg [⟨(some 39), none, .mov (.t 9)⟩,
    ⟨(some 40), none, .mov (.t 2)⟩,
    ⟨(some 41), none, .bin .eql .no (.t 39) (.t 40)⟩])
  (.cond (.t 41)
   (.seq (.reg [⟨(some 8), none, .mov (.c (.kb true))⟩])
   .ret)
   .skip))
  (.seq (.seq (.reg [⟨(some 42), none, .mov (.t 2)⟩,
    ⟨(some 43), none, .mov (.t 1)⟩,
    ⟨(some 44), none, .bin .sub .no (.t 42) (.t 43)⟩,
    ⟨(some 45), none, .bin .lss .no (.t 44) (.c (.raw (.int .i64 50)))⟩])
  (.cond (.t 45)
   (.seq (.reg [⟨(some 8), none, .mov (.c (.kb false))⟩])
   .ret)
   .skip))
  (.seq (.draw [⟨(some 46), none, .mov (.t 0)⟩,
    ⟨(some 47), none, .mov (.t 9)⟩,
    ⟨(some 48), none, .mov (.t 0)⟩,
    ⟨(some 49), none, .mov (.t 9)⟩,
    ⟨(some 50), none, .bin .sub .no (.t 49) (.c (.raw (.int .i64 1)))⟩,
    ⟨(some 51), none, .mov (.t 0)⟩,
    ⟨(some 52), none, .mov (.t 9)⟩,
    ⟨(some 53), none, .bin .sub .no (.t 52) (.c (.raw (.int .i64 1)))⟩,
    ⟨(some 54), none, .iaddr 2 none (.t 51) (.t 53)⟩,
    ⟨(some 55), none, .load (some 2) (.t 54)⟩,
    ⟨(some 56), none, .mov (.t 0)⟩,
    ⟨(some 57), none, .mov (.t 9)⟩,
    ⟨(some 58), none, .iaddr 2 none (.t 56) (.t 57)⟩,
    ⟨(some 59), none, .load (some 2) (.t 58)⟩,
    ⟨(some 60), none, .iaddr 2 none (.t 46) (.t 47)⟩,
    ⟨none, none, .store (some 2) (.t 60) (.t 55)⟩,
    ⟨(some 61), none, .iaddr 2 none (.t 48) (.t 50)⟩,
    ⟨none, none, .store (some 2) (.t 61) (.t 59)⟩]
    (.fl 0 (.fl 1 (.fl 2 (.fl 3 (.fl 4 (.fl 5 (.fl 6 (.fl 7 (.fr 8 (.fr 9 (.fl 10 (.fl 11 (.fr 12 (.fr 13 (.fr 14 (.st 15 [] (.fr 16 (.st 17 [] .done)))))))))))))))))))
  (.seq (.seq (.reg [⟨(some 62), none, .mov (.t 9)⟩,
    ⟨(some 63), none, .mov (.t 1)⟩,
    ⟨(some 64), none, .bin .sub .no (.t 62) (.t 63)⟩,
    ⟨(some 65), none, .bin .geq .no (.t 64) (.c (.raw (.int .i64 2)))⟩])
  (.cond (.t 65)
   (.seq (.reg [⟨(some 66), none, .mov (.t 9)⟩,
     ⟨(some 67), none, .bin .sub .no (.t 66) (.c (.raw (.int .i64 1)))⟩,
     ⟨(some 11), none, .mov (.t 67)⟩])
   (.block 4 (.loop (.seq (.seq (.reg [⟨(some 68), none, .mov (.t 11)⟩,
      ⟨(some 69), none, .bin .geq .no (.t 68) (.c (.raw (.int .i64 1)))⟩])
    (.cond (.t 69)
     .skip
     (.exit 4)))
    (.seq (.block 5 (.seq (.seq (.draw [⟨(some 72), none, .mov (.t 3)⟩,
      ⟨(some 73), none, .mov (.t 0)⟩,
      ⟨(some 74), none, .mov (.t 11)⟩,
      ⟨(some 75), none, .iaddr 2 none (.t 73) (.t 74)⟩,
      ⟨(some 76), none, .load (some 2) (.t 75)⟩,
      ⟨(some 77), none, .mov (.t 0)⟩,
      ⟨(some 78), none, .mov (.t 11)⟩,
      ⟨(some 79), none, .bin .sub .no (.t 78) (.c (.raw (.int .i64 1)))⟩,
      ⟨(some 80), none, .iaddr 2 none (.t 77) (.t 79)⟩,
      ⟨(some 81), none, .load (some 2) (.t 80)⟩,
      ⟨(some 82), none, .callv (.t 72) [(.t 76), (.t 81)]⟩,
      ⟨(some 83), none, .bin .lss .no (.t 82) (.c (.raw (.int .i64 0)))⟩,
      ⟨(some 84), none, .un .not (.t 83)⟩]
      (.fl 0 (.fl 1 (.fl 2 (.fr 3 (.fr 4 (.fl 5 (.fl 6 (.fl 7 (.fr 8 (.fr 9 (.st 10 [] (.fl 11 (.fl 12 .done))))))))))))))
    (.cond (.t 84)
     (.exit 4)
     .skip))
    (.draw [⟨(some 85), none, .mov (.t 0)⟩,
      ⟨(some 86), none, .mov (.t 11)⟩,
      ⟨(some 87), none, .mov (.t 0)⟩,
      ⟨(some 88), none, .mov (.t 11)⟩,
      ⟨(some 89), none, .bin .sub .no (.t 88) (.c (.raw (.int .i64 1)))⟩,
      ⟨(some 90), none, .mov (.t 0)⟩,
      ⟨(some 91), none, .mov (.t 11)⟩,
      ⟨(some 92), none, .bin .sub .no (.t 91) (.c (.raw (.int .i64 1)))⟩,
      ⟨(some 93), none, .iaddr 2 none (.t 90) (.t 92)⟩,
      ⟨(some 94), none, .load (some 2) (.t 93)⟩,
      ⟨(some 95), none, .mov (.t 0)⟩,
      ⟨(some 96), none, .mov (.t 11)⟩,
      ⟨(some 97), none, .iaddr 2 none (.t 95) (.t 96)⟩,
      ⟨(some 98), none, .load (some 2) (.t 97)⟩,
      ⟨(some 99), none, .iaddr 2 none (.t 85) (.t 86)⟩,
      ⟨none, none, .store (some 2) (.t 99) (.t 94)⟩,
      ⟨(some 100), none, .iaddr 2 none (.t 87) (.t 89)⟩,
      ⟨none, none, .store (some 2) (.t 100) (.t 98)⟩]
      (.fl 0 (.fl 1 (.fl 2 (.fl 3 (.fl 4 (.fl 5 (.fl 6 (.fl 7 (.fr 8 (.fr 9 (.fl 10 (.fl 11 (.fr 12 (.fr 13 (.fr 14 (.st 15 [] (.fr 16 (.st 17 [] .done)))))))))))))))))))))
    (.reg [⟨(some 70), none, .mov (.t 11)⟩,
      ⟨(some 71), none, .bin .sub .no (.t 70) (.c (.raw (.int .i64 1)))⟩,
      ⟨(some 11), none, .mov (.t 71)⟩]))))))
   .skip))
  (.seq (.reg [⟨(some 101), none, .mov (.t 2)⟩,
    ⟨(some 102), none, .mov (.t 9)⟩,
    ⟨(some 103), none, .bin .sub .no (.t 101) (.t 102)⟩,
    ⟨(some 104), none, .bin .geq .no (.t 103) (.c (.raw (.int .i64 2)))⟩])
  (.cond (.t 104)
   (.seq (.reg [⟨(some 105), none, .mov (.t 9)⟩,
     ⟨(some 106), none, .bin .add .no (.t 105) (.c (.raw (.int .i64 1)))⟩,
     ⟨(some 12), none, .mov (.t 106)⟩])
   (.block 6 (.loop (.seq (.seq (.reg [⟨(some 107), none, .mov (.t 12)⟩,
      ⟨(some 108), none, .mov (.t 2)⟩,
      ⟨(some 109), none, .bin .lss .no (.t 107) (.t 108)⟩])
    (.cond (.t 109)
     .skip
     (.exit 6)))
    (.seq (.block 7 (.seq (.seq (.draw [⟨(some 112), none, .mov (.t 3)⟩,
      ⟨(some 113), none, .mov (.t 0)⟩,
      ⟨(some 114), none, .mov (.t 12)⟩,
      ⟨(some 115), none, .iaddr 2 none (.t 113) (.t 114)⟩,
      ⟨(some 116), none, .load (some 2) (.t 115)⟩,
      ⟨(some 117), none, .mov (.t 0)⟩,
      ⟨(some 118), none, .mov (.t 12)⟩,
      ⟨(some 119), none, .bin .sub .no (.t 118) (.c (.raw (.int .i64 1)))⟩,
      ⟨(some 120), none, .iaddr 2 none (.t 117) (.t 119)⟩,
      ⟨(some 121), none, .load (some 2) (.t 120)⟩,
      ⟨(some 122), none, .callv (.t 112) [(.t 116), (.t 121)]⟩,
      ⟨(some 123), none, .bin .lss .no (.t 122) (.c (.raw (.int .i64 0)))⟩,
      ⟨(some 124), none, .un .not (.t 123)⟩]
      (.fl 0 (.fl 1 (.fl 2 (.fr 3 (.fr 4 (.fl 5 (.fl 6 (.fl 7 (.fr 8 (.fr 9 (.st 10 [] (.fl 11 (.fl 12 .done))))))))))))))
    (.cond (.t 124)
     (.exit 6)
     .skip))
    (.draw [⟨(some 125), none, .mov (.t 0)⟩,
      ⟨(some 126), none, .mov (.t 12)⟩,
      ⟨(some 127), none, .mov (.t 0)⟩,
      ⟨(some 128), none, .mov (.t 12)⟩,
      ⟨(some 129), none, .bin .sub .no (.t 128) (.c (.raw (.int .i64 1)))⟩,
      ⟨(some 130), none, .mov (.t 0)⟩,
      ⟨(some 131), none, .mov (.t 12)⟩,
      ⟨(some 132), none, .bin .sub .no (.t 131) (.c (.raw (.int .i64 1)))⟩,
      ⟨(some 133), none, .iaddr 2 none (.t 130) (.t 132)⟩,
      ⟨(some 134), none, .load (some 2) (.t 133)⟩,
      ⟨(some 135), none, .mov (.t 0)⟩,
      ⟨(some 136), none, .mov (.t 12)⟩,
      ⟨(some 137), none, .iaddr 2 none (.t 135) (.t 136)⟩,
      ⟨(some 138), none, .load (some 2) (.t 137)⟩,
      ⟨(some 139), none, .iaddr 2 none (.t 125) (.t 126)⟩,
      ⟨none, none, .store (some 2) (.t 139) (.t 134)⟩,
      ⟨(some 140), none, .iaddr 2 none (.t 127) (.t 129)⟩,
      ⟨none, none, .store (some 2) (.t 140) (.t 138)⟩]
      (.fl 0 (.fl 1 (.fl 2 (.fl 3 (.fl 4 (.fl 5 (.fl 6 (.fl 7 (.fr 8 (.fr 9 (.fl 10 (.fl 11 (.fr 12 (.fr 13 (.fr 14 (.st 15 [] (.fr 16 (.st 17 [] .done)))))))))))))))))))))
    (.reg [⟨(some 110), none, .mov (.t 12)⟩,
      ⟨(some 111), none, .bin .add .no (.t 110) (.c (.raw (.int .i64 1)))⟩,
      ⟨(some 12), none, .mov (.t 111)⟩]))))))
   .skip))))))))
  (.reg [⟨(some 17), none, .mov (.t 10)⟩,
    ⟨(some 18), none, .bin .add .no (.t 17) (.c (.raw (.int .i64 1)))⟩,
    ⟨(some 10), none, .mov (.t 18)⟩]))))))
 (.seq (.reg [⟨(some 8), none, .mov (.c (.kb false))⟩])
 .ret))))
theorem i_slices_partialInsertionSortCmpFunc_api_Dot : Is Try.prog 60 141 [.t 8] c_slices_partialInsertionSortCmpFunc_api_Dot := ⟨Try.f60, _, p_slices_partialInsertionSortCmpFunc_api_Dot, rfl, rfl, by kernel_rfl, by kernel_rfl, rfl⟩
def p_slices_partitionEqualCmpFunc_api_Dot : List (Nat × Pl) := [(1, (.fl 0 (.fl 1 (.fl 2 (.fl 3 (.fl 4 (.fl 5 (.fr 6 (.fr 7 (.fl 8 (.fl 9 (.fr 10 (.fr 11 (.fr 12 (.st 13 [] (.fr 14 (.st 15 [] .done))))))))))))))))), (3, (.fl 0 (.fl 1 (.fl 2 (.fl 3 (.fl 4 (.fl 5 (.fl 6 (.fr 7 (.fr 8 (.fl 9 (.fl 10 (.fr 11 (.fr 12 (.st 13 [] (.fl 14 (.fl 15 (.fl 16 .done)))))))))))))))))), (5, (.fl 0 (.fl 1 (.fl 2 (.fl 3 (.fl 4 (.fl 5 (.fl 6 (.fr 7 (.fr 8 (.fl 9 (.fl 10 (.fr 11 (.fr 12 (.st 13 [] (.fl 14 (.fl 15 .done))))))))))))))))), (8, (.fl 0 (.fl 1 (.fl 2 (.fl 3 (.fl 4 (.fl 5 (.fr 6 (.fr 7 (.fl 8 (.fl 9 (.fr 10 (.fr 11 (.fr 12 (.st 13 [] (.fr 14 (.st 15 [] .done)))))))))))))))))]
def c_slices_partitionEqualCmpFunc_api_Dot : VCode :=
 (.seq (.reg [⟨(some 10), none, .mov (.c (.raw (.int .i64 0)))⟩])
 (.seq (.draw [⟨(some 13), none, .mov (.t 0)⟩,
   ⟨(some 14), none, .mov (.t 1)⟩,
   ⟨(some 15), none, .mov (.t 0)⟩,
   ⟨(some 16), none, .mov (.t 3)⟩,
   ⟨(some 17), none, .mov (.t 0)⟩,
   ⟨(some 18), none, .mov (.t 3)⟩,
   ⟨(some 19), none, .iaddr 2 none (.t 17) (.t 18)⟩,
   ⟨(some 20), none, .load (some 2) (.t 19)⟩,
   ⟨(some 21), none, .mov (.t 0)⟩,
   ⟨(some 22), none, .mov (.t 1)⟩,
   ⟨(some 23), none, .iaddr 2 none (.t 21) (.t 22)⟩,
   ⟨(some 24), none, .load (some 2) (.t 23)⟩,
   ⟨(some 25), none, .iaddr 2 none (.t 13) (.t 14)⟩,
   ⟨none, none, .store (some 2) (.t 25) (.t 20)⟩,
   ⟨(some 26), none, .iaddr 2 none (.t 15) (.t 16)⟩,
   ⟨none, none, .store (some 2) (.t 26) (.t 24)⟩]
   (.fl 0 (.fl 1 (.fl 2 (.fl 3 (.fl 4 (.fl 5 (.fr 6 (.fr 7 (.fl 8 (.fl 9 (.fr 10 (.fr 11 (.fr 12 (.st 13 [] (.fr 14 (.st 15 [] .done)))))))))))))))))
 (.seq (.reg [⟨(some 27), none, .mov (.t 1)⟩,
   ⟨(some 28), none, .bin .add .no (.t 27) (.c (.raw (.int .i64 1)))⟩,
   ⟨(some 29), none, .mov (.t 2)⟩,
   ⟨(some 30), none, .bin .sub .no (.t 29) (.c (.raw (.int .i64 1)))⟩,
   ⟨(some 11), none, .mov (.t 28)⟩,
   ⟨(some 12), none, .mov (.t 30)⟩])
 (.seq (.block 0 (.loop (.block 1 (.seq (.block 2 (.loop (.seq (.seq (.draw [⟨(some 31), none, .mov (.t 11)⟩,
     ⟨(some 32), none, .mov (.t 12)⟩,
     ⟨(some 33), none, .bin .leq .no (.t 31) (.t 32)⟩,
     ⟨(some 34), none, .mov (.t 33)⟩,
     ⟨(some 35), (some (34, true)), .mov (.t 4)⟩,
     ⟨(some 36), (some (34, true)), .mov (.t 0)⟩,
     ⟨(some 37), (some (34, true)), .mov (.t 1)⟩,
     ⟨(some 38), (some (34, true)), .iaddr 2 none (.t 36) (.t 37)⟩,
     ⟨(some 39), (some (34, true)), .load (some 2) (.t 38)⟩,
     ⟨(some 40), (some (34, true)), .mov (.t 0)⟩,
     ⟨(some 41), (some (34, true)), .mov (.t 11)⟩,
     ⟨(some 42), (some (34, true)), .iaddr 2 none (.t 40) (.t 41)⟩,
     ⟨(some 43), (some (34, true)), .load (some 2) (.t 42)⟩,
     ⟨(some 44), (some (34, true)), .callv (.t 35) [(.t 39), (.t 43)]⟩,
     ⟨(some 45), (some (34, true)), .bin .lss .no (.t 44) (.c (.raw (.int .i64 0)))⟩,
     ⟨(some 46), (some (34, true)), .un .not (.t 45)⟩,
     ⟨(some 47), none, .pick (.t 34) (.t 46) (.c (.kb false))⟩]
     (.fl 0 (.fl 1 (.fl 2 (.fl 3 (.fl 4 (.fl 5 (.fl 6 (.fr 7 (.fr 8 (.fl 9 (.fl 10 (.fr 11 (.fr 12 (.st 13 [] (.fl 14 (.fl 15 (.fl 16 .done))))))))))))))))))
   (.cond (.t 47)
    .skip
    (.exit 2)))
   (.block 3 (.reg [⟨(some 48), none, .mov (.t 11)⟩,
     ⟨(some 49), none, .bin .add .no (.t 48) (.c (.raw (.int .i64 1)))⟩,
     ⟨(some 11), none, .mov (.t 49)⟩])))))
  (.seq (.block 4 (.loop (.seq (.seq (.draw [⟨(some 50), none, .mov (.t 11)⟩,
     ⟨(some 51), none, .mov (.t 12)⟩,
     ⟨(some 52), none, .bin .leq .no (.t 50) (.t 51)⟩,
     ⟨(some 53), none, .mov (.t 52)⟩,
     ⟨(some 54), (some (53, true)), .mov (.t 4)⟩,
     ⟨(some 55), (some (53, true)), .mov (.t 0)⟩,
     ⟨(some 56), (some (53, true)), .mov (.t 1)⟩,
     ⟨(some 57), (some (53, true)), .iaddr 2 none (.t 55) (.t 56)⟩,
     ⟨(some 58), (some (53, true)), .load (some 2) (.t 57)⟩,
     ⟨(some 59), (some (53, true)), .mov (.t 0)⟩,
     ⟨(some 60), (some (53, true)), .mov (.t 12)⟩,
     ⟨(some 61), (some (53, true)), .iaddr 2 none (.t 59) (.t 60)⟩,
     ⟨(some 62), (some (53, true)), .load (some 2) (.t 61)⟩,
     ⟨(some 63), (some (53, true)), .callv (.t 54) [(.t 58), (.t 62)]⟩,
     ⟨(some 64), (some (53, true)), .bin .lss .no (.t 63) (.c (.raw (.int .i64 0)))⟩,
     ⟨(some 65), none, .pick (.t 53) (.t 64) (.c (.kb false))⟩]
     (.fl 0 (.fl 1 (.fl 2 (.fl 3 (.fl 4 (.fl 5 (.fl 6 (.fr 7 (.fr 8 (.fl 9 (.fl 10 (.fr 11 (.fr 12 (.st 13 [] (.fl 14 (.fl 15 .done)))))))))))))))))
   (.cond (.t 65)
    .skip
    (.exit 4)))
   (.block 5 (.reg [⟨(some 66), none, .mov (.t 12)⟩,
     ⟨(some 67), none, .bin .sub .no (.t 66) (.c (.raw (.int .i64 1)))⟩,
     ⟨(some 12), none, .mov (.t 67)⟩])))))
  (.seq (.seq (.reg [⟨(some 68), none, .mov (.t 11)⟩,
    ⟨(some 69), none, .mov (.t 12)⟩,
    ⟨(some 70), none, .bin .gtr .no (.t 68) (.t 69)⟩])
  (.cond (.t 70)
   (.exit 0)
   .skip))
  (.seq (.draw [⟨(some 71), none, .mov (.t 0)⟩,
    ⟨(some 72), none, .mov (.t 11)⟩,
    ⟨(some 73), none, .mov (.t 0)⟩,
    ⟨(some 74), none, .mov (.t 12)⟩,
    ⟨(some 75), none, .mov (.t 0)⟩,
    ⟨(some 76), none, .mov (.t 12)⟩,
    ⟨(some 77), none, .iaddr 2 none (.t 75) (.t 76)⟩,
    ⟨(some 78), none, .load (some 2) (.t 77)⟩,
    ⟨(some 79), none, .mov (.t 0)⟩,
    ⟨(some 80), none, .mov (.t 11)⟩,
    ⟨(some 81), none, .iaddr 2 none (.t 79) (.t 80)⟩,
    ⟨(some 82), none, .load (some 2) (.t 81)⟩,
    ⟨(some 83), none, .iaddr 2 none (.t 71) (.t 72)⟩,
    ⟨none, none, .store (some 2) (.t 83) (.t 78)⟩,
    ⟨(some 84), none, .iaddr 2 none (.t 73) (.t 74)⟩,
    ⟨none, none, .store (some 2) (.t 84) (.t 82)⟩]
    (.fl 0 (.fl 1 (.fl 2 (.fl 3 (.fl 4 (.fl 5 (.fr 6 (.fr 7 (.fl 8 (.fl 9 (.fr 10 (.fr 11 (.fr 12 (.st 13 [] (.fr 14 (.st 15 [] .done)))))))))))))))))
  (.seq (.reg [⟨(some 85), none, .mov (.t 11)⟩,
    ⟨(some 86), none, .bin .add .no (.t 85) (.c (.raw (.int .i64 1)))⟩,
    ⟨(some 11), none, .mov (.t 86)⟩])
  (.reg [⟨(some 87), none, .mov (.t 12)⟩,
    ⟨(some 88), none, .bin .sub .no (.t 87) (.c (.raw (.int .i64 1)))⟩,
    ⟨(some 12), none, .mov (.t 88)⟩])))))))))
 (.seq (.reg [⟨(some 89), none, .mov (.t 11)⟩,
   ⟨(some 10), none, .mov (.t 89)⟩])
 .ret)))))
theorem i_slices_partitionEqualCmpFunc_api_Dot : Is Try.prog 61 90 [.t 10] c_slices_partitionEqualCmpFunc_api_Dot := ⟨Try.f61, _, p_slices_partitionEqualCmpFunc_api_Dot, rfl, rfl, by kernel_rfl, by kernel_rfl, rfl⟩
def p_slices_partitionCmpFunc_api_Dot : List (Nat × Pl) := [(1, (.fl 0 (.fl 1 (.fl 2 (.fl 3 (.fl 4 (.fl 5 (.fr 6 (.fr 7 (.fl 8 (.fl 9 (.fr 10 (.fr 11 (.fr 12 (.st 13 [] (.fr 14 (.st 15 [] .done))))))))))))))))), (3, (.fl 0 (.fl 1 (.fl 2 (.fl 3 (.fl 4 (.fl 5 (.fl 6 (.fr 7 (.fr 8 (.fl 9 (.fl 10 (.fr 11 (.fr 12 (.st 13 [] (.fl 14 (.fl 15 .done))))))))))))))))), (5, (.fl 0 (.fl 1 (.fl 2 (.fl 3 (.fl 4 (.fl 5 (.fl 6 (.fr 7 (.fr 8 (.fl 9 (.fl 10 (.fr 11 (.fr 12 (.st 13 [] (.fl 14 (.fl 15 (.fl 16 .done)))))))))))))))))), (8, (.fl 0 (.fl 1 (.fl 2 (.fl 3 (.fl 4 (.fl 5 (.fr 6 (.fr 7 (.fl 8 (.fl 9 (.fr 10 (.fr 11 (.fr 12 (.st 13 [] (.fr 14 (.st 15 [] .done))))))))))))))))), (10, (.fl 0 (.fl 1 (.fl 2 (.fl 3 (.fl 4 (.fl 5 (.fr 6 (.fr 7 (.fl 8 (.fl 9 (.fr 10 (.fr 11 (.fr 12 (.st 13 [] (.fr 14 (.st 15 [] .done))))))))))))))))), (13, (.fl 0 (.fl 1 (.fl 2 (.fl 3 (.fl 4 (.fl 5 (.fl 6 (.fr 7 (.fr 8 (.fl 9 (.fl 10 (.fr 11 (.fr 12 (.st 13 [] (.fl 14 (.fl 15 .done))))))))))))))))), (15, (.fl 0 (.fl 1 (.fl 2 (.fl 3 (.fl 4 (.fl 5 (.fl 6 (.fr 7 (.fr 8 (.fl 9 (.fl 10 (.fr 11 (.fr 12 (.st 13 [] (.fl 14 (.fl 15 (.fl 16 .done)))))))))))))))))), (18, (.fl 0 (.fl 1 (.fl 2 (.fl 3 (.fl 4 (.fl 5 (.fr 6 (.fr 7 (.fl 8 (.fl 9 (.fr 10 (.fr 11 (.fr 12 (.st 13 [] (.fr 14 (.st 15 [] .done))))))))))))))))), (21, (.fl 0 (.fl 1 (.fl 2 (.fl 3 (.fl 4 (.fl 5 (.fr 6 (.fr 7 (.fl 8 (.fl 9 (.fr 10 (.fr 11 (.fr 12 (.st 13 [] (.fr 14 (.st 15 [] .done)))))))))))))))))]
def c_slices_partitionCmpFunc_api_Dot : VCode :=
 (.seq (.reg [⟨(some 10), none, .mov (.c (.raw (.int .i64 0)))⟩,
   ⟨(some 11), none, .mov (.c (.kb false))⟩])
 (.seq (.draw [⟨(some 14), none, .mov (.t 0)⟩,
   ⟨(some 15), none, .mov (.t 1)⟩,
   ⟨(some 16), none, .mov (.t 0)⟩,
   ⟨(some 17), none, .mov (.t 3)⟩,
   ⟨(some 18), none, .mov (.t 0)⟩,
   ⟨(some 19), none, .mov (.t 3)⟩,
   ⟨(some 20), none, .iaddr 2 none (.t 18) (.t 19)⟩,
   ⟨(some 21), none, .load (some 2) (.t 20)⟩,
   ⟨(some 22), none, .mov (.t 0)⟩,
   ⟨(some 23), none, .mov (.t 1)⟩,
   ⟨(some 24), none, .iaddr 2 none (.t 22) (.t 23)⟩,
   ⟨(some 25), none, .load (some 2) (.t 24)⟩,
   ⟨(some 26), none, .iaddr 2 none (.t 14) (.t 15)⟩,
   ⟨none, none, .store (some 2) (.t 26) (.t 21)⟩,
   ⟨(some 27), none, .iaddr 2 none (.t 16) (.t 17)⟩,
   ⟨none, none, .store (some 2) (.t 27) (.t 25)⟩]
   (.fl 0 (.fl 1 (.fl 2 (.fl 3 (.fl 4 (.fl 5 (.fr 6 (.fr 7 (.fl 8 (.fl 9 (.fr 10 (.fr 11 (.fr 12 (.st 13 [] (.fr 14 (.st 15 [] .done)))))))))))))))))
 (.seq (.reg [⟨(some 28), none, .mov (.t 1)⟩,
   ⟨(some 29), none, .bin .add .no (.t 28) (.c (.raw (.int .i64 1)))⟩,
   ⟨(some 30), none, .mov (.t 2)⟩,
   ⟨(some 31), none, .bin .sub .no (.t 30) (.c (.raw (.int .i64 1)))⟩,
   ⟨(some 12), none, .mov (.t 29)⟩,
   ⟨(some 13), none, .mov (.t 31)⟩])
 (.seq (.block 0 (.loop (.seq (.seq (.draw [⟨(some 32), none, .mov (.t 12)⟩,
    ⟨(some 33), none, .mov (.t 13)⟩,
    ⟨(some 34), none, .bin .leq .no (.t 32) (.t 33)⟩,
    ⟨(some 35), none, .mov (.t 34)⟩,
    ⟨(some 36), (some (35, true)), .mov (.t 4)⟩,
    ⟨(some 37), (some (35, true)), .mov (.t 0)⟩,
    ⟨(some 38), (some (35, true)), .mov (.t 12)⟩,
    ⟨(some 39), (some (35, true)), .iaddr 2 none (.t 37) (.t 38)⟩,
    ⟨(some 40), (some (35, true)), .load (some 2) (.t 39)⟩,
    ⟨(some 41), (some (35, true)), .mov (.t 0)⟩,
    ⟨(some 42), (some (35, true)), .mov (.t 1)⟩,
    ⟨(some 43), (some (35, true)), .iaddr 2 none (.t 41) (.t 42)⟩,
    ⟨(some 44), (some (35, true)), .load (some 2) (.t 43)⟩,
    ⟨(some 45), (some (35, true)), .callv (.t 36) [(.t 40), (.t 44)]⟩,
    ⟨(some 46), (some (35, true)), .bin .lss .no (.t 45) (.c (.raw (.int .i64 0)))⟩,
    ⟨(some 47), none, .pick (.t 35) (.t 46) (.c (.kb false))⟩]
    (.fl 0 (.fl 1 (.fl 2 (.fl 3 (.fl 4 (.fl 5 (.fl 6 (.fr 7 (.fr 8 (.fl 9 (.fl 10 (.fr 11 (.fr 12 (.st 13 [] (.fl 14 (.fl 15 .done)))))))))))))))))
  (.cond (.t 47)
   .skip
   (.exit 0)))
  (.block 1 (.reg [⟨(some 48), none, .mov (.t 12)⟩,
    ⟨(some 49), none, .bin .add .no (.t 48) (.c (.raw (.int .i64 1)))⟩,
    ⟨(some 12), none, .mov (.t 49)⟩])))))
 (.seq (.block 2 (.loop (.seq (.seq (.draw [⟨(some 50), none, .mov (.t 12)⟩,
    ⟨(some 51), none, .mov (.t 13)⟩,
    ⟨(some 52), none, .bin .leq .no (.t 50) (.t 51)⟩,
    ⟨(some 53), none, .mov (.t 52)⟩,
    ⟨(some 54), (some (53, true)), .mov (.t 4)⟩,
    ⟨(some 55), (some (53, true)), .mov (.t 0)⟩,
    ⟨(some 56), (some (53, true)), .mov (.t 13)⟩,
    ⟨(some 57), (some (53, true)), .iaddr 2 none (.t 55) (.t 56)⟩,
    ⟨(some 58), (some (53, true)), .load (some 2) (.t 57)⟩,
    ⟨(some 59), (some (53, true)), .mov (.t 0)⟩,
    ⟨(some 60), (some (53, true)), .mov (.t 1)⟩,
    ⟨(some 61), (some (53, true)), .iaddr 2 none (.t 59) (.t 60)⟩,
    ⟨(some 62), (some (53, true)), .load (some 2) (.t 61)⟩,
    ⟨(some 63), (some (53, true)), .callv (.t 54) [(.t 58), (.t 62)]⟩,
    ⟨(some 64), (some (53, true)), .bin .lss .no (.t 63) (.c (.raw (.int .i64 0)))⟩,
    ⟨(some 65), (some (53, true)), .un .not (.t 64)⟩,
    ⟨(some 66), none, .pick (.t 53) (.t 65) (.c (.kb false))⟩]
    (.fl 0 (.fl 1 (.fl 2 (.fl 3 (.fl 4 (.fl 5 (.fl 6 (.fr 7 (.fr 8 (.fl 9 (.fl 10 (.fr 11 (.fr 12 (.st 13 [] (.fl 14 (.fl 15 (.fl 16 .done))))))))))))))))))
  (.cond (.t 66)
   .skip
   (.exit 2)))
  (.block 3 (.reg [⟨(some 67), none, .mov (.t 13)⟩,
    ⟨(some 68), none, .bin .sub .no (.t 67) (.c (.raw (.int .i64 1)))⟩,
    ⟨(some 13), none, .mov (.t 68)⟩])))))
 (.seq (.seq (.reg [⟨(some 69), none, .mov (.t 12)⟩,
   ⟨(some 70), none, .mov (.t 13)⟩,
   ⟨(some 71), none, .bin .gtr .no (.t 69) (.t 70)⟩])
 (.cond (.t 71)
  (.seq (.draw [⟨(some 72), none, .mov (.t 0)⟩,
    ⟨(some 73), none, .mov (.t 13)⟩,
    ⟨(some 74), none, .mov (.t 0)⟩,
    ⟨(some 75), none, .mov (.t 1)⟩,
    ⟨(some 76), none, .mov (.t 0)⟩,
    ⟨(some 77), none, .mov (.t 1)⟩,
    ⟨(some 78), none, .iaddr 2 none (.t 76) (.t 77)⟩,
    ⟨(some 79), none, .load (some 2) (.t 78)⟩,
    ⟨(some 80), none, .mov (.t 0)⟩,
    ⟨(some 81), none, .mov (.t 13)⟩,
    ⟨(some 82), none, .iaddr 2 none (.t 80) (.t 81)⟩,
    ⟨(some 83), none, .load (some 2) (.t 82)⟩,
    ⟨(some 84), none, .iaddr 2 none (.t 72) (.t 73)⟩,
    ⟨none, none, .store (some 2) (.t 84) (.t 79)⟩,
    ⟨(some 85), none, .iaddr 2 none (.t 74) (.t 75)⟩,
    ⟨none, none, .store (some 2) (.t 85) (.t 83)⟩]
    (.fl 0 (.fl 1 (.fl 2 (.fl 3 (.fl 4 (.fl 5 (.fr 6 (.fr 7 (.fl 8 (.fl 9 (.fr 10 (.fr 11 (.fr 12 (.st 13 [] (.fr 14 (.st 15 [] .done)))))))))))))))))
  (.seq (.reg [⟨(some 86), none, .mov (.t 13)⟩,
    ⟨(some 10), none, .mov (.t 86)⟩,
    ⟨(some 11), none, .mov (.c (.kb true))⟩])
  .ret))
  .skip))
 (.seq (.draw [⟨(some 87), none, .mov (.t 0)⟩,
   ⟨(some 88), none, .mov (.t 12)⟩,
   ⟨(some 89), none, .mov (.t 0)⟩,
   ⟨(some 90), none, .mov (.t 13)⟩,
   ⟨(some 91), none, .mov (.t 0)⟩,
   ⟨(some 92), none, .mov (.t 13)⟩,
   ⟨(some 93), none, .iaddr 2 none (.t 91) (.t 92)⟩,
   ⟨(some 94), none, .load (some 2) (.t 93)⟩,
   ⟨(some 95), none, .mov (.t 0)⟩,
   ⟨(some 96), none, .mov (.t 12)⟩,
   ⟨(some 97), none, .iaddr 2 none (.t 95) (.t 96)⟩,
   ⟨(some 98), none, .load (some 2) (.t 97)⟩,
   ⟨(some 99), none, .iaddr 2 none (.t 87) (.t 88)⟩,
   ⟨none, none, .store (some 2) (.t 99) (.t 94)⟩,
   ⟨(some 100), none, .iaddr 2 none (.t 89) (.t 90)⟩,
   ⟨none, none, .store (some 2) (.t 100) (.t 98)⟩]
   (.fl 0 (.fl 1 (.fl 2 (.fl 3 (.fl 4 (.fl 5 (.fr 6 (.fr 7 (.fl 8 (.fl 9 (.fr 10 (.fr 11 (.fr 12 (.st 13 [] (.fr 14 (.st 15 [] .done)))))))))))))))))
 (.seq (.reg [⟨(some 101), none, .mov (.t 12)⟩,
   ⟨(some 102), none, .bin .add .no (.t 101) (.c (.raw (.int .i64 1)))⟩,
   ⟨(some 12), none, .mov (.t 102)⟩])
 (.seq (.reg [⟨(some 103), none, .mov (.t 13)⟩,
   ⟨(some 104), none, .bin .sub .no (.t 103) (.c (.raw (.int .i64 1)))⟩,
   ⟨(some 13), none, .mov (.t 104)⟩])
 (.seq (.block 4 (.loop (.block 5 (.seq (.block 6 (.loop (.seq (.seq (.draw [⟨(some 105), none, .mov (.t 12)⟩,
     ⟨(some 106), none, .mov (.t 13)⟩,
     ⟨(some 107), none, .bin .leq .no (.t 105) (.t 106)⟩,
     ⟨(some 108), none, .mov (.t 107)⟩,
     ⟨(some 109), (some (108, true)), .mov (.t 4)⟩,
     ⟨(some 110), (some (108, true)), .mov (.t 0)⟩,
     ⟨(some 111), (some (108, true)), .mov (.t 12)⟩,
     ⟨(some 112), (some (108, true)), .iaddr 2 none (.t 110) (.t 111)⟩,
     ⟨(some 113), (some (108, true)), .load (some 2) (.t 112)⟩,
     ⟨(some 114), (some (108, true)), .mov (.t 0)⟩,
     ⟨(some 115), (some (108, true)), .mov (.t 1)⟩,
     ⟨(some 116), (some (108, true)), .iaddr 2 none (.t 114) (.t 115)⟩,
     ⟨(some 117), (some (108, true)), .load (some 2) (.t 116)⟩,
     ⟨(some 118), (some (108, true)), .callv (.t 109) [(.t 113), (.t 117)]⟩,
     ⟨(some 119), (some (108, true)), .bin .lss .no (.t 118) (.c (.raw (.int .i64 0)))⟩,
     ⟨(some 120), none, .pick (.t 108) (.t 119) (.c (.kb false))⟩]
     (.fl 0 (.fl 1 (.fl 2 (.fl 3 (.fl 4 (.fl 5 (.fl 6 (.fr 7 (.fr 8 (.fl 9 (.fl 10 (.fr 11 (.fr 12 (.st 13 [] (.fl 14 (.fl 15 .done)))))))))))))))))
   (.cond (.t 120)
    .skip
    (.exit 6)))
   (.block 7 (.reg [⟨(some 121), none, .mov (.t 12)⟩,
     ⟨(some 122), none, .bin .add .no (.t 121) (.c (.raw (.int .i64 1)))⟩,
     ⟨(some 12), none, .mov (.t 122)⟩])))))
  (.seq (.block 8 (.loop (.seq (.seq (.draw [⟨(some 123), none, .mov (.t 12)⟩,
     ⟨(some 124), none, .mov (.t 13)⟩,
     ⟨(some 125), none, .bin .leq .no (.t 123) (.t 124)⟩,
     ⟨(some 126), none, .mov (.t 125)⟩,
     ⟨(some 127), (some (126, true)), .mov (.t 4)⟩,
     ⟨(some 128), (some (126, true)), .mov (.t 0)⟩,
     ⟨(some 129), (some (126, true)), .mov (.t 13)⟩,
     ⟨(some 130), (some (126, true)), .iaddr 2 none (.t 128) (.t 129)⟩,
     ⟨(some 131), (some (126, true)), .load (some 2) (.t 130)⟩,
     ⟨(some 132), (some (126, true)), .mov (.t 0)⟩,
     ⟨(some 133), (some (126, true)), .mov (.t 1)⟩,
     ⟨(some 134), (some (126, true)), .iaddr 2 none (.t 132) (.t 133)⟩,
     ⟨(some 135), (some (126, true)), .load (some 2) (.t 134)⟩,
     ⟨(some 136), (some (126, true)), .callv (.t 127) [(.t 131), (.t 135)]⟩,
     ⟨(some 137), (some (126, true)), .bin .lss .no (.t 136) (.c (.raw (.int .i64 0)))⟩,
     ⟨(some 138), (some (126, true)), .un .not (.t 137)⟩,
     ⟨(some 139), none, .pick (.t 126) (.t 138) (.c (.kb false))⟩]
     (.fl 0 (.fl 1 (.fl 2 (.fl 3 (.fl 4 (.fl 5 (.fl 6 (.fr 7 (.fr 8 (.fl 9 (.fl 10 (.fr 11 (.fr 12 (.st 13 [] (.fl 14 (.fl 15 (.fl 16 .done))))))))))))))))))
   (.cond (.t 139)
    .skip
    (.exit 8)))
   (.block 9 (.reg [⟨(some 140), none, .mov (.t 13)⟩,
     ⟨(some 141), none, .bin .sub .no (.t 140) (.c (.raw (.int .i64 1)))⟩,
     ⟨(some 13), none, .mov (.t 141)⟩])))))
  (.seq (.seq (.reg [⟨(some 142), none, .mov (.t 12)⟩,
    ⟨(some 143), none, .mov (.t 13)⟩,
    ⟨(some 144), none, .bin .gtr .no (.t 142) (.t 143)⟩])
  (.cond (.t 144)
   (.exit 4)
   .skip))
  (.seq (.draw [⟨(some 145), none, .mov (.t 0)⟩,
    ⟨(some 146), none, .mov (.t 12)⟩,
    ⟨(some 147), none, .mov (.t 0)⟩,
    ⟨(some 148), none, .mov (.t 13)⟩,
    ⟨(some 149), none, .mov (.t 0)⟩,
    ⟨(some 150), none, .mov (.t 13)⟩,
    ⟨(some 151), none, .iaddr 2 none (.t 149) (.t 150)⟩,
    ⟨(some 152), none, .load (some 2) (.t 151)⟩,
    ⟨(some 153), none, .mov (.t 0)⟩,
    ⟨(some 154), none, .mov (.t 12)⟩,
    ⟨(some 155), none, .iaddr 2 none (.t 153) (.t 154)⟩,
    ⟨(some 156), none, .load (some 2) (.t 155)⟩,
    ⟨(some 157), none, .iaddr 2 none (.t 145) (.t 146)⟩,
    ⟨none, none, .store (some 2) (.t 157) (.t 152)⟩,
    ⟨(some 158), none, .iaddr 2 none (.t 147) (.t 148)⟩,
    ⟨none, none, .store (some 2) (.t 158) (.t 156)⟩]
    (.fl 0 (.fl 1 (.fl 2 (.fl 3 (.fl 4 (.fl 5 (.fr 6 (.fr 7 (.fl 8 (.fl 9 (.fr 10 (.fr 11 (.fr 12 (.st 13 [] (.fr 14 (.st 15 [] .done)))))))))))))))))
  (.seq (.reg [⟨(some 159), none, .mov (.t 12)⟩,
    ⟨(some 160), none, .bin .add .no (.t 159) (.c (.raw (.int .i64 1)))⟩,
    ⟨(some 12), none, .mov (.t 160)⟩])
  (.reg [⟨(some 161), none, .mov (.t 13)⟩,
    ⟨(some 162), none, .bin .sub .no (.t 161) (.c (.raw (.int .i64 1)))⟩,
    ⟨(some 13), none, .mov (.t 162)⟩])))))))))
 (.seq (.draw [⟨(some 163), none, .mov (.t 0)⟩,
   ⟨(some 164), none, .mov (.t 13)⟩,
   ⟨(some 165), none, .mov (.t 0)⟩,
   ⟨(some 166), none, .mov (.t 1)⟩,
   ⟨(some 167), none, .mov (.t 0)⟩,
   ⟨(some 168), none, .mov (.t 1)⟩,
   ⟨(some 169), none, .iaddr 2 none (.t 167) (.t 168)⟩,
   ⟨(some 170), none, .load (some 2) (.t 169)⟩,
   ⟨(some 171), none, .mov (.t 0)⟩,
   ⟨(some 172), none, .mov (.t 13)⟩,
   ⟨(some 173), none, .iaddr 2 none (.t 171) (.t 172)⟩,
   ⟨(some 174), none, .load (some 2) (.t 173)⟩,
   ⟨(some 175), none, .iaddr 2 none (.t 163) (.t 164)⟩,
   ⟨none, none, .store (some 2) (.t 175) (.t 170)⟩,
   ⟨(some 176), none, .iaddr 2 none (.t 165) (.t 166)⟩,
   ⟨none, none, .store (some 2) (.t 176) (.t 174)⟩]
   (.fl 0 (.fl 1 (.fl 2 (.fl 3 (.fl 4 (.fl 5 (.fr 6 (.fr 7 (.fl 8 (.fl 9 (.fr 10 (.fr 11 (.fr 12 (.st 13 [] (.fr 14 (.st 15 [] .done)))))))))))))))))
 (.seq (.reg [⟨(some 177), none, .mov (.t 13)⟩,
   ⟨(some 10), none, .mov (.t 177)⟩,
   ⟨(some 11), none, .mov (.c (.kb false))⟩])
 .ret))))))))))))
theorem i_slices_partitionCmpFunc_api_Dot : Is Try.prog 62 178 [.t 10, .t 11] c_slices_partitionCmpFunc_api_Dot := ⟨Try.f62, _, p_slices_partitionCmpFunc_api_Dot, rfl, rfl, by kernel_rfl, by kernel_rfl, rfl⟩
def p_math_bits_Len32 : List (Nat × Pl) := []
def c_math_bits_Len32 : VCode :=
 (.seq (.reg [⟨(some 2), none, .mov (.c (.raw (.int .i64 0)))⟩])
 (.seq (.seq (.reg [⟨(some 3), none, .mov (.t 0)⟩,
   ⟨(some 4), none, .bin .geq .no (.t 3) (.c (.raw (.int .u32 65536)))⟩])
 (.cond (.t 4)
  (.seq (.reg [⟨(some 5), none, .mov (.t 0)⟩,
    ⟨(some 6), none, .bin .shr .no (.t 5) (.c (.raw (.int .u64 16)))⟩,
    ⟨(some 0), none, .mov (.t 6)⟩])
  (.reg [⟨(some 2), none, .mov (.c (.raw (.int .i64 16)))⟩]))
  .skip))
 (.seq (.seq (.reg [⟨(some 7), none, .mov (.t 0)⟩,
   ⟨(some 8), none, .bin .geq .no (.t 7) (.c (.raw (.int .u32 256)))⟩])
 (.cond (.t 8)
  (.seq (.reg [⟨(some 9), none, .mov (.t 0)⟩,
    ⟨(some 10), none, .bin .shr .no (.t 9) (.c (.raw (.int .u64 8)))⟩,
    ⟨(some 0), none, .mov (.t 10)⟩])
  (.reg [⟨(some 11), none, .mov (.t 2)⟩,
    ⟨(some 12), none, .bin .add .no (.t 11) (.c (.raw (.int .i64 8)))⟩,
    ⟨(some 2), none, .mov (.t 12)⟩]))
  .skip))
 (.seq (.reg [⟨(some 13), none, .mov (.t 2)⟩,
   ⟨(some 14), none, .mov (.t 0)⟩,
   ⟨(some 15), none, .conv (.int .u8) (.t 14)⟩,
   ⟨(some 16), none, .sindex (.c (.raw (.string (ByteArray.mk #[0, 1, 2, 2, 3, 3, 3, 3, 4, 4, 4, 4, 4, 4, 4, 4, 5, 5, 5, 5, 5, 5, 5, 5, 5, 5, 5, 5, 5, 5, 5, 5, 6, 6, 6, 6, 6, 6, 6, 6, 6, 6, 6, 6, 6, 6, 6, 6, 6, 6, 6, 6, 6, 6, 6, 6, 6, 6, 6, 6, 6, 6, 6, 6, 7, 7, 7, 7, 7, 7, 7, 7, 7, 7, 7, 7, 7, 7, 7, 7, 7, 7, 7, 7, 7, 7, 7, 7, 7, 7, 7, 7, 7, 7, 7, 7, 7, 7, 7, 7, 7, 7, 7, 7, 7, 7, 7, 7, 7, 7, 7, 7, 7, 7, 7, 7, 7, 7, 7, 7, 7, 7, 7, 7, 7, 7, 7, 7, 8, 8, 8, 8, 8, 8, 8, 8, 8, 8, 8, 8, 8, 8, 8, 8, 8, 8, 8, 8, 8, 8, 8, 8, 8, 8, 8, 8, 8, 8, 8, 8, 8, 8, 8, 8, 8, 8, 8, 8, 8, 8, 8, 8, 8, 8, 8, 8, 8, 8, 8, 8, 8, 8, 8, 8, 8, 8, 8, 8, 8, 8, 8, 8, 8, 8, 8, 8, 8, 8, 8, 8, 8, 8, 8, 8, 8, 8, 8, 8, 8, 8, 8, 8, 8, 8, 8, 8, 8, 8, 8, 8, 8, 8, 8, 8, 8, 8, 8, 8, 8, 8, 8, 8, 8, 8, 8, 8, 8, 8, 8, 8, 8, 8, 8, 8, 8, 8, 8, 8, 8, 8, 8, 8, 8, 8, 8, 8])))) (.t 15)⟩,
   ⟨(some 17), none, .conv (.int .i64) (.t 16)⟩,
   ⟨(some 18), none, .bin .add .no (.t 13) (.t 17)⟩,
   ⟨(some 2), none, .mov (.t 18)⟩])
 .ret))))
theorem i_math_bits_Len32 : Is Try.prog 63 19 [.t 2] c_math_bits_Len32 := ⟨Try.f63, _, p_math_bits_Len32, rfl, rfl, by kernel_rfl, by kernel_rfl, rfl⟩
def p_math_bits_Len64 : List (Nat × Pl) := []
def c_math_bits_Len64 : VCode :=
 (.seq (.reg [⟨(some 2), none, .mov (.c (.raw (.int .i64 0)))⟩])
 (.seq (.seq (.reg [⟨(some 3), none, .mov (.t 0)⟩,
   ⟨(some 4), none, .bin .geq .no (.t 3) (.c (.raw (.int .u64 4294967296)))⟩])
 (.cond (.t 4)
  (.seq (.reg [⟨(some 5), none, .mov (.t 0)⟩,
    ⟨(some 6), none, .bin .shr .no (.t 5) (.c (.raw (.int .u64 32)))⟩,
    ⟨(some 0), none, .mov (.t 6)⟩])
  (.reg [⟨(some 2), none, .mov (.c (.raw (.int .i64 32)))⟩]))
  .skip))
 (.seq (.seq (.reg [⟨(some 7), none, .mov (.t 0)⟩,
   ⟨(some 8), none, .bin .geq .no (.t 7) (.c (.raw (.int .u64 65536)))⟩])
 (.cond (.t 8)
  (.seq (.reg [⟨(some 9), none, .mov (.t 0)⟩,
    ⟨(some 10), none, .bin .shr .no (.t 9) (.c (.raw (.int .u64 16)))⟩,
    ⟨(some 0), none, .mov (.t 10)⟩])
  (.reg [⟨(some 11), none, .mov (.t 2)⟩,
    ⟨(some 12), none, .bin .add .no (.t 11) (.c (.raw (.int .i64 16)))⟩,
    ⟨(some 2), none, .mov (.t 12)⟩]))
  .skip))
 (.seq (.seq (.reg [⟨(some 13), none, .mov (.t 0)⟩,
   ⟨(some 14), none, .bin .geq .no (.t 13) (.c (.raw (.int .u64 256)))⟩])
 (.cond (.t 14)
  (.seq (.reg [⟨(some 15), none, .mov (.t 0)⟩,
    ⟨(some 16), none, .bin .shr .no (.t 15) (.c (.raw (.int .u64 8)))⟩,
    ⟨(some 0), none, .mov (.t 16)⟩])
  (.reg [⟨(some 17), none, .mov (.t 2)⟩,
    ⟨(some 18), none, .bin .add .no (.t 17) (.c (.raw (.int .i64 8)))⟩,
    ⟨(some 2), none, .mov (.t 18)⟩]))
  .skip))
 (.seq (.reg [⟨(some 19), none, .mov (.t 2)⟩,
   ⟨(some 20), none, .mov (.t 0)⟩,
   ⟨(some 21), none, .conv (.int .u8) (.t 20)⟩,
   ⟨(some 22), none, .sindex (.c (.raw (.string (ByteArray.mk #[0, 1, 2, 2, 3, 3, 3, 3, 4, 4, 4, 4, 4, 4, 4, 4, 5, 5, 5, 5, 5, 5, 5, 5, 5, 5, 5, 5, 5, 5, 5, 5, 6, 6, 6, 6, 6, 6, 6, 6, 6, 6, 6, 6, 6, 6, 6, 6, 6, 6, 6, 6, 6, 6, 6, 6, 6, 6, 6, 6, 6, 6, 6, 6, 7, 7, 7, 7, 7, 7, 7, 7, 7, 7, 7, 7, 7, 7, 7, 7, 7, 7, 7, 7, 7, 7, 7, 7, 7, 7, 7, 7, 7, 7, 7, 7, 7, 7, 7, 7, 7, 7, 7, 7, 7, 7, 7, 7, 7, 7, 7, 7, 7, 7, 7, 7, 7, 7, 7, 7, 7, 7, 7, 7, 7, 7, 7, 7, 8, 8, 8, 8, 8, 8, 8, 8, 8, 8, 8, 8, 8, 8, 8, 8, 8, 8, 8, 8, 8, 8, 8, 8, 8, 8, 8, 8, 8, 8, 8, 8, 8, 8, 8, 8, 8, 8, 8, 8, 8, 8, 8, 8, 8, 8, 8, 8, 8, 8, 8, 8, 8, 8, 8, 8, 8, 8, 8, 8, 8, 8, 8, 8, 8, 8, 8, 8, 8, 8, 8, 8, 8, 8, 8, 8, 8, 8, 8, 8, 8, 8, 8, 8, 8, 8, 8, 8, 8, 8, 8, 8, 8, 8, 8, 8, 8, 8, 8, 8, 8, 8, 8, 8, 8, 8, 8, 8, 8, 8, 8, 8, 8, 8, 8, 8, 8, 8, 8, 8, 8, 8, 8, 8, 8, 8, 8, 8])))) (.t 21)⟩,
   ⟨(some 23), none, .conv (.int .i64) (.t 22)⟩,
   ⟨(some 24), none, .bin .add .no (.t 19) (.t 23)⟩,
   ⟨(some 2), none, .mov (.t 24)⟩])
 .ret)))))
theorem i_math_bits_Len64 : Is Try.prog 64 25 [.t 2] c_math_bits_Len64 := ⟨Try.f64, _, p_math_bits_Len64, rfl, rfl, by kernel_rfl, by kernel_rfl, rfl⟩
def p_slices_siftDownCmpFunc_api_Dot : List (Nat × Pl) := [(3, (.fl 0 (.fl 1 (.fl 2 (.fl 3 (.fl 4 (.fl 5 (.fl 6 (.fl 7 (.fl 8 (.fl 9 (.fr 10 (.fr 11 (.fl 12 (.fl 13 (.fl 14 (.fl 15 (.fl 16 (.fr 17 (.fr 18 (.st 19 [] (.fl 20 (.fl 21 .done))))))))))))))))))))))), (5, (.fl 0 (.fl 1 (.fl 2 (.fl 3 (.fl 4 (.fr 5 (.fr 6 (.fl 7 (.fl 8 (.fl 9 (.fl 10 (.fr 11 (.fr 12 (.st 13 [] (.fl 14 (.fl 15 .done))))))))))))))))), (6, (.fl 0 (.fl 1 (.fl 2 (.fl 3 (.fl 4 (.fl 5 (.fl 6 (.fl 7 (.fl 8 (.fl 9 (.fl 10 (.fl 11 (.fr 12 (.fr 13 (.fl 14 (.fl 15 (.fl 16 (.fl 17 (.fr 18 (.fr 19 (.fr 20 (.st 21 [] (.fr 22 (.st 23 [] .done)))))))))))))))))))))))))]
def c_slices_siftDownCmpFunc_api_Dot : VCode :=
 (.seq (.reg [⟨(some 12), none, .mov (.t 1)⟩,
   ⟨(some 10), none, .mov (.t 12)⟩])
 (.block 0 (.loop (.block 1 (.seq (.reg [⟨(some 13), none, .mov (.t 10)⟩,
    ⟨(some 14), none, .bin .mul .no (.c (.raw (.int .i64 2))) (.t 13)⟩,
    ⟨(some 15), none, .bin .add .no (.t 14) (.c (.raw (.int .i64 1)))⟩,
    ⟨(some 11), none, .mov (.t 15)⟩])
  (.seq (.seq (.reg [⟨(some 16), none, .mov (.t 11)⟩,
    ⟨(some 17), none, .mov (.t 2)⟩,
    ⟨(some 18), none, .bin .geq .no (.t 16) (.t 17)⟩])
  (.cond (.t 18)
   (.exit 0)
   .skip))
  (.seq (.seq (.draw [⟨(some 19), none, .mov (.t 11)⟩,
    ⟨(some 20), none, .bin .add .no (.t 19) (.c (.raw (.int .i64 1)))⟩,
    ⟨(some 21), none, .mov (.t 2)⟩,
    ⟨(some 22), none, .bin .lss .no (.t 20) (.t 21)⟩,
    ⟨(some 23), none, .mov (.t 22)⟩,
    ⟨(some 24), (some (23, true)), .mov (.t 4)⟩,
    ⟨(some 25), (some (23, true)), .mov (.t 0)⟩,
    ⟨(some 26), (some (23, true)), .mov (.t 3)⟩,
    ⟨(some 27), (some (23, true)), .mov (.t 11)⟩,
    ⟨(some 28), (some (23, true)), .bin .add .no (.t 26) (.t 27)⟩,
    ⟨(some 29), (some (23, true)), .iaddr 2 none (.t 25) (.t 28)⟩,
    ⟨(some 30), (some (23, true)), .load (some 2) (.t 29)⟩,
    ⟨(some 31), (some (23, true)), .mov (.t 0)⟩,
    ⟨(some 32), (some (23, true)), .mov (.t 3)⟩,
    ⟨(some 33), (some (23, true)), .mov (.t 11)⟩,
    ⟨(some 34), (some (23, true)), .bin .add .no (.t 32) (.t 33)⟩,
    ⟨(some 35), (some (23, true)), .bin .add .no (.t 34) (.c (.raw (.int .i64 1)))⟩,
    ⟨(some 36), (some (23, true)), .iaddr 2 none (.t 31) (.t 35)⟩,
    ⟨(some 37), (some (23, true)), .load (some 2) (.t 36)⟩,
    ⟨(some 38), (some (23, true)), .callv (.t 24) [(.t 30), (.t 37)]⟩,
    ⟨(some 39), (some (23, true)), .bin .lss .no (.t 38) (.c (.raw (.int .i64 0)))⟩,
    ⟨(some 40), none, .pick (.t 23) (.t 39) (.c (.kb false))⟩]
    (.fl 0 (.fl 1 (.fl 2 (.fl 3 (.fl 4 (.fl 5 (.fl 6 (.fl 7 (.fl 8 (.fl 9 (.fr 10 (.fr 11 (.fl 12 (.fl 13 (.fl 14 (.fl 15 (.fl 16 (.fr 17 (.fr 18 (.st 19 [] (.fl 20 (.fl 21 .done)))))))))))))))))))))))
  (.cond (.t 40)
   (.reg [⟨(some 41), none, .mov (.t 11)⟩,
     ⟨(some 42), none, .bin .add .no (.t 41) (.c (.raw (.int .i64 1)))⟩,
     ⟨(some 11), none, .mov (.t 42)⟩])
   .skip))
  (.seq (.seq (.draw [⟨(some 43), none, .mov (.t 4)⟩,
    ⟨(some 44), none, .mov (.t 0)⟩,
    ⟨(some 45), none, .mov (.t 3)⟩,
    ⟨(some 46), none, .mov (.t 10)⟩,
    ⟨(some 47), none, .bin .add .no (.t 45) (.t 46)⟩,
    ⟨(some 48), none, .iaddr 2 none (.t 44) (.t 47)⟩,
    ⟨(some 49), none, .load (some 2) (.t 48)⟩,
    ⟨(some 50), none, .mov (.t 0)⟩,
    ⟨(some 51), none, .mov (.t 3)⟩,
    ⟨(some 52), none, .mov (.t 11)⟩,
    ⟨(some 53), none, .bin .add .no (.t 51) (.t 52)⟩,
    ⟨(some 54), none, .iaddr 2 none (.t 50) (.t 53)⟩,
    ⟨(some 55), none, .load (some 2) (.t 54)⟩,
    ⟨(some 56), none, .callv (.t 43) [(.t 49), (.t 55)]⟩,
    ⟨(some 57), none, .bin .lss .no (.t 56) (.c (.raw (.int .i64 0)))⟩,
    ⟨(some 58), none, .un .not (.t 57)⟩]
    (.fl 0 (.fl 1 (.fl 2 (.fl 3 (.fl 4 (.fr 5 (.fr 6 (.fl 7 (.fl 8 (.fl 9 (.fl 10 (.fr 11 (.fr 12 (.st 13 [] (.fl 14 (.fl 15 .done)))))))))))))))))
  (.cond (.t 58)
   .ret
   .skip))
  (.seq (.draw [⟨(some 59), none, .mov (.t 0)⟩,
    ⟨(some 60), none, .mov (.t 3)⟩,
    ⟨(some 61), none, .mov (.t 10)⟩,
    ⟨(some 62), none, .bin .add .no (.t 60) (.t 61)⟩,
    ⟨(some 63), none, .mov (.t 0)⟩,
    ⟨(some 64), none, .mov (.t 3)⟩,
    ⟨(some 65), none, .mov (.t 11)⟩,
    ⟨(some 66), none, .bin .add .no (.t 64) (.t 65)⟩,
    ⟨(some 67), none, .mov (.t 0)⟩,
    ⟨(some 68), none, .mov (.t 3)⟩,
    ⟨(some 69), none, .mov (.t 11)⟩,
    ⟨(some 70), none, .bin .add .no (.t 68) (.t 69)⟩,
    ⟨(some 71), none, .iaddr 2 none (.t 67) (.t 70)⟩,
    ⟨(some 72), none, .load (some 2) (.t 71)⟩,
    ⟨(some 73), none, .mov (.t 0)⟩,
    ⟨(some 74), none, .mov (.t 3)⟩,
    ⟨(some 75), none, .mov (.t 10)⟩,
    ⟨(some 76), none, .bin .add .no (.t 74) (.t 75)⟩,
    ⟨(some 77), none, .iaddr 2 none (.t 73) (.t 76)⟩,
    ⟨(some 78), none, .load (some 2) (.t 77)⟩,
    ⟨(some 79), none, .iaddr 2 none (.t 59) (.t 62)⟩,
    ⟨none, none, .store (some 2) (.t 79) (.t 72)⟩,
    ⟨(some 80), none, .iaddr 2 none (.t 63) (.t 66)⟩,
    ⟨none, none, .store (some 2) (.t 80) (.t 78)⟩]
    (.fl 0 (.fl 1 (.fl 2 (.fl 3 (.fl 4 (.fl 5 (.fl 6 (.fl 7 (.fl 8 (.fl 9 (.fl 10 (.fl 11 (.fr 12 (.fr 13 (.fl 14 (.fl 15 (.fl 16 (.fl 17 (.fr 18 (.fr 19 (.fr 20 (.st 21 [] (.fr 22 (.st 23 [] .done)))))))))))))))))))))))))
  (.reg [⟨(some 81), none, .mov (.t 11)⟩,
    ⟨(some 10), none, .mov (.t 81)⟩]))))))))))
theorem i_slices_siftDownCmpFunc_api_Dot : Is Try.prog 65 82 [] c_slices_siftDownCmpFunc_api_Dot := ⟨Try.f65, _, p_slices_siftDownCmpFunc_api_Dot, rfl, rfl, by kernel_rfl, by kernel_rfl, rfl⟩
def p_slices_nextPowerOfTwo : List (Nat × Pl) := []
def c_slices_nextPowerOfTwo : VCode :=
 (.seq (.reg [⟨(some 2), none, .mov (.c (.raw (.int .u64 0)))⟩])
 (.seq (.reg [⟨(some 3), none, .mov (.t 0)⟩,
   ⟨(some 4), none, .conv (.int .u64) (.t 3)⟩,
   ⟨(some 5), none, .call 54 [(.t 4)]⟩,
   ⟨(some 6), none, .bin .shl .no (.c (.raw (.int .u64 1))) (.t 5)⟩,
   ⟨(some 2), none, .mov (.t 6)⟩])
 .ret))
theorem i_slices_nextPowerOfTwo : Is Try.prog 66 7 [.t 2] c_slices_nextPowerOfTwo := ⟨Try.f66, _, p_slices_nextPowerOfTwo, rfl, rfl, by kernel_rfl, by kernel_rfl, rfl⟩
def p_slices_xorshift_Next : List (Nat × Pl) := [(1, (.fl 0 (.fr 1 (.fr 2 (.fl 3 (.fr 4 (.fr 5 (.fl 6 (.fl 7 (.fr 8 (.st 9 [] .done))))))))))), (2, (.fl 0 (.fr 1 (.fr 2 (.fl 3 (.fr 4 (.fr 5 (.fl 6 (.fl 7 (.fr 8 (.st 9 [] .done))))))))))), (3, (.fl 0 (.fr 1 (.fr 2 (.fl 3 (.fr 4 (.fr 5 (.fl 6 (.fl 7 (.fr 8 (.st 9 [] .done)))))))))))]
def c_slices_xorshift_Next : VCode :=
 (.seq (.reg [⟨(some 2), none, .mov (.c (.raw (.int .u64 0)))⟩])
 (.seq (.draw [⟨(some 3), none, .mov (.t 0)⟩,
   ⟨(some 4), none, .nilck (.t 3)⟩,
   ⟨(some 5), none, .load none (.t 4)⟩,
   ⟨(some 6), none, .mov (.t 0)⟩,
   ⟨(some 7), none, .nilck (.t 6)⟩,
   ⟨(some 8), none, .load none (.t 7)⟩,
   ⟨(some 9), none, .bin .shl .no (.t 8) (.c (.raw (.int .u64 13)))⟩,
   ⟨(some 10), none, .bin .xor .no (.t 5) (.t 9)⟩,
   ⟨(some 11), none, .nilck (.t 3)⟩,
   ⟨none, none, .store none (.t 11) (.t 10)⟩]
   (.fl 0 (.fr 1 (.fr 2 (.fl 3 (.fr 4 (.fr 5 (.fl 6 (.fl 7 (.fr 8 (.st 9 [] .done)))))))))))
 (.seq (.draw [⟨(some 12), none, .mov (.t 0)⟩,
   ⟨(some 13), none, .nilck (.t 12)⟩,
   ⟨(some 14), none, .load none (.t 13)⟩,
   ⟨(some 15), none, .mov (.t 0)⟩,
   ⟨(some 16), none, .nilck (.t 15)⟩,
   ⟨(some 17), none, .load none (.t 16)⟩,
   ⟨(some 18), none, .bin .shr .no (.t 17) (.c (.raw (.int .u64 7)))⟩,
   ⟨(some 19), none, .bin .xor .no (.t 14) (.t 18)⟩,
   ⟨(some 20), none, .nilck (.t 12)⟩,
   ⟨none, none, .store none (.t 20) (.t 19)⟩]
   (.fl 0 (.fr 1 (.fr 2 (.fl 3 (.fr 4 (.fr 5 (.fl 6 (.fl 7 (.fr 8 (.st 9 [] .done)))))))))))
 (.seq (.draw [⟨(some 21), none, .mov (.t 0)⟩,
   ⟨(some 22), none, .nilck (.t 21)⟩,
   ⟨(some 23), none, .load none (.t 22)⟩,
   ⟨(some 24), none, .mov (.t 0)⟩,
   ⟨(some 25), none, .nilck (.t 24)⟩,
   ⟨(some 26), none, .load none (.t 25)⟩,
   ⟨(some 27), none, .bin .shl .no (.t 26) (.c (.raw (.int .u64 17)))⟩,
   ⟨(some 28), none, .bin .xor .no (.t 23) (.t 27)⟩,
   ⟨(some 29), none, .nilck (.t 21)⟩,
   ⟨none, none, .store none (.t 29) (.t 28)⟩]
   (.fl 0 (.fr 1 (.fr 2 (.fl 3 (.fr 4 (.fr 5 (.fl 6 (.fl 7 (.fr 8 (.st 9 [] .done)))))))))))
 (.seq (.reg [⟨(some 30), none, .mov (.t 0)⟩,
   ⟨(some 31), none, .nilck (.t 30)⟩,
   ⟨(some 32), none, .load none (.t 31)⟩,
   ⟨(some 2), none, .mov (.t 32)⟩])
 .ret)))))
theorem i_slices_xorshift_Next : Is Try.prog 67 33 [.t 2] c_slices_xorshift_Next := ⟨Try.f67, _, p_slices_xorshift_Next, rfl, rfl, by kernel_rfl, by kernel_rfl, rfl⟩
def p_slices_medianAdjacentCmpFunc_api_Dot : List (Nat × Pl) := []
def c_slices_medianAdjacentCmpFunc_api_Dot : VCode :=
 (.seq (.reg [⟨(some 8), none, .mov (.c (.raw (.int .i64 0)))⟩])
 (.seq (.reg [⟨(some 9), none, .mov (.t 0)⟩,
   ⟨(some 10), none, .mov (.t 1)⟩,
   ⟨(some 11), none, .bin .sub .no (.t 10) (.c (.raw (.int .i64 1)))⟩,
   ⟨(some 12), none, .mov (.t 1)⟩,
   ⟨(some 13), none, .mov (.t 1)⟩,
   ⟨(some 14), none, .bin .add .no (.t 13) (.c (.raw (.int .i64 1)))⟩,
   ⟨(some 15), none, .mov (.t 2)⟩,
   ⟨(some 16), none, .mov (.t 3)⟩,
   ⟨(some 17), none, .call 69 [(.t 9), (.t 11), (.t 12), (.t 14), (.t 15), (.t 16)]⟩,
   ⟨(some 8), none, .mov (.t 17)⟩])
 .ret))
theorem i_slices_medianAdjacentCmpFunc_api_Dot : Is Try.prog 68 18 [.t 8] c_slices_medianAdjacentCmpFunc_api_Dot := ⟨Try.f68, _, p_slices_medianAdjacentCmpFunc_api_Dot, rfl, rfl, by kernel_rfl, by kernel_rfl, rfl⟩
def p_slices_medianCmpFunc_api_Dot : List (Nat × Pl) := []
def c_slices_medianCmpFunc_api_Dot : VCode :=
 (.seq (.reg [⟨(some 12), none, .mov (.c (.raw (.int .i64 0)))⟩])
 (.seq (.reg [⟨(some 14), none, .mov (.t 0)⟩,
   ⟨(some 15), none, .mov (.t 1)⟩,
   ⟨(some 16), none, .mov (.t 2)⟩,
   ⟨(some 17), none, .mov (.t 4)⟩,
   ⟨(some 18), none, .mov (.t 5)⟩,
   ⟨(some 19), none, .call 70 [(.t 14), (.t 15), (.t 16), (.t 17), (.t 18)]⟩,
   ⟨(some 13), none, .mov (.t 19)⟩,
   ⟨(some 20), none, .extr (.t 13) 0⟩,
   ⟨(some 21), none, .extr (.t 13) 1⟩,
   ⟨(some 1), none, .mov (.t 20)⟩,
   ⟨(some 2), none, .mov (.t 21)⟩])
 (.seq (.reg [⟨(some 23), none, .mov (.t 0)⟩,
   ⟨(some 24), none, .mov (.t 2)⟩,
   ⟨(some 25), none, .mov (.t 3)⟩,
   ⟨(some 26), none, .mov (.t 4)⟩,
   ⟨(some 27), none, .mov (.t 5)⟩,
   ⟨(some 28), none, .call 70 [(.t 23), (.t 24), (.t 25), (.t 26), (.t 27)]⟩,
   ⟨(some 22), none, .mov (.t 28)⟩,
   ⟨(some 29), none, .extr (.t 22) 0⟩,
   ⟨(some 30), none, .extr (.t 22) 1⟩,
   ⟨(some 2), none, .mov (.t 29)⟩,
   ⟨(some 3), none, .mov (.t 30)⟩])
 (.seq (.reg [⟨(some 32), none, .mov (.t 0)⟩,
   ⟨(some 33), none, .mov (.t 1)⟩,
   ⟨(some 34), none, .mov (.t 2)⟩,
   ⟨(some 35), none, .mov (.t 4)⟩,
   ⟨(some 36), none, .mov (.t 5)⟩,
   ⟨(some 37), none, .call 70 [(.t 32), (.t 33), (.t 34), (.t 35), (.t 36)]⟩,
   ⟨(some 31), none, .mov (.t 37)⟩,
   ⟨(some 38), none, .extr (.t 31) 0⟩,
   ⟨(some 39), none, .extr (.t 31) 1⟩,
   ⟨(some 1), none, .mov (.t 38)⟩,
   ⟨(some 2), none, .mov (.t 39)⟩])
 (.seq (.reg [⟨(some 40), none, .mov (.t 2)⟩,
   ⟨(some 12), none, .mov (.t 40)⟩])
 .ret)))))
theorem i_slices_medianCmpFunc_api_Dot : Is Try.prog 69 41 [.t 12] c_slices_medianCmpFunc_api_Dot := ⟨Try.f69, _, p_slices_medianCmpFunc_api_Dot, rfl, rfl, by kernel_rfl, by kernel_rfl, rfl⟩
def p_slices_order2CmpFunc_api_Dot : List (Nat × Pl) := [(1, (.fl 0 (.fl 1 (.fl 2 (.fr 3 (.fr 4 (.fl 5 (.fl 6 (.fr 7 (.fr 8 (.st 9 [] (.fl 10 .done))))))))))))]
def c_slices_order2CmpFunc_api_Dot : VCode :=
 (.seq (.reg [⟨(some 10), none, .mov (.c (.raw (.int .i64 0)))⟩,
   ⟨(some 11), none, .mov (.c (.raw (.int .i64 0)))⟩])
 (.seq (.seq (.draw [⟨(some 12), none, .mov (.t 4)⟩,
   ⟨(some 13), none, .mov (.t 0)⟩,
   ⟨(some 14), none, .mov (.t 2)⟩,
   ⟨(some 15), none, .iaddr 2 none (.t 13) (.t 14)⟩,
   ⟨(some 16), none, .load (some 2) (.t 15)⟩,
   ⟨(some 17), none, .mov (.t 0)⟩,
   ⟨(some 18), none, .mov (.t 1)⟩,
   ⟨(some 19), none, .iaddr 2 none (.t 17) (.t 18)⟩,
   ⟨(some 20), none, .load (some 2) (.t 19)⟩,
   ⟨(some 21), none, .callv (.t 12) [(.t 16), (.t 20)]⟩,
   ⟨(some 22), none, .bin .lss .no (.t 21) (.c (.raw (.int .i64 0)))⟩]
   (.fl 0 (.fl 1 (.fl 2 (.fr 3 (.fr 4 (.fl 5 (.fl 6 (.fr 7 (.fr 8 (.st 9 [] (.fl 10 .done))))))))))))
 (.cond (.t 22)
  (.seq (.reg [⟨(some 23), none, .mov (.t 3)⟩,
    ⟨(some 24), none, .nilck (.t 23)⟩,
    ⟨(some 25), none, .load none (.t 24)⟩,
    ⟨(some 26), none, .bin .add .no (.t 25) (.c (.raw (.int .i64 1)))⟩,
    ⟨(some 27), none, .nilck (.t 23)⟩,
    ⟨none, none, .store none (.t 27) (.t 26)⟩])
  (.seq (.reg [⟨(some 28), none, .mov (.t 2)⟩,
    ⟨(some 29), none, .mov (.t 1)⟩,
    ⟨(some 10), none, .mov (.t 28)⟩,
    ⟨(some 11), none, .mov (.t 29)⟩])
  .ret))
  .skip))
 (.seq (.reg [⟨(some 30), none, .mov (.t 1)⟩,
   ⟨(some 31), none, .mov (.t 2)⟩,
   ⟨(some 10), none, .mov (.t 30)⟩,
   ⟨(some 11), none, .mov (.t 31)⟩])
 .ret)))
theorem i_slices_order2CmpFunc_api_Dot : Is Try.prog 70 32 [.t 10, .t 11] c_slices_order2CmpFunc_api_Dot := ⟨Try.f70, _, p_slices_order2CmpFunc_api_Dot, rfl, rfl, by kernel_rfl, by kernel_rfl, rfl⟩

theorem follows : Try.prog.follows .mixedOrders = true := by kernel_rfl
end Go.Proofs

