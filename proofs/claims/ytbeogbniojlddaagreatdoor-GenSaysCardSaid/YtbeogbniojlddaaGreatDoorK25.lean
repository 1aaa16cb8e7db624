/- The seat's functions and types by name, and its functions' code as the framework reads it: printed by a program of the prover's own. -/
import Derived.Test.YtbeogbniojlddaaGreatDoorVC
import Derived.Test.YtbeogbniojlddaaGreatDoorProg
namespace Go.Proofs
open Go Go.V
set_option maxRecDepth 1000000
abbrev F_rostrumlaw25_GenSays : FuncId := 5
abbrev F_rostrumlaw25_awake : FuncId := 8
abbrev F_rostrumlaw25_long : FuncId := 9
abbrev F_gen_Get : FuncId := 10
abbrev F_gen_Put : FuncId := 12
abbrev F_rostrumlaw25_stp : FuncId := 13
abbrev F_auct_Good : FuncId := 15
abbrev F_auct_New : FuncId := 16
abbrev F_gen_Make : FuncId := 17
abbrev F_auct_House_Do : FuncId := 18
abbrev F_auct_House_Blue : FuncId := 19
abbrev F_auct_Red : FuncId := 20
abbrev F_rostrumref24_House_Do : FuncId := 21
abbrev F_rostrumref24_House_Blue : FuncId := 22
abbrev F_rostrumref24_Make : FuncId := 23
abbrev F_rostrumlaw25_cal : FuncId := 24
abbrev F_auct_House_Reds : FuncId := 25
abbrev F_auct_House_Have : FuncId := 26
abbrev F_pack_Read : FuncId := 28
abbrev F_pack_Reader_Num : FuncId := 29
abbrev F_gen_dot : FuncId := 30
abbrev F_vec_Get : FuncId := 31
abbrev F_pack_Reader_Text : FuncId := 32
abbrev F_pack_Reader_End : FuncId := 33
abbrev F_rostrumref24_Good : FuncId := 38
abbrev F_pack_Num : FuncId := 39
abbrev F_vec_Put : FuncId := 40
abbrev F_pack_Text : FuncId := 41
abbrev F_vec_Dot : FuncId := 45
abbrev F_vec_Good : FuncId := 46
abbrev F_auct_needs : FuncId := 47
abbrev F_auct_word : FuncId := 48
abbrev F_auct_point : FuncId := 49
abbrev F_auct_number : FuncId := 50
abbrev F_auct_House_Deposited : FuncId := 51
abbrev F_gen_maker_refused : FuncId := 52
abbrev F_vec_Le : FuncId := 53
abbrev F_name_Fold : FuncId := 54
abbrev F_vec_Has : FuncId := 55
abbrev F_auct_House_ends : FuncId := 56
abbrev F_rostrumref7_Le : FuncId := 57
abbrev F_rostrumref24_House_Registered : FuncId := 58
abbrev F_rostrumref1_Fold : FuncId := 59
abbrev F_rostrumref24_House_withdrawn : FuncId := 60
abbrev F_rostrumref24_House_find : FuncId := 61
abbrev F_rostrumref24_House_Winner : FuncId := 62
abbrev F_rostrumref7_Has : FuncId := 63
abbrev F_rostrumref24_House_bids : FuncId := 64
abbrev F_rostrumref24_best : FuncId := 65
abbrev F_rostrumref7_Less : FuncId := 66
abbrev F_rostrumref24_House_Deposited : FuncId := 67
abbrev F_rostrumref24_House_Open : FuncId := 68
abbrev F_rostrumref24_House_Bids : FuncId := 69
abbrev F_rostrumref24_House_Balance : FuncId := 70
abbrev F_slices_SortFunc_sl_api_Dot_api_Dot : FuncId := 71
abbrev F_dots_Order : FuncId := 72
abbrev F_bytes_Clone : FuncId := 74
abbrev F_pack_Reader_fail : FuncId := 75
abbrev F_pack_Reader_Bad : FuncId := 76
abbrev F_pack_Reader_Bytes : FuncId := 77
abbrev F_rostrumref7_May : FuncId := 79
abbrev F_rostrumref7_Good : FuncId := 80
abbrev F_rostrumref1_GoodName : FuncId := 81
abbrev F_pack_Bytes : FuncId := 82
abbrev F_vec_Rep : FuncId := 83
abbrev F_name_Good : FuncId := 84
abbrev F_gen_maker_auction : FuncId := 85
abbrev F_gen_maker_user : FuncId := 86
abbrev F_gen_maker_cancel : FuncId := 87
abbrev F_auct_House_Balance : FuncId := 88
abbrev F_strings_Builder_WriteRune : FuncId := 89
abbrev F_unicode_ToLower : FuncId := 90
abbrev F_strings_Builder_String : FuncId := 91
abbrev F_slices_DeleteFunc_sl_api_Dot_api_Dot : FuncId := 92
abbrev F_auct_House_bids : FuncId := 93
abbrev F_auct_House_ends_1 : FuncId := 94
abbrev F_auct_House_best : FuncId := 95
abbrev F_rostrumref1_Runes : FuncId := 96
abbrev F_cmp_Or_int : FuncId := 99
abbrev F_cmp_Compare_int : FuncId := 100
abbrev F_cmp_Compare_int64 : FuncId := 101
abbrev F_unicode_IsLetter : FuncId := 102
abbrev F_rostrumref1_bad : FuncId := 103
abbrev F_unicode_IsDigit : FuncId := 104
abbrev F_name_other : FuncId := 105
abbrev F_slices_Contains_sl_api_Dot_api_Dot : FuncId := 106
abbrev F_auct_House_Auctions : FuncId := 107
abbrev F_auct_House_Open : FuncId := 108
abbrev F_slices_Contains_sl_string_string : FuncId := 109
abbrev F_auct_House_Users : FuncId := 110
abbrev F_auct_House_Bids : FuncId := 111
abbrev F_unicode_utf8_AppendRune : FuncId := 113
abbrev F_slices_IndexFunc_sl_api_Dot_api_Dot : FuncId := 115
abbrev F_auct_House_bids_1 : FuncId := 116
abbrev F_slices_MaxFunc_sl_api_Dot_api_Dot : FuncId := 117
abbrev F_auct_House_best_1 : FuncId := 118
abbrev F_cmp_isNaN_int : FuncId := 129
abbrev F_cmp_isNaN_int64 : FuncId := 130
abbrev F_slices_Index_sl_api_Dot_api_Dot : FuncId := 132
abbrev F_slices_Index_sl_string_string : FuncId := 133
abbrev F_slices_Sort_sl_string_string : FuncId := 134
abbrev F_unicode_utf8_appendRuneNonASCII : FuncId := 136
abbrev T_int64 : TypeId := 2
abbrev T_int : TypeId := 3
abbrev T_bool : TypeId := 4
abbrev T_uint8 : TypeId := 5
abbrev T_string : TypeId := 9
abbrev T_int32 : TypeId := 21
abbrev T_api_Dot : TypeId := 23
abbrev T_vec_Vec : TypeId := 25
abbrev T_auct_Step : TypeId := 27
abbrev T_rostrumref7_Vec : TypeId := 34
abbrev T_rostrumref24_Step : TypeId := 36
abbrev T_p_auct_House : TypeId := 43
abbrev T_gen_Call : TypeId := 47
abbrev T_sl_auct_Step : TypeId := 51
abbrev T_rostrumref24_House : TypeId := 58
abbrev T_rostrumref24_Call : TypeId := 63
abbrev T_map_api_Dot_auct_Step : TypeId := 94
abbrev T_map_string_bool : TypeId := 95
abbrev T_map_string_int64 : TypeId := 96
abbrev T_map_api_Dot_auct_outcome : TypeId := 97
abbrev T_auct_House : TypeId := 99
abbrev T_gen_maker : TypeId := 102
abbrev T_auct_outcome : TypeId := 107
abbrev T_rostrumref24_outcome : TypeId := 119
abbrev T_pack_Reader : TypeId := 128
abbrev T_strings_Builder : TypeId := 139
abbrev T_map_api_Dot_bool : TypeId := 170
abbrev T_256_uint8 : TypeId := 184
def p_rostrumlaw25_GenSays : List (Nat × Pl) := [(17, (.fl 0 (.fr 1 (.fr 3 (.br (.st 2 [3] (.br (.st 4 [] (.fl 5 (.fl 6 (.fl 7 (.st 8 [] (.st 9 [] (.fl 10 .done))))))) (.st 8 [3] (.st 4 [] (.fl 5 (.fl 6 (.fl 7 (.st 9 [] (.fl 10 .done))))))))) (.st 8 [1, 3] (.st 2 [3] (.st 4 [] (.fl 5 (.fl 6 (.fl 7 (.st 9 [] (.fl 10 .done))))))))))))), (18, (.fr 0 (.fr 2 (.st 1 [2] (.fl 3 (.fl 4 (.fl 5 (.fl 6 (.fl 7 (.fl 8 (.fl 9 .done)))))))))))]
def c_rostrumlaw25_GenSays : VCode :=
 (.seq (.reg [⟨(some 4), none, .box 47 (.t 1)⟩,
   ⟨(some 5), none, .box 23 (.t 2)⟩,
   ⟨(some 6), none, .mov (.c (.kb false))⟩])
 (.seq (.seq (.reg [⟨(some 14), none, .call 8 []⟩,
   ⟨(some 15), none, .un .not (.t 14)⟩])
 (.cond (.t 15)
  (.seq (.reg [⟨(some 6), none, .mov (.c (.kb false))⟩])
  .ret)
  .skip))
 (.seq (.seq (.reg [⟨(some 16), none, .mov (.t 0)⟩,
   ⟨(some 17), none, .len .sl (.t 16)⟩,
   ⟨(some 18), none, .bin .gtr .no (.t 17) (.c (.raw (.int .i64 30)))⟩,
   ⟨(some 19), none, .mov (.t 18)⟩,
   ⟨(some 20), (some (19, false)), .faddr 1 (.t 4)⟩,
   ⟨(some 21), (some (19, false)), .load none (.t 20)⟩,
   ⟨(some 22), (some (19, false)), .len .str (.t 21)⟩,
   ⟨(some 23), (some (19, false)), .bin .gtr .no (.t 22) (.c (.raw (.int .i64 100)))⟩,
   ⟨(some 24), none, .pick (.t 19) (.c (.kb true)) (.t 23)⟩,
   ⟨(some 25), none, .mov (.t 24)⟩,
   ⟨(some 26), (some (25, false)), .faddr 2 (.t 4)⟩,
   ⟨(some 27), (some (25, false)), .load none (.t 26)⟩,
   ⟨(some 28), (some (25, false)), .len .str (.t 27)⟩,
   ⟨(some 29), (some (25, false)), .bin .gtr .no (.t 28) (.c (.raw (.int .i64 100)))⟩,
   ⟨(some 30), none, .pick (.t 25) (.c (.kb true)) (.t 29)⟩])
 (.cond (.t 30)
  (.seq (.reg [⟨(some 6), none, .mov (.c (.kb true))⟩])
  .ret)
  .skip))
 (.seq (.reg [⟨(some 31), none, .call 16 []⟩,
   ⟨(some 32), none, .build [(.int .i64 0), (.int .i64 0), (.int .i64 0), (.int .i64 0), (.int .i64 0), (.int .i64 0), (.int .i64 0), (.slice none 0 0), (.slice none 0 0), (.slice none 0 0), (.slice none 0 0), (.slice none 0 0), (.slice none 0 0)] []⟩,
   ⟨(some 33), none, .box 58 (.t 32)⟩,
   ⟨(some 7), none, .mov (.t 31)⟩,
   ⟨(some 8), none, .mov (.t 33)⟩])
 (.seq (.seq (.reg [⟨(some 9), none, .mov (.c (.raw (.int .i64 0)))⟩])
 (.block 0 (.loop (.seq (.seq (.reg [⟨(some 34), none, .mov (.t 9)⟩,
    ⟨(some 35), none, .mov (.t 0)⟩,
    ⟨(some 36), none, .len .sl (.t 35)⟩,
    ⟨(some 37), none, .bin .lss .no (.t 34) (.t 36)⟩])
  (.cond (.t 37)
   .skip
   (.exit 0)))
  (.seq (.block 1 (.seq (.seq (.reg [⟨(some 40), none, .mov (.t 0)⟩,
    ⟨(some 41), none, .mov (.t 9)⟩,
    ⟨(some 42), none, .iaddr 19 none (.t 40) (.t 41)⟩,
    ⟨(some 43), none, .load (some 19) (.t 42)⟩,
    ⟨(some 44), none, .call 9 [(.t 43)]⟩])
  (.cond (.t 44)
   (.seq (.reg [⟨(some 6), none, .mov (.c (.kb true))⟩])
   .ret)
   .skip))
  (.seq (.reg [⟨(some 45), none, .mov (.t 0)⟩,
    ⟨(some 46), none, .mov (.t 9)⟩,
    ⟨(some 47), none, .iaddr 19 none (.t 45) (.t 46)⟩,
    ⟨(some 48), none, .load (some 19) (.t 47)⟩,
    ⟨(some 49), none, .call 20 [(.t 48)]⟩])
  (.cond (.t 49)
   (.seq (.reg [⟨(some 50), none, .mov (.t 7)⟩,
     ⟨(some 51), none, .mov (.t 0)⟩,
     ⟨(some 52), none, .mov (.t 9)⟩,
     ⟨(some 53), none, .iaddr 19 none (.t 51) (.t 52)⟩,
     ⟨(some 54), none, .load (some 19) (.t 53)⟩,
     ⟨(some 55), none, .call 18 [(.t 50), (.t 54)]⟩])
   (.reg [⟨(some 56), none, .mov (.t 8)⟩,
     ⟨(some 57), none, .mov (.t 0)⟩,
     ⟨(some 58), none, .mov (.t 9)⟩,
     ⟨(some 59), none, .iaddr 19 none (.t 57) (.t 58)⟩,
     ⟨(some 60), none, .load (some 19) (.t 59)⟩,
     ⟨(some 61), none, .call 13 [(.t 60)]⟩,
     ⟨(some 62), none, .call 21 [(.t 56), (.t 61)]⟩]))
   (.seq (.reg [⟨(some 63), none, .mov (.t 7)⟩,
     ⟨(some 64), none, .mov (.t 0)⟩,
     ⟨(some 65), none, .mov (.t 9)⟩,
     ⟨(some 66), none, .iaddr 19 none (.t 64) (.t 65)⟩,
     ⟨(some 67), none, .load (some 19) (.t 66)⟩,
     ⟨(some 68), none, .call 19 [(.t 63), (.t 67)]⟩])
   (.reg [⟨(some 69), none, .mov (.t 8)⟩,
     ⟨(some 70), none, .mov (.t 0)⟩,
     ⟨(some 71), none, .mov (.t 9)⟩,
     ⟨(some 72), none, .iaddr 19 none (.t 70) (.t 71)⟩,
     ⟨(some 73), none, .load (some 19) (.t 72)⟩,
     ⟨(some 74), none, .call 13 [(.t 73)]⟩,
     ⟨(some 75), none, .call 22 [(.t 69), (.t 74)]⟩]))))))
  (.reg [⟨(some 38), none, .mov (.t 9)⟩,
    ⟨(some 39), none, .bin .add .no (.t 38) (.c (.raw (.int .i64 1)))⟩,
    ⟨(some 9), none, .mov (.t 39)⟩]))))))
 (.seq (.reg [⟨(some 77), none, .mov (.t 7)⟩,
   ⟨(some 78), none, .load (some 8) (.t 4)⟩,
   ⟨(some 79), none, .load (some 2) (.t 5)⟩,
   ⟨(some 80), none, .call 17 [(.t 77), (.t 78), (.t 79)]⟩,
   ⟨(some 76), none, .mov (.t 80)⟩,
   ⟨(some 81), none, .extr (.t 76) 0⟩,
   ⟨(some 82), none, .extr (.t 76) 1⟩,
   ⟨(some 10), none, .new 27 [(.int .i64 0), (.int .i64 0), (.int .i64 0), (.int .i64 0), (.int .i64 0), (.int .i64 0), (.int .i64 0), (.int .i64 0), (.int .i64 0), (.int .i64 0), (.int .i64 0), (.string (ByteArray.mk #[])), (.string (ByteArray.mk #[])), (.int .i64 0), (.int .i64 0), (.int .i64 0), (.int .i64 0), (.int .i64 0), (.int .i64 0)]⟩,
   ⟨none, none, .store (some 19) (.t 10) (.t 81)⟩,
   ⟨(some 11), none, .mov (.t 82)⟩])
 (.seq (.draw [⟨(some 84), none, .mov (.t 8)⟩,
   ⟨(some 85), none, .load (some 8) (.t 4)⟩,
   ⟨(some 86), none, .call 24 [(.t 85)]⟩,
   ⟨(some 87), none, .load (some 2) (.t 5)⟩,
   ⟨(some 88), none, .call 23 [(.t 84), (.t 86), (.t 87)]⟩,
   ⟨(some 83), none, .mov (.t 88)⟩,
   ⟨(some 89), none, .extr (.t 83) 0⟩,
   ⟨(some 90), none, .extr (.t 83) 1⟩,
   ⟨(some 12), none, .new 36 [(.int .i64 0), (.int .i64 0), (.int .i64 0), (.int .i64 0), (.int .i64 0), (.int .i64 0), (.int .i64 0), (.int .i64 0), (.int .i64 0), (.int .i64 0), (.int .i64 0), (.string (ByteArray.mk #[])), (.string (ByteArray.mk #[])), (.int .i64 0), (.int .i64 0), (.int .i64 0), (.int .i64 0), (.int .i64 0), (.int .i64 0)]⟩,
   ⟨none, none, .store (some 19) (.t 12) (.t 89)⟩,
   ⟨(some 13), none, .mov (.t 90)⟩]
   (.fl 0 (.fr 1 (.fr 3 (.br (.st 2 [3] (.br (.st 4 [] (.fl 5 (.fl 6 (.fl 7 (.st 8 [] (.st 9 [] (.fl 10 .done))))))) (.st 8 [3] (.st 4 [] (.fl 5 (.fl 6 (.fl 7 (.st 9 [] (.fl 10 .done))))))))) (.st 8 [1, 3] (.st 2 [3] (.st 4 [] (.fl 5 (.fl 6 (.fl 7 (.st 9 [] (.fl 10 .done)))))))))))))
 (.seq (.draw [⟨(some 91), none, .load (some 19) (.t 10)⟩,
   ⟨(some 92), none, .call 13 [(.t 91)]⟩,
   ⟨(some 93), none, .load (some 19) (.t 12)⟩,
   ⟨(some 94), none, .bin .eql (.agg [.i, .i, .i, .i, .i, .i, .i, .i, .i, .i, .i, .s, .s, .i, .i, .i, .i, .i, .i]) (.t 92) (.t 93)⟩,
   ⟨(some 95), none, .mov (.t 94)⟩,
   ⟨(some 96), (some (95, true)), .mov (.t 11)⟩,
   ⟨(some 97), (some (95, true)), .mov (.t 13)⟩,
   ⟨(some 98), (some (95, true)), .bin .eql .no (.t 96) (.t 97)⟩,
   ⟨(some 99), none, .pick (.t 95) (.t 98) (.c (.kb false))⟩,
   ⟨(some 6), none, .mov (.t 99)⟩]
   (.fr 0 (.fr 2 (.st 1 [2] (.fl 3 (.fl 4 (.fl 5 (.fl 6 (.fl 7 (.fl 8 (.fl 9 .done)))))))))))
 .ret))))))))
theorem i_rostrumlaw25_GenSays : Is Tryz.prog 5 100 [.t 6] c_rostrumlaw25_GenSays := ⟨Tryz.f5, _, p_rostrumlaw25_GenSays, rfl, rfl, by kernel_rfl, by kernel_rfl, rfl⟩
def p_rostrumlaw25_awake : List (Nat × Pl) := []
def c_rostrumlaw25_awake : VCode :=
 (.seq (.reg [⟨(some 0), none, .mov (.c (.kb false))⟩])
 (.seq (.reg [⟨(some 8), none, .call 16 []⟩,
   ⟨(some 9), none, .build [(.int .i64 0), (.int .i64 0)] [(1, 1, (.c (.raw (.int .i64 1))))]⟩,
   ⟨(some 10), none, .build [(.int .i64 0), (.string (ByteArray.mk #[])), (.string (ByteArray.mk #[])), (.int .i64 0), (.int .i64 0), (.int .i64 0), (.int .i64 0), (.int .i64 0)] [(0, 1, (.c (.raw (.int .i64 2)))), (2, 1, (.c (.raw (.string (ByteArray.mk #[97, 110, 110]))))), (3, 2, (.t 9)), (7, 1, (.c (.raw (.int .i64 5))))]⟩,
   ⟨(some 11), none, .build [(.int .i64 0), (.int .i64 0)] [(1, 1, (.c (.raw (.int .i64 1))))]⟩,
   ⟨(some 12), none, .call 17 [(.t 8), (.t 10), (.t 11)]⟩,
   ⟨(some 7), none, .mov (.t 12)⟩,
   ⟨(some 13), none, .extr (.t 7) 0⟩,
   ⟨(some 14), none, .extr (.t 7) 1⟩,
   ⟨(some 1), none, .new 27 [(.int .i64 0), (.int .i64 0), (.int .i64 0), (.int .i64 0), (.int .i64 0), (.int .i64 0), (.int .i64 0), (.int .i64 0), (.int .i64 0), (.int .i64 0), (.int .i64 0), (.string (ByteArray.mk #[])), (.string (ByteArray.mk #[])), (.int .i64 0), (.int .i64 0), (.int .i64 0), (.int .i64 0), (.int .i64 0), (.int .i64 0)]⟩,
   ⟨none, none, .store (some 19) (.t 1) (.t 13)⟩,
   ⟨(some 2), none, .mov (.t 14)⟩])
 (.seq (.reg [⟨(some 16), none, .call 16 []⟩,
   ⟨(some 17), none, .build [(.int .i64 0), (.string (ByteArray.mk #[])), (.string (ByteArray.mk #[])), (.int .i64 0), (.int .i64 0), (.int .i64 0), (.int .i64 0), (.int .i64 0)] [(0, 1, (.c (.raw (.int .i64 5)))), (2, 1, (.c (.raw (.string (ByteArray.mk #[97, 110, 110])))))]⟩,
   ⟨(some 18), none, .build [(.int .i64 0), (.int .i64 0)] [(1, 1, (.c (.raw (.int .i64 1))))]⟩,
   ⟨(some 19), none, .call 17 [(.t 16), (.t 17), (.t 18)]⟩,
   ⟨(some 15), none, .mov (.t 19)⟩,
   ⟨(some 20), none, .extr (.t 15) 0⟩,
   ⟨(some 21), none, .extr (.t 15) 1⟩,
   ⟨(some 3), none, .new 27 [(.int .i64 0), (.int .i64 0), (.int .i64 0), (.int .i64 0), (.int .i64 0), (.int .i64 0), (.int .i64 0), (.int .i64 0), (.int .i64 0), (.int .i64 0), (.int .i64 0), (.string (ByteArray.mk #[])), (.string (ByteArray.mk #[])), (.int .i64 0), (.int .i64 0), (.int .i64 0), (.int .i64 0), (.int .i64 0), (.int .i64 0)]⟩,
   ⟨none, none, .store (some 19) (.t 3) (.t 20)⟩,
   ⟨(some 4), none, .mov (.t 21)⟩])
 (.seq (.reg [⟨(some 23), none, .load (some 19) (.t 3)⟩,
   ⟨(some 24), none, .call 12 [(.t 23)]⟩,
   ⟨(some 25), none, .call 10 [(.t 24)]⟩,
   ⟨(some 22), none, .mov (.t 25)⟩,
   ⟨(some 26), none, .extr (.t 22) 0⟩,
   ⟨(some 27), none, .extr (.t 22) 1⟩,
   ⟨(some 5), none, .new 27 [(.int .i64 0), (.int .i64 0), (.int .i64 0), (.int .i64 0), (.int .i64 0), (.int .i64 0), (.int .i64 0), (.int .i64 0), (.int .i64 0), (.int .i64 0), (.int .i64 0), (.string (ByteArray.mk #[])), (.string (ByteArray.mk #[])), (.int .i64 0), (.int .i64 0), (.int .i64 0), (.int .i64 0), (.int .i64 0), (.int .i64 0)]⟩,
   ⟨none, none, .store (some 19) (.t 5) (.t 26)⟩,
   ⟨(some 6), none, .mov (.t 27)⟩])
 (.seq (.reg [⟨(some 28), none, .mov (.t 2)⟩,
   ⟨(some 29), none, .bin .eql .no (.t 28) (.c (.raw (.int .i64 4)))⟩,
   ⟨(some 30), none, .mov (.t 29)⟩,
   ⟨(some 31), (some (30, true)), .mov (.t 4)⟩,
   ⟨(some 32), (some (30, true)), .bin .eql .no (.t 31) (.c (.raw (.int .i64 0)))⟩,
   ⟨(some 33), none, .pick (.t 30) (.t 32) (.c (.kb false))⟩,
   ⟨(some 34), none, .mov (.t 33)⟩,
   ⟨(some 35), (some (34, true)), .faddr 0 (.t 3)⟩,
   ⟨(some 36), (some (34, true)), .load none (.t 35)⟩,
   ⟨(some 37), (some (34, true)), .bin .eql .no (.t 36) (.c (.raw (.int .i64 5)))⟩,
   ⟨(some 38), none, .pick (.t 34) (.t 37) (.c (.kb false))⟩,
   ⟨(some 39), none, .mov (.t 38)⟩,
   ⟨(some 40), (some (39, true)), .mov (.t 6)⟩,
   ⟨(some 41), (some (39, true)), .bin .eql .no (.t 40) (.c (.raw (.int .i64 0)))⟩,
   ⟨(some 42), none, .pick (.t 39) (.t 41) (.c (.kb false))⟩,
   ⟨(some 43), none, .mov (.t 42)⟩,
   ⟨(some 44), (some (43, true)), .load (some 19) (.t 5)⟩,
   ⟨(some 45), (some (43, true)), .load (some 19) (.t 3)⟩,
   ⟨(some 46), (some (43, true)), .bin .eql (.agg [.i, .i, .i, .i, .i, .i, .i, .i, .i, .i, .i, .s, .s, .i, .i, .i, .i, .i, .i]) (.t 44) (.t 45)⟩,
   ⟨(some 47), none, .pick (.t 43) (.t 46) (.c (.kb false))⟩,
   ⟨(some 0), none, .mov (.t 47)⟩])
 .ret)))))
theorem i_rostrumlaw25_awake : Is Tryz.prog 8 48 [.t 0] c_rostrumlaw25_awake := ⟨Tryz.f8, _, p_rostrumlaw25_awake, rfl, rfl, by kernel_rfl, by kernel_rfl, rfl⟩
def p_rostrumlaw25_long : List (Nat × Pl) := []
def c_rostrumlaw25_long : VCode :=
 (.seq (.reg [⟨(some 1), none, .box 27 (.t 0)⟩,
   ⟨(some 2), none, .mov (.c (.kb false))⟩])
 (.seq (.reg [⟨(some 3), none, .faddr 11 (.t 1)⟩,
   ⟨(some 4), none, .load none (.t 3)⟩,
   ⟨(some 5), none, .len .str (.t 4)⟩,
   ⟨(some 6), none, .bin .gtr .no (.t 5) (.c (.raw (.int .i64 100)))⟩,
   ⟨(some 7), none, .mov (.t 6)⟩,
   ⟨(some 8), (some (7, false)), .faddr 12 (.t 1)⟩,
   ⟨(some 9), (some (7, false)), .load none (.t 8)⟩,
   ⟨(some 10), (some (7, false)), .len .str (.t 9)⟩,
   ⟨(some 11), (some (7, false)), .bin .gtr .no (.t 10) (.c (.raw (.int .i64 100)))⟩,
   ⟨(some 12), none, .pick (.t 7) (.c (.kb true)) (.t 11)⟩,
   ⟨(some 2), none, .mov (.t 12)⟩])
 .ret))
theorem i_rostrumlaw25_long : Is Tryz.prog 9 13 [.t 2] c_rostrumlaw25_long := ⟨Tryz.f9, _, p_rostrumlaw25_long, rfl, rfl, by kernel_rfl, by kernel_rfl, rfl⟩
def p_gen_Get : List (Nat × Pl) := []
def c_gen_Get : VCode :=
 (.seq (.reg [⟨(some 2), none, .new 27 [(.int .i64 0), (.int .i64 0), (.int .i64 0), (.int .i64 0), (.int .i64 0), (.int .i64 0), (.int .i64 0), (.int .i64 0), (.int .i64 0), (.int .i64 0), (.int .i64 0), (.string (ByteArray.mk #[])), (.string (ByteArray.mk #[])), (.int .i64 0), (.int .i64 0), (.int .i64 0), (.int .i64 0), (.int .i64 0), (.int .i64 0)]⟩,
   ⟨(some 3), none, .mov (.c (.raw (.int .i64 0)))⟩])
 (.seq (.reg [⟨(some 6), none, .mov (.t 0)⟩,
   ⟨(some 7), none, .call 28 [(.t 6)]⟩,
   ⟨(some 4), none, .mov (.t 7)⟩])
 (.seq (.reg [⟨(some 5), none, .new 27 [(.int .i64 0), (.int .i64 0), (.int .i64 0), (.int .i64 0), (.int .i64 0), (.int .i64 0), (.int .i64 0), (.int .i64 0), (.int .i64 0), (.int .i64 0), (.int .i64 0), (.string (ByteArray.mk #[])), (.string (ByteArray.mk #[])), (.int .i64 0), (.int .i64 0), (.int .i64 0), (.int .i64 0), (.int .i64 0), (.int .i64 0)]⟩])
 (.seq (.reg [⟨(some 8), none, .mov (.t 4)⟩,
   ⟨(some 9), none, .call 29 [(.t 8), (.c (.raw (.int .i64 0))), (.c (.raw (.int .i64 7)))]⟩,
   ⟨(some 10), none, .faddr 0 (.t 5)⟩,
   ⟨none, none, .store none (.t 10) (.t 9)⟩])
 (.seq (.reg [⟨(some 11), none, .mov (.t 4)⟩,
   ⟨(some 12), none, .call 30 [(.t 11)]⟩,
   ⟨(some 13), none, .faddr 1 (.t 5)⟩,
   ⟨none, none, .store (some 2) (.t 13) (.t 12)⟩])
 (.seq (.reg [⟨(some 14), none, .mov (.t 4)⟩,
   ⟨(some 15), none, .call 31 [(.t 14)]⟩,
   ⟨(some 16), none, .faddr 3 (.t 5)⟩,
   ⟨none, none, .store (some 7) (.t 16) (.t 15)⟩])
 (.seq (.reg [⟨(some 17), none, .mov (.t 4)⟩,
   ⟨(some 18), none, .call 29 [(.t 17), (.c (.raw (.int .i64 0))), (.c (.raw (.int .i64 1000)))]⟩,
   ⟨(some 19), none, .faddr 10 (.t 5)⟩,
   ⟨none, none, .store none (.t 19) (.t 18)⟩])
 (.seq (.reg [⟨(some 20), none, .mov (.t 4)⟩,
   ⟨(some 21), none, .call 32 [(.t 20), (.c (.raw (.int .i64 80)))]⟩,
   ⟨(some 22), none, .faddr 11 (.t 5)⟩,
   ⟨none, none, .store none (.t 22) (.t 21)⟩])
 (.seq (.reg [⟨(some 23), none, .mov (.t 4)⟩,
   ⟨(some 24), none, .call 32 [(.t 23), (.c (.raw (.int .i64 80)))]⟩,
   ⟨(some 25), none, .faddr 12 (.t 5)⟩,
   ⟨none, none, .store none (.t 25) (.t 24)⟩])
 (.seq (.reg [⟨(some 26), none, .mov (.t 4)⟩,
   ⟨(some 27), none, .call 30 [(.t 26)]⟩,
   ⟨(some 28), none, .faddr 13 (.t 5)⟩,
   ⟨none, none, .store (some 2) (.t 28) (.t 27)⟩])
 (.seq (.reg [⟨(some 29), none, .mov (.t 4)⟩,
   ⟨(some 30), none, .call 30 [(.t 29)]⟩,
   ⟨(some 31), none, .faddr 15 (.t 5)⟩,
   ⟨none, none, .store (some 2) (.t 31) (.t 30)⟩])
 (.seq (.reg [⟨(some 32), none, .mov (.t 4)⟩,
   ⟨(some 33), none, .call 29 [(.t 32), (.c (.raw (.int .i64 0))), (.c (.raw (.int .i64 1000000000)))]⟩,
   ⟨(some 34), none, .faddr 17 (.t 5)⟩,
   ⟨none, none, .store none (.t 34) (.t 33)⟩])
 (.seq (.reg [⟨(some 35), none, .mov (.t 4)⟩,
   ⟨(some 36), none, .call 29 [(.t 35), (.c (.raw (.int .i64 0))), (.c (.raw (.int .i64 1125899906842624)))]⟩,
   ⟨(some 37), none, .faddr 18 (.t 5)⟩,
   ⟨none, none, .store none (.t 37) (.t 36)⟩])
 (.seq (.seq (.reg [⟨(some 38), none, .mov (.t 4)⟩,
   ⟨(some 39), none, .call 33 [(.t 38)]⟩,
   ⟨(some 40), none, .un .not (.t 39)⟩,
   ⟨(some 41), none, .mov (.t 40)⟩,
   ⟨(some 42), (some (41, false)), .load (some 19) (.t 5)⟩,
   ⟨(some 43), (some (41, false)), .call 15 [(.t 42)]⟩,
   ⟨(some 44), (some (41, false)), .un .not (.t 43)⟩,
   ⟨(some 45), none, .pick (.t 41) (.c (.kb true)) (.t 44)⟩])
 (.cond (.t 45)
  (.seq (.reg [⟨(some 46), none, .build [(.int .i64 0), (.int .i64 0), (.int .i64 0), (.int .i64 0), (.int .i64 0), (.int .i64 0), (.int .i64 0), (.int .i64 0), (.int .i64 0), (.int .i64 0), (.int .i64 0), (.string (ByteArray.mk #[])), (.string (ByteArray.mk #[])), (.int .i64 0), (.int .i64 0), (.int .i64 0), (.int .i64 0), (.int .i64 0), (.int .i64 0)] []⟩,
    ⟨none, none, .store (some 19) (.t 2) (.t 46)⟩,
    ⟨(some 3), none, .mov (.c (.raw (.int .i64 3)))⟩])
  .ret)
  .skip))
 (.seq (.reg [⟨(some 47), none, .load (some 19) (.t 5)⟩,
   ⟨none, none, .store (some 19) (.t 2) (.t 47)⟩,
   ⟨(some 3), none, .mov (.c (.raw (.int .i64 0)))⟩])
 .ret)))))))))))))))
theorem i_gen_Get : Is Tryz.prog 10 48 [.cell 2 (some 19), .t 3] c_gen_Get := ⟨Tryz.f10, _, p_gen_Get, rfl, rfl, by kernel_rfl, by kernel_rfl, rfl⟩
def p_gen_Put : List (Nat × Pl) := [(3, (.fl 0 (.fr 1 (.fl 3 (.fl 4 (.fr 5 (.fl 7 (.fl 8 (.fr 9 (.st 2 [5, 9] (.st 6 [9] (.st 10 [] (.fl 11 .done))))))))))))), (4, (.fl 0 (.fl 1 (.fr 2 (.fl 4 (.fr 5 (.st 3 [5] (.st 6 [] (.fl 7 .done))))))))), (5, (.fl 0 (.fl 1 (.fr 2 (.fl 4 (.fr 5 (.st 3 [5] (.st 6 [] (.fl 7 .done))))))))), (9, (.fl 0 (.fl 1 (.fr 2 (.fl 4 (.fr 5 (.st 3 [5] (.st 6 [] (.fl 7 .done))))))))), (11, (.fl 0 (.fl 1 (.fr 2 (.fl 4 (.fr 5 (.st 3 [5] (.st 6 [] (.fl 7 .done)))))))))]
def c_gen_Put : VCode :=
 (.seq (.reg [⟨(some 1), none, .box 27 (.t 0)⟩,
   ⟨(some 2), none, .mov (.c (.raw (.slice none 0 0)))⟩])
 (.seq (.seq (.reg [⟨(some 6), none, .load (some 19) (.t 1)⟩,
   ⟨(some 7), none, .call 15 [(.t 6)]⟩,
   ⟨(some 8), none, .un .not (.t 7)⟩])
 (.cond (.t 8)
  (.seq (.reg [⟨(some 2), none, .mov (.c (.raw (.slice none 0 0)))⟩])
  .ret)
  .skip))
 (.seq (.draw [⟨(some 9), none, .faddr 0 (.t 1)⟩,
   ⟨(some 10), none, .load none (.t 9)⟩,
   ⟨(some 11), none, .call 39 [(.c (.raw (.slice none 0 0))), (.t 10)]⟩,
   ⟨(some 12), none, .faddr 1 (.t 1)⟩,
   ⟨(some 13), none, .faddr 0 (.t 12)⟩,
   ⟨(some 14), none, .load none (.t 13)⟩,
   ⟨(some 15), none, .call 39 [(.t 11), (.t 14)]⟩,
   ⟨(some 16), none, .faddr 1 (.t 1)⟩,
   ⟨(some 17), none, .faddr 1 (.t 16)⟩,
   ⟨(some 18), none, .load none (.t 17)⟩,
   ⟨(some 19), none, .call 39 [(.t 15), (.t 18)]⟩,
   ⟨(some 3), none, .mov (.t 19)⟩]
   (.fl 0 (.fr 1 (.fl 3 (.fl 4 (.fr 5 (.fl 7 (.fl 8 (.fr 9 (.st 2 [5, 9] (.st 6 [9] (.st 10 [] (.fl 11 .done)))))))))))))
 (.seq (.draw [⟨(some 20), none, .mov (.t 3)⟩,
   ⟨(some 21), none, .faddr 3 (.t 1)⟩,
   ⟨(some 22), none, .load (some 7) (.t 21)⟩,
   ⟨(some 23), none, .call 40 [(.t 20), (.t 22)]⟩,
   ⟨(some 24), none, .faddr 10 (.t 1)⟩,
   ⟨(some 25), none, .load none (.t 24)⟩,
   ⟨(some 26), none, .call 39 [(.t 23), (.t 25)]⟩,
   ⟨(some 3), none, .mov (.t 26)⟩]
   (.fl 0 (.fl 1 (.fr 2 (.fl 4 (.fr 5 (.st 3 [5] (.st 6 [] (.fl 7 .done)))))))))
 (.seq (.draw [⟨(some 27), none, .mov (.t 3)⟩,
   ⟨(some 28), none, .faddr 11 (.t 1)⟩,
   ⟨(some 29), none, .load none (.t 28)⟩,
   ⟨(some 30), none, .call 41 [(.t 27), (.t 29)]⟩,
   ⟨(some 31), none, .faddr 12 (.t 1)⟩,
   ⟨(some 32), none, .load none (.t 31)⟩,
   ⟨(some 33), none, .call 41 [(.t 30), (.t 32)]⟩,
   ⟨(some 3), none, .mov (.t 33)⟩]
   (.fl 0 (.fl 1 (.fr 2 (.fl 4 (.fr 5 (.st 3 [5] (.st 6 [] (.fl 7 .done)))))))))
 (.seq (.seq (.reg [⟨(some 34), none, .faddr 13 (.t 1)⟩,
   ⟨(some 35), none, .load (some 2) (.t 34)⟩,
   ⟨(some 36), none, .faddr 15 (.t 1)⟩,
   ⟨(some 37), none, .load (some 2) (.t 36)⟩,
   ⟨(some 38), none, .bslice 23 2 [(.int .i64 0), (.int .i64 0), (.int .i64 0), (.int .i64 0)] [(0, 2, (.t 35)), (2, 2, (.t 37))]⟩,
   ⟨(some 39), none, .len .sl (.t 38)⟩,
   ⟨(some 40), none, .mov (.c (.raw (.int .i64 0)))⟩])
 (.block 0 (.loop (.seq (.reg [⟨(some 41), none, .bin .lss .no (.t 40) (.t 39)⟩])
  (.seq (.cond (.t 41)
   .skip
   (.exit 0))
  (.seq (.block 1 (.seq (.reg [⟨(some 42), none, .iaddr 2 none (.t 38) (.t 40)⟩,
    ⟨(some 43), none, .load (some 2) (.t 42)⟩,
    ⟨(some 5), none, .new 23 [(.int .i64 0), (.int .i64 0)]⟩,
    ⟨none, none, .store (some 2) (.t 5) (.t 43)⟩])
  (.draw [⟨(some 44), none, .mov (.t 3)⟩,
    ⟨(some 45), none, .faddr 0 (.t 5)⟩,
    ⟨(some 46), none, .load none (.t 45)⟩,
    ⟨(some 47), none, .call 39 [(.t 44), (.t 46)]⟩,
    ⟨(some 48), none, .faddr 1 (.t 5)⟩,
    ⟨(some 49), none, .load none (.t 48)⟩,
    ⟨(some 50), none, .call 39 [(.t 47), (.t 49)]⟩,
    ⟨(some 3), none, .mov (.t 50)⟩]
    (.fl 0 (.fl 1 (.fr 2 (.fl 4 (.fr 5 (.st 3 [5] (.st 6 [] (.fl 7 .done)))))))))))
  (.reg [⟨(some 51), none, .bin .add .no (.t 40) (.c (.raw (.int .i64 1)))⟩,
    ⟨(some 40), none, .mov (.t 51)⟩])))))))
 (.seq (.draw [⟨(some 52), none, .mov (.t 3)⟩,
   ⟨(some 53), none, .faddr 17 (.t 1)⟩,
   ⟨(some 54), none, .load none (.t 53)⟩,
   ⟨(some 55), none, .call 39 [(.t 52), (.t 54)]⟩,
   ⟨(some 56), none, .faddr 18 (.t 1)⟩,
   ⟨(some 57), none, .load none (.t 56)⟩,
   ⟨(some 58), none, .call 39 [(.t 55), (.t 57)]⟩,
   ⟨(some 2), none, .mov (.t 58)⟩]
   (.fl 0 (.fl 1 (.fr 2 (.fl 4 (.fr 5 (.st 3 [5] (.st 6 [] (.fl 7 .done)))))))))
 .ret)))))))
theorem i_gen_Put : Is Tryz.prog 12 59 [.t 2] c_gen_Put := ⟨Tryz.f12, _, p_gen_Put, rfl, rfl, by kernel_rfl, by kernel_rfl, rfl⟩
def p_rostrumlaw25_stp : List (Nat × Pl) := []
def c_rostrumlaw25_stp : VCode :=
 (.seq (.reg [⟨(some 1), none, .box 27 (.t 0)⟩,
   ⟨(some 2), none, .new 36 [(.int .i64 0), (.int .i64 0), (.int .i64 0), (.int .i64 0), (.int .i64 0), (.int .i64 0), (.int .i64 0), (.int .i64 0), (.int .i64 0), (.int .i64 0), (.int .i64 0), (.string (ByteArray.mk #[])), (.string (ByteArray.mk #[])), (.int .i64 0), (.int .i64 0), (.int .i64 0), (.int .i64 0), (.int .i64 0), (.int .i64 0)]⟩])
 (.seq (.reg [⟨(some 3), none, .faddr 0 (.t 1)⟩,
   ⟨(some 4), none, .load none (.t 3)⟩,
   ⟨(some 5), none, .faddr 1 (.t 1)⟩,
   ⟨(some 6), none, .load (some 2) (.t 5)⟩,
   ⟨(some 7), none, .faddr 3 (.t 1)⟩,
   ⟨(some 8), none, .load (some 7) (.t 7)⟩,
   ⟨(some 9), none, .faddr 10 (.t 1)⟩,
   ⟨(some 10), none, .load none (.t 9)⟩,
   ⟨(some 11), none, .faddr 11 (.t 1)⟩,
   ⟨(some 12), none, .load none (.t 11)⟩,
   ⟨(some 13), none, .faddr 12 (.t 1)⟩,
   ⟨(some 14), none, .load none (.t 13)⟩,
   ⟨(some 15), none, .faddr 13 (.t 1)⟩,
   ⟨(some 16), none, .load (some 2) (.t 15)⟩,
   ⟨(some 17), none, .faddr 15 (.t 1)⟩,
   ⟨(some 18), none, .load (some 2) (.t 17)⟩,
   ⟨(some 19), none, .faddr 17 (.t 1)⟩,
   ⟨(some 20), none, .load none (.t 19)⟩,
   ⟨(some 21), none, .faddr 18 (.t 1)⟩,
   ⟨(some 22), none, .load none (.t 21)⟩,
   ⟨(some 23), none, .build [(.int .i64 0), (.int .i64 0), (.int .i64 0), (.int .i64 0), (.int .i64 0), (.int .i64 0), (.int .i64 0), (.int .i64 0), (.int .i64 0), (.int .i64 0), (.int .i64 0), (.string (ByteArray.mk #[])), (.string (ByteArray.mk #[])), (.int .i64 0), (.int .i64 0), (.int .i64 0), (.int .i64 0), (.int .i64 0), (.int .i64 0)] [(0, 1, (.t 4)), (1, 2, (.t 6)), (3, 7, (.t 8)), (10, 1, (.t 10)), (11, 1, (.t 12)), (12, 1, (.t 14)), (13, 2, (.t 16)), (15, 2, (.t 18)), (17, 1, (.t 20)), (18, 1, (.t 22))]⟩,
   ⟨none, none, .store (some 19) (.t 2) (.t 23)⟩])
 .ret))
theorem i_rostrumlaw25_stp : Is Tryz.prog 13 24 [.cell 2 (some 19)] c_rostrumlaw25_stp := ⟨Tryz.f13, _, p_rostrumlaw25_stp, rfl, rfl, by kernel_rfl, by kernel_rfl, rfl⟩
def p_auct_Good : List (Nat × Pl) := [(3, (.fr 0 (.st 1 [] (.fl 2 (.fl 3 (.fl 4 (.fl 5 (.fr 6 (.fl 7 (.fr 8 (.fr 9 (.fl 10 (.fl 11 (.fr 12 (.fl 13 (.fl 14 (.fl 15 .done)))))))))))))))))]
def c_auct_Good : VCode :=
 (.seq (.reg [⟨(some 1), none, .box 27 (.t 0)⟩,
   ⟨(some 2), none, .mov (.c (.kb false))⟩])
 (.seq (.seq (.reg [⟨(some 9), none, .faddr 0 (.t 1)⟩,
   ⟨(some 10), none, .load none (.t 9)⟩,
   ⟨(some 11), none, .bin .lss .no (.t 10) (.c (.raw (.int .i64 1)))⟩,
   ⟨(some 12), none, .mov (.t 11)⟩,
   ⟨(some 13), (some (12, false)), .faddr 0 (.t 1)⟩,
   ⟨(some 14), (some (12, false)), .load none (.t 13)⟩,
   ⟨(some 15), (some (12, false)), .bin .gtr .no (.t 14) (.c (.raw (.int .i64 7)))⟩,
   ⟨(some 16), none, .pick (.t 12) (.c (.kb true)) (.t 15)⟩,
   ⟨(some 17), none, .mov (.t 16)⟩,
   ⟨(some 18), (some (17, false)), .faddr 1 (.t 1)⟩,
   ⟨(some 19), (some (17, false)), .load (some 2) (.t 18)⟩,
   ⟨(some 20), (some (17, false)), .call 45 [(.t 19)]⟩,
   ⟨(some 21), (some (17, false)), .un .not (.t 20)⟩,
   ⟨(some 22), none, .pick (.t 17) (.c (.kb true)) (.t 21)⟩,
   ⟨(some 23), none, .mov (.t 22)⟩,
   ⟨(some 24), (some (23, false)), .faddr 3 (.t 1)⟩,
   ⟨(some 25), (some (23, false)), .load (some 7) (.t 24)⟩,
   ⟨(some 26), (some (23, false)), .call 46 [(.t 25)]⟩,
   ⟨(some 27), (some (23, false)), .un .not (.t 26)⟩,
   ⟨(some 28), none, .pick (.t 23) (.c (.kb true)) (.t 27)⟩,
   ⟨(some 29), none, .mov (.t 28)⟩,
   ⟨(some 30), (some (29, false)), .faddr 10 (.t 1)⟩,
   ⟨(some 31), (some (29, false)), .load none (.t 30)⟩,
   ⟨(some 32), (some (29, false)), .bin .lss .no (.t 31) (.c (.raw (.int .i64 0)))⟩,
   ⟨(some 33), none, .pick (.t 29) (.c (.kb true)) (.t 32)⟩,
   ⟨(some 34), none, .mov (.t 33)⟩,
   ⟨(some 35), (some (34, false)), .faddr 10 (.t 1)⟩,
   ⟨(some 36), (some (34, false)), .load none (.t 35)⟩,
   ⟨(some 37), (some (34, false)), .bin .gtr .no (.t 36) (.c (.raw (.int .i64 1000)))⟩,
   ⟨(some 38), none, .pick (.t 34) (.c (.kb true)) (.t 37)⟩])
 (.cond (.t 38)
  (.seq (.reg [⟨(some 2), none, .mov (.c (.kb false))⟩])
  .ret)
  .skip))
 (.seq (.seq (.draw [⟨(some 39), none, .load (some 19) (.t 1)⟩,
   ⟨(some 40), none, .call 20 [(.t 39)]⟩,
   ⟨(some 41), none, .un .not (.t 40)⟩,
   ⟨(some 42), none, .mov (.t 41)⟩,
   ⟨(some 43), (some (42, true)), .faddr 1 (.t 1)⟩,
   ⟨(some 44), (some (42, true)), .faddr 0 (.t 43)⟩,
   ⟨(some 45), (some (42, true)), .load none (.t 44)⟩,
   ⟨(some 46), (some (42, true)), .faddr 3 (.t 1)⟩,
   ⟨(some 47), (some (42, true)), .iaddr 1 (some 7) (.t 46) (.t 45)⟩,
   ⟨(some 48), (some (42, true)), .load none (.t 47)⟩,
   ⟨(some 49), (some (42, true)), .faddr 1 (.t 1)⟩,
   ⟨(some 50), (some (42, true)), .faddr 1 (.t 49)⟩,
   ⟨(some 51), (some (42, true)), .load none (.t 50)⟩,
   ⟨(some 52), (some (42, true)), .bin .sub .no (.t 51) (.c (.raw (.int .i64 1)))⟩,
   ⟨(some 53), (some (42, true)), .bin .neq .no (.t 48) (.t 52)⟩,
   ⟨(some 54), none, .pick (.t 42) (.t 53) (.c (.kb false))⟩]
   (.fr 0 (.st 1 [] (.fl 2 (.fl 3 (.fl 4 (.fl 5 (.fr 6 (.fl 7 (.fr 8 (.fr 9 (.fl 10 (.fl 11 (.fr 12 (.fl 13 (.fl 14 (.fl 15 .done)))))))))))))))))
 (.cond (.t 54)
  (.seq (.reg [⟨(some 2), none, .mov (.c (.kb false))⟩])
  .ret)
  .skip))
 (.seq (.reg [⟨(some 56), none, .faddr 0 (.t 1)⟩,
   ⟨(some 57), none, .load none (.t 56)⟩,
   ⟨(some 58), none, .call 47 [(.t 57)]⟩,
   ⟨(some 55), none, .mov (.t 58)⟩,
   ⟨(some 59), none, .extr (.t 55) 0⟩,
   ⟨(some 60), none, .extr (.t 55) 1⟩,
   ⟨(some 61), none, .extr (.t 55) 2⟩,
   ⟨(some 62), none, .extr (.t 55) 3⟩,
   ⟨(some 63), none, .extr (.t 55) 4⟩,
   ⟨(some 64), none, .extr (.t 55) 5⟩,
   ⟨(some 3), none, .mov (.t 59)⟩,
   ⟨(some 4), none, .mov (.t 60)⟩,
   ⟨(some 5), none, .mov (.t 61)⟩,
   ⟨(some 6), none, .mov (.t 62)⟩,
   ⟨(some 7), none, .mov (.t 63)⟩,
   ⟨(some 8), none, .mov (.t 64)⟩])
 (.seq (.reg [⟨(some 65), none, .faddr 11 (.t 1)⟩,
   ⟨(some 66), none, .load none (.t 65)⟩,
   ⟨(some 67), none, .mov (.t 3)⟩,
   ⟨(some 68), none, .call 48 [(.t 66), (.t 67)]⟩,
   ⟨(some 69), none, .mov (.t 68)⟩,
   ⟨(some 70), (some (69, true)), .faddr 12 (.t 1)⟩,
   ⟨(some 71), (some (69, true)), .load none (.t 70)⟩,
   ⟨(some 72), (some (69, true)), .mov (.t 4)⟩,
   ⟨(some 73), (some (69, true)), .call 48 [(.t 71), (.t 72)]⟩,
   ⟨(some 74), none, .pick (.t 69) (.t 73) (.c (.kb false))⟩,
   ⟨(some 75), none, .mov (.t 74)⟩,
   ⟨(some 76), (some (75, true)), .faddr 13 (.t 1)⟩,
   ⟨(some 77), (some (75, true)), .load (some 2) (.t 76)⟩,
   ⟨(some 78), (some (75, true)), .mov (.t 5)⟩,
   ⟨(some 79), (some (75, true)), .call 49 [(.t 77), (.t 78)]⟩,
   ⟨(some 80), none, .pick (.t 75) (.t 79) (.c (.kb false))⟩,
   ⟨(some 81), none, .mov (.t 80)⟩,
   ⟨(some 82), (some (81, true)), .faddr 15 (.t 1)⟩,
   ⟨(some 83), (some (81, true)), .load (some 2) (.t 82)⟩,
   ⟨(some 84), (some (81, true)), .mov (.t 6)⟩,
   ⟨(some 85), (some (81, true)), .call 49 [(.t 83), (.t 84)]⟩,
   ⟨(some 86), none, .pick (.t 81) (.t 85) (.c (.kb false))⟩,
   ⟨(some 87), none, .mov (.t 86)⟩,
   ⟨(some 88), (some (87, true)), .faddr 17 (.t 1)⟩,
   ⟨(some 89), (some (87, true)), .load none (.t 88)⟩,
   ⟨(some 90), (some (87, true)), .mov (.t 7)⟩,
   ⟨(some 91), (some (87, true)), .call 50 [(.t 89), (.c (.raw (.int .i64 1))), (.c (.raw (.int .i64 1000000000))), (.t 90)]⟩,
   ⟨(some 92), none, .pick (.t 87) (.t 91) (.c (.kb false))⟩,
   ⟨(some 93), none, .mov (.t 92)⟩,
   ⟨(some 94), (some (93, true)), .faddr 18 (.t 1)⟩,
   ⟨(some 95), (some (93, true)), .load none (.t 94)⟩,
   ⟨(some 96), (some (93, true)), .mov (.t 8)⟩,
   ⟨(some 97), (some (93, true)), .call 50 [(.t 95), (.c (.raw (.int .i64 0))), (.c (.raw (.int .i64 1125899906842624))), (.t 96)]⟩,
   ⟨(some 98), none, .pick (.t 93) (.t 97) (.c (.kb false))⟩,
   ⟨(some 2), none, .mov (.t 98)⟩])
 .ret)))))
theorem i_auct_Good : Is Tryz.prog 15 99 [.t 2] c_auct_Good := ⟨Tryz.f15, _, p_auct_Good, rfl, rfl, by kernel_rfl, by kernel_rfl, rfl⟩
def p_auct_New : List (Nat × Pl) := []
def c_auct_New : VCode :=
 (.seq (.reg [⟨(some 0), none, .mov (.c (.raw (.pointer none)))⟩])
 (.seq (.reg [⟨(some 1), none, .mkmap⟩,
   ⟨(some 2), none, .mkmap⟩,
   ⟨(some 3), none, .mkmap⟩,
   ⟨(some 4), none, .mkmap⟩,
   ⟨(some 5), none, .build [(.int .i64 0), (.int .i64 0), (.int .i64 0), (.int .i64 0), (.int .i64 0), (.int .i64 0), (.int .i64 0), (.map none), (.slice none 0 0), (.map none), (.map none), (.map none)] [(7, 1, (.t 1)), (9, 1, (.t 2)), (10, 1, (.t 3)), (11, 1, (.t 4))]⟩,
   ⟨(some 6), none, .box 99 (.t 5)⟩,
   ⟨(some 0), none, .mov (.t 6)⟩])
 .ret))
theorem i_auct_New : Is Tryz.prog 16 7 [.t 0] c_auct_New := ⟨Tryz.f16, _, p_auct_New, rfl, rfl, by kernel_rfl, by kernel_rfl, rfl⟩
def p_gen_Make : List (Nat × Pl) := [(1, (.fl 0 (.fr 1 (.fr 2 (.fl 3 (.fl 5 (.fl 7 (.fr 8 (.fl 9 (.fr 10 (.fl 11 (.fr 12 (.fl 13 (.fr 14 (.fl 15 (.fr 16 (.br (.st 4 [1, 2, 8, 10, 12, 14, 16] (.br (.st 6 [1, 2, 8, 10, 12, 14, 16] (.fr 17 (.st 18 [1, 2, 8, 10, 12, 14, 16, 17] (.st 19 [] .done)))) (.st 18 [1, 2, 8, 10, 12, 14, 16] (.st 6 [1, 2, 8, 10, 12, 14, 16] (.fr 17 (.st 19 [] .done)))))) (.st 18 [1, 2, 8, 10, 12, 14, 16] (.st 4 [1, 2, 8, 10, 12, 14, 16] (.st 6 [1, 2, 8, 10, 12, 14, 16] (.fr 17 (.st 19 [] .done))))))))))))))))))))))]
def c_gen_Make : VCode :=
 (.seq (.reg [⟨(some 4), none, .box 47 (.t 1)⟩,
   ⟨(some 5), none, .box 23 (.t 2)⟩,
   ⟨(some 6), none, .new 27 [(.int .i64 0), (.int .i64 0), (.int .i64 0), (.int .i64 0), (.int .i64 0), (.int .i64 0), (.int .i64 0), (.int .i64 0), (.int .i64 0), (.int .i64 0), (.int .i64 0), (.string (ByteArray.mk #[])), (.string (ByteArray.mk #[])), (.int .i64 0), (.int .i64 0), (.int .i64 0), (.int .i64 0), (.int .i64 0), (.int .i64 0)]⟩,
   ⟨(some 7), none, .mov (.c (.raw (.int .i64 0)))⟩])
 (.seq (.draw [⟨(some 10), none, .faddr 0 (.t 4)⟩,
   ⟨(some 11), none, .load none (.t 10)⟩,
   ⟨(some 12), none, .load (some 2) (.t 5)⟩,
   ⟨(some 13), none, .mov (.t 0)⟩,
   ⟨(some 14), none, .call 26 [(.t 13)]⟩,
   ⟨(some 15), none, .mov (.t 0)⟩,
   ⟨(some 16), none, .call 25 [(.t 15)]⟩,
   ⟨(some 17), none, .faddr 1 (.t 4)⟩,
   ⟨(some 18), none, .load none (.t 17)⟩,
   ⟨(some 19), none, .faddr 2 (.t 4)⟩,
   ⟨(some 20), none, .load none (.t 19)⟩,
   ⟨(some 21), none, .faddr 3 (.t 4)⟩,
   ⟨(some 22), none, .load (some 2) (.t 21)⟩,
   ⟨(some 23), none, .faddr 5 (.t 4)⟩,
   ⟨(some 24), none, .load (some 2) (.t 23)⟩,
   ⟨(some 25), none, .faddr 7 (.t 4)⟩,
   ⟨(some 26), none, .load none (.t 25)⟩,
   ⟨(some 27), none, .build [(.int .i64 0), (.int .i64 0), (.int .i64 0), (.int .i64 0), (.int .i64 0), (.int .i64 0), (.int .i64 0), (.int .i64 0), (.int .i64 0), (.int .i64 0), (.int .i64 0), (.string (ByteArray.mk #[])), (.string (ByteArray.mk #[])), (.int .i64 0), (.int .i64 0), (.int .i64 0), (.int .i64 0), (.int .i64 0), (.int .i64 0)] [(0, 1, (.t 11)), (1, 2, (.t 12)), (3, 7, (.t 14)), (10, 1, (.t 16)), (11, 1, (.t 18)), (12, 1, (.t 20)), (13, 2, (.t 22)), (15, 2, (.t 24)), (17, 1, (.t 26))]⟩,
   ⟨(some 8), none, .new 27 [(.int .i64 0), (.int .i64 0), (.int .i64 0), (.int .i64 0), (.int .i64 0), (.int .i64 0), (.int .i64 0), (.int .i64 0), (.int .i64 0), (.int .i64 0), (.int .i64 0), (.string (ByteArray.mk #[])), (.string (ByteArray.mk #[])), (.int .i64 0), (.int .i64 0), (.int .i64 0), (.int .i64 0), (.int .i64 0), (.int .i64 0)]⟩,
   ⟨none, none, .store (some 19) (.t 8) (.t 27)⟩]
   (.fl 0 (.fr 1 (.fr 2 (.fl 3 (.fl 5 (.fl 7 (.fr 8 (.fl 9 (.fr 10 (.fl 11 (.fr 12 (.fl 13 (.fr 14 (.fl 15 (.fr 16 (.br (.st 4 [1, 2, 8, 10, 12, 14, 16] (.br (.st 6 [1, 2, 8, 10, 12, 14, 16] (.fr 17 (.st 18 [1, 2, 8, 10, 12, 14, 16, 17] (.st 19 [] .done)))) (.st 18 [1, 2, 8, 10, 12, 14, 16] (.st 6 [1, 2, 8, 10, 12, 14, 16] (.fr 17 (.st 19 [] .done)))))) (.st 18 [1, 2, 8, 10, 12, 14, 16] (.st 4 [1, 2, 8, 10, 12, 14, 16] (.st 6 [1, 2, 8, 10, 12, 14, 16] (.fr 17 (.st 19 [] .done))))))))))))))))))))))
 (.seq (.seq (.reg [⟨(some 28), none, .faddr 0 (.t 4)⟩,
   ⟨(some 29), none, .load none (.t 28)⟩,
   ⟨(some 30), none, .bin .eql .no (.t 29) (.c (.raw (.int .i64 6)))⟩])
 (.cond (.t 30)
  (.reg [⟨(some 31), none, .mov (.t 0)⟩,
    ⟨(some 32), none, .faddr 2 (.t 4)⟩,
    ⟨(some 33), none, .load none (.t 32)⟩,
    ⟨(some 34), none, .call 51 [(.t 31), (.t 33)]⟩,
    ⟨(some 35), none, .faddr 18 (.t 8)⟩,
    ⟨none, none, .store none (.t 35) (.t 34)⟩])
  .skip))
 (.seq (.seq (.reg [⟨(some 36), none, .load (some 19) (.t 8)⟩,
   ⟨(some 37), none, .call 15 [(.t 36)]⟩,
   ⟨(some 38), none, .un .not (.t 37)⟩])
 (.cond (.t 38)
  (.seq (.reg [⟨(some 39), none, .build [(.int .i64 0), (.int .i64 0), (.int .i64 0), (.int .i64 0), (.int .i64 0), (.int .i64 0), (.int .i64 0), (.int .i64 0), (.int .i64 0), (.int .i64 0), (.int .i64 0), (.string (ByteArray.mk #[])), (.string (ByteArray.mk #[])), (.int .i64 0), (.int .i64 0), (.int .i64 0), (.int .i64 0), (.int .i64 0), (.int .i64 0)] []⟩,
    ⟨none, none, .store (some 19) (.t 6) (.t 39)⟩,
    ⟨(some 7), none, .mov (.c (.raw (.int .i64 1)))⟩])
  .ret)
  .skip))
 (.seq (.seq (.reg [⟨(some 40), none, .mov (.t 0)⟩,
   ⟨(some 41), none, .load (some 19) (.t 8)⟩,
   ⟨(some 42), none, .build [(.pointer none), (.int .i64 0), (.int .i64 0), (.int .i64 0), (.int .i64 0), (.int .i64 0), (.int .i64 0), (.int .i64 0), (.int .i64 0), (.int .i64 0), (.int .i64 0), (.int .i64 0), (.string (ByteArray.mk #[])), (.string (ByteArray.mk #[])), (.int .i64 0), (.int .i64 0), (.int .i64 0), (.int .i64 0), (.int .i64 0), (.int .i64 0)] [(0, 1, (.t 40)), (1, 19, (.t 41))]⟩,
   ⟨(some 43), none, .call 52 [(.t 42)]⟩,
   ⟨(some 9), none, .mov (.t 43)⟩])
 (.seq (.reg [⟨(some 44), none, .mov (.t 9)⟩,
   ⟨(some 45), none, .bin .neq .no (.t 44) (.c (.raw (.int .i64 0)))⟩])
 (.cond (.t 45)
  (.seq (.reg [⟨(some 46), none, .build [(.int .i64 0), (.int .i64 0), (.int .i64 0), (.int .i64 0), (.int .i64 0), (.int .i64 0), (.int .i64 0), (.int .i64 0), (.int .i64 0), (.int .i64 0), (.int .i64 0), (.string (ByteArray.mk #[])), (.string (ByteArray.mk #[])), (.int .i64 0), (.int .i64 0), (.int .i64 0), (.int .i64 0), (.int .i64 0), (.int .i64 0)] []⟩,
    ⟨(some 47), none, .mov (.t 9)⟩,
    ⟨none, none, .store (some 19) (.t 6) (.t 46)⟩,
    ⟨(some 7), none, .mov (.t 47)⟩])
  .ret)
  .skip)))
 (.seq (.reg [⟨(some 48), none, .load (some 19) (.t 8)⟩,
   ⟨none, none, .store (some 19) (.t 6) (.t 48)⟩,
   ⟨(some 7), none, .mov (.c (.raw (.int .i64 0)))⟩])
 .ret))))))
theorem i_gen_Make : Is Tryz.prog 17 49 [.cell 6 (some 19), .t 7] c_gen_Make := ⟨Tryz.f17, _, p_gen_Make, rfl, rfl, by kernel_rfl, by kernel_rfl, rfl⟩
def p_auct_House_Do : List (Nat × Pl) := [(3, (.fl 0 (.fr 1 (.fl 2 (.fr 3 (.fl 4 (.fr 5 (.st 6 [] (.fl 7 (.fl 8 (.fl 9 (.fr 10 (.fl 11 (.fr 12 (.fl 13 (.fr 14 (.fl 15 (.fl 16 (.fl 17 (.fl 18 .done)))))))))))))))))))), (5, (.fl 0 (.fl 1 (.fr 2 (.fl 3 (.fr 4 (.fr 5 (.st 6 [2, 4] (.st 7 [] (.fr 8 (.fl 9 (.st 10 [] .done)))))))))))), (13, (.fl 0 (.fr 1 (.fl 2 (.fr 3 (.fl 4 (.fr 5 (.fl 6 (.fr 7 (.fl 8 (.fr 9 (.fl 10 (.fl 11 .done))))))))))))), (15, (.fl 0 (.fr 1 (.fl 2 (.fr 3 (.fl 4 (.fr 5 (.fl 6 (.fr 7 (.fl 8 (.st 9 [] .done))))))))))), (17, (.fl 0 (.fr 1 (.fl 2 (.fr 3 (.fl 4 (.fr 5 (.fr 6 (.fl 7 (.fl 8 (.fl 9 (.st 10 [1, 3, 5, 6] (.st 11 [] (.fl 12 .done)))))))))))))), (18, (.fl 0 (.fl 1 (.fl 2 (.fr 3 (.fl 4 (.fr 5 (.st 6 [] (.fl 7 (.fl 8 (.fl 9 (.fl 10 (.fr 11 (.fl 12 (.fr 13 (.fl 14 (.fr 15 (.fr 16 (.fl 17 (.fl 18 (.fl 19 .done))))))))))))))))))))), (20, (.fl 0 (.fr 1 (.fl 2 (.fr 3 (.fl 4 (.fr 5 (.fl 6 (.fr 7 (.st 8 [1, 3, 5] (.st 9 [] .done)))))))))))]
def c_auct_House_Do : VCode :=
 (.seq (.reg [⟨(some 3), none, .box 27 (.t 1)⟩,
   ⟨(some 4), none, .mov (.c (.kb false))⟩,
   ⟨(some 5), none, .mov (.c (.raw (.int .i64 0)))⟩])
 (.seq (.block 0 (.seq (.reg [⟨(some 11), none, .load (some 19) (.t 3)⟩,
   ⟨(some 12), none, .call 15 [(.t 11)]⟩,
   ⟨(some 13), none, .un .not (.t 12)⟩,
   ⟨(some 14), none, .mov (.t 13)⟩,
   ⟨(some 15), (some (14, false)), .load (some 19) (.t 3)⟩,
   ⟨(some 16), (some (14, false)), .call 20 [(.t 15)]⟩,
   ⟨(some 17), (some (14, false)), .un .not (.t 16)⟩,
   ⟨(some 18), none, .pick (.t 14) (.c (.kb true)) (.t 17)⟩,
   ⟨(some 10), none, .mov (.t 18)⟩])
 (.cond (.t 10)
  (.seq (.reg [⟨(some 4), none, .mov (.c (.kb false))⟩,
    ⟨(some 5), none, .mov (.c (.raw (.int .i64 1)))⟩])
  .ret)
  (.seq (.draw [⟨(some 20), none, .faddr 3 (.t 3)⟩,
    ⟨(some 21), none, .load (some 7) (.t 20)⟩,
    ⟨(some 22), none, .mov (.t 0)⟩,
    ⟨(some 23), none, .nilck (.t 22)⟩,
    ⟨(some 24), none, .faddr 0 (.t 23)⟩,
    ⟨(some 25), none, .load (some 7) (.t 24)⟩,
    ⟨(some 26), none, .call 53 [(.t 21), (.t 25)]⟩,
    ⟨(some 27), none, .un .not (.t 26)⟩,
    ⟨(some 28), none, .mov (.t 27)⟩,
    ⟨(some 29), (some (28, false)), .faddr 10 (.t 3)⟩,
    ⟨(some 30), (some (28, false)), .load none (.t 29)⟩,
    ⟨(some 31), (some (28, false)), .mov (.t 0)⟩,
    ⟨(some 32), (some (28, false)), .nilck (.t 31)⟩,
    ⟨(some 33), (some (28, false)), .faddr 8 (.t 32)⟩,
    ⟨(some 34), (some (28, false)), .load none (.t 33)⟩,
    ⟨(some 35), (some (28, false)), .len .sl (.t 34)⟩,
    ⟨(some 36), (some (28, false)), .bin .gtr .no (.t 30) (.t 35)⟩,
    ⟨(some 37), none, .pick (.t 28) (.c (.kb true)) (.t 36)⟩,
    ⟨(some 19), none, .mov (.t 37)⟩]
    (.fl 0 (.fr 1 (.fl 2 (.fr 3 (.fl 4 (.fr 5 (.st 6 [] (.fl 7 (.fl 8 (.fl 9 (.fr 10 (.fl 11 (.fr 12 (.fl 13 (.fr 14 (.fl 15 (.fl 16 (.fl 17 (.fl 18 .done))))))))))))))))))))
  (.cond (.t 19)
   (.seq (.reg [⟨(some 4), none, .mov (.c (.kb false))⟩,
     ⟨(some 5), none, .mov (.c (.raw (.int .i64 8)))⟩])
   .ret)
   .skip)))))
 (.seq (.draw [⟨(some 38), none, .mov (.t 0)⟩,
   ⟨(some 39), none, .mov (.t 0)⟩,
   ⟨(some 40), none, .nilck (.t 39)⟩,
   ⟨(some 41), none, .faddr 8 (.t 40)⟩,
   ⟨(some 42), none, .load none (.t 41)⟩,
   ⟨(some 43), none, .load (some 19) (.t 3)⟩,
   ⟨(some 44), none, .bslice 27 1 [(.int .i64 0), (.int .i64 0), (.int .i64 0), (.int .i64 0), (.int .i64 0), (.int .i64 0), (.int .i64 0), (.int .i64 0), (.int .i64 0), (.int .i64 0), (.int .i64 0), (.string (ByteArray.mk #[])), (.string (ByteArray.mk #[])), (.int .i64 0), (.int .i64 0), (.int .i64 0), (.int .i64 0), (.int .i64 0), (.int .i64 0)] [(0, 19, (.t 43))]⟩,
   ⟨(some 45), none, .append 27 19 168 [(.int .i64 0), (.int .i64 0), (.int .i64 0), (.int .i64 0), (.int .i64 0), (.int .i64 0), (.int .i64 0), (.int .i64 0), (.int .i64 0), (.int .i64 0), (.int .i64 0), (.string (ByteArray.mk #[])), (.string (ByteArray.mk #[])), (.int .i64 0), (.int .i64 0), (.int .i64 0), (.int .i64 0), (.int .i64 0), (.int .i64 0)] (.t 42) (.t 44)⟩,
   ⟨(some 46), none, .nilck (.t 38)⟩,
   ⟨(some 47), none, .faddr 8 (.t 46)⟩,
   ⟨none, none, .store none (.t 47) (.t 45)⟩]
   (.fl 0 (.fl 1 (.fr 2 (.fl 3 (.fr 4 (.fr 5 (.st 6 [2, 4] (.st 7 [] (.fr 8 (.fl 9 (.st 10 [] .done))))))))))))
 (.seq (.reg [⟨(some 48), none, .faddr 12 (.t 3)⟩,
   ⟨(some 49), none, .load none (.t 48)⟩,
   ⟨(some 50), none, .call 54 [(.t 49)]⟩,
   ⟨(some 6), none, .mov (.t 50)⟩])
 (.seq (.seq (.reg [⟨(some 51), none, .faddr 0 (.t 3)⟩,
   ⟨(some 52), none, .load none (.t 51)⟩])
 (.block 1 (.seq (.reg [⟨(some 54), none, .bin .eql .no (.t 52) (.c (.raw (.int .i64 5)))⟩,
   ⟨(some 53), none, .mov (.t 54)⟩])
 (.cond (.t 53)
  (.seq (.reg [⟨(some 55), none, .mov (.t 0)⟩,
    ⟨(some 56), none, .nilck (.t 55)⟩,
    ⟨(some 57), none, .faddr 9 (.t 56)⟩,
    ⟨(some 58), none, .load none (.t 57)⟩,
    ⟨(some 59), none, .mov (.t 6)⟩,
    ⟨(some 60), none, .lookup 95 false (.t 58) (.t 59)⟩,
    ⟨(some 7), none, .mov (.t 60)⟩])
  (.seq (.reg [⟨(some 61), none, .mov (.t 0)⟩,
    ⟨(some 62), none, .nilck (.t 61)⟩,
    ⟨(some 63), none, .faddr 9 (.t 62)⟩,
    ⟨(some 64), none, .load none (.t 63)⟩,
    ⟨(some 65), none, .mov (.t 6)⟩,
    ⟨none, none, .mapup 95 (.t 64) (.t 65) (.c (.kb true))⟩])
  (.seq (.reg [⟨(some 66), none, .mov (.t 7)⟩,
    ⟨(some 67), none, .un .not (.t 66)⟩,
    ⟨(some 4), none, .mov (.t 67)⟩,
    ⟨(some 5), none, .mov (.c (.raw (.int .i64 0)))⟩])
  .ret)))
  (.seq (.reg [⟨(some 69), none, .bin .eql .no (.t 52) (.c (.raw (.int .i64 6)))⟩,
    ⟨(some 68), none, .mov (.t 69)⟩])
  (.cond (.t 68)
   (.seq (.seq (.draw [⟨(some 70), none, .faddr 17 (.t 3)⟩,
     ⟨(some 71), none, .load none (.t 70)⟩,
     ⟨(some 72), none, .faddr 18 (.t 3)⟩,
     ⟨(some 73), none, .load none (.t 72)⟩,
     ⟨(some 74), none, .mov (.t 0)⟩,
     ⟨(some 75), none, .nilck (.t 74)⟩,
     ⟨(some 76), none, .faddr 10 (.t 75)⟩,
     ⟨(some 77), none, .load none (.t 76)⟩,
     ⟨(some 78), none, .mov (.t 6)⟩,
     ⟨(some 79), none, .lookup 96 false (.t 77) (.t 78)⟩,
     ⟨(some 80), none, .bin .sub .no (.t 73) (.t 79)⟩,
     ⟨(some 81), none, .bin .gtr .no (.t 71) (.t 80)⟩]
     (.fl 0 (.fr 1 (.fl 2 (.fr 3 (.fl 4 (.fr 5 (.fl 6 (.fr 7 (.fl 8 (.fr 9 (.fl 10 (.fl 11 .done)))))))))))))
   (.cond (.t 81)
    (.seq (.reg [⟨(some 4), none, .mov (.c (.kb false))⟩,
      ⟨(some 5), none, .mov (.c (.raw (.int .i64 0)))⟩])
    .ret)
    .skip))
   (.seq (.draw [⟨(some 82), none, .mov (.t 0)⟩,
     ⟨(some 83), none, .nilck (.t 82)⟩,
     ⟨(some 84), none, .faddr 10 (.t 83)⟩,
     ⟨(some 85), none, .load none (.t 84)⟩,
     ⟨(some 86), none, .mov (.t 6)⟩,
     ⟨(some 87), none, .lookup 96 false (.t 85) (.t 86)⟩,
     ⟨(some 88), none, .faddr 17 (.t 3)⟩,
     ⟨(some 89), none, .load none (.t 88)⟩,
     ⟨(some 90), none, .bin .add .no (.t 87) (.t 89)⟩,
     ⟨none, none, .mapup 96 (.t 85) (.t 86) (.t 90)⟩]
     (.fl 0 (.fr 1 (.fl 2 (.fr 3 (.fl 4 (.fr 5 (.fl 6 (.fr 7 (.fl 8 (.st 9 [] .done)))))))))))
   (.seq (.reg [⟨(some 4), none, .mov (.c (.kb true))⟩,
     ⟨(some 5), none, .mov (.c (.raw (.int .i64 0)))⟩])
   .ret)))
   .skip))))))
 (.seq (.draw [⟨(some 92), none, .mov (.t 0)⟩,
   ⟨(some 93), none, .nilck (.t 92)⟩,
   ⟨(some 94), none, .faddr 11 (.t 93)⟩,
   ⟨(some 95), none, .load none (.t 94)⟩,
   ⟨(some 96), none, .faddr 13 (.t 3)⟩,
   ⟨(some 97), none, .load (some 2) (.t 96)⟩,
   ⟨(some 98), none, .lookup 97 true (.t 95) (.t 97)⟩,
   ⟨(some 91), none, .mov (.t 98)⟩,
   ⟨(some 99), none, .extr (.t 91) 0⟩,
   ⟨(some 100), none, .extr (.t 91) 1⟩,
   ⟨(some 8), none, .new 107 [(.int .i64 0), (.int .i64 0), (.string (ByteArray.mk #[])), (.int .i64 0)]⟩,
   ⟨none, none, .store (some 4) (.t 8) (.t 99)⟩,
   ⟨(some 9), none, .mov (.t 100)⟩]
   (.fl 0 (.fr 1 (.fl 2 (.fr 3 (.fl 4 (.fr 5 (.fr 6 (.fl 7 (.fl 8 (.fl 9 (.st 10 [1, 3, 5, 6] (.st 11 [] (.fl 12 .done))))))))))))))
 (.seq (.seq (.draw [⟨(some 101), none, .mov (.t 9)⟩,
   ⟨(some 102), none, .mov (.t 101)⟩,
   ⟨(some 103), (some (102, false)), .faddr 3 (.t 3)⟩,
   ⟨(some 104), (some (102, false)), .load (some 7) (.t 103)⟩,
   ⟨(some 105), (some (102, false)), .faddr 13 (.t 3)⟩,
   ⟨(some 106), (some (102, false)), .load (some 2) (.t 105)⟩,
   ⟨(some 107), (some (102, false)), .call 55 [(.t 104), (.t 106)]⟩,
   ⟨(some 108), (some (102, false)), .un .not (.t 107)⟩,
   ⟨(some 109), none, .pick (.t 102) (.c (.kb true)) (.t 108)⟩,
   ⟨(some 110), none, .mov (.t 109)⟩,
   ⟨(some 111), (some (110, false)), .mov (.t 0)⟩,
   ⟨(some 112), (some (110, false)), .nilck (.t 111)⟩,
   ⟨(some 113), (some (110, false)), .faddr 7 (.t 112)⟩,
   ⟨(some 114), (some (110, false)), .load none (.t 113)⟩,
   ⟨(some 115), (some (110, false)), .faddr 13 (.t 3)⟩,
   ⟨(some 116), (some (110, false)), .load (some 2) (.t 115)⟩,
   ⟨(some 117), (some (110, false)), .lookup 94 false (.t 114) (.t 116)⟩,
   ⟨(some 118), (some (110, false)), .field 0 none (.t 117)⟩,
   ⟨(some 119), (some (110, false)), .bin .neq .no (.t 118) (.c (.raw (.int .i64 1)))⟩,
   ⟨(some 120), none, .pick (.t 110) (.c (.kb true)) (.t 119)⟩]
   (.fl 0 (.fl 1 (.fl 2 (.fr 3 (.fl 4 (.fr 5 (.st 6 [] (.fl 7 (.fl 8 (.fl 9 (.fl 10 (.fr 11 (.fl 12 (.fr 13 (.fl 14 (.fr 15 (.fr 16 (.fl 17 (.fl 18 (.fl 19 .done)))))))))))))))))))))
 (.cond (.t 120)
  (.seq (.reg [⟨(some 4), none, .mov (.c (.kb false))⟩,
    ⟨(some 5), none, .mov (.c (.raw (.int .i64 0)))⟩])
  .ret)
  .skip))
 (.seq (.draw [⟨(some 121), none, .mov (.t 0)⟩,
   ⟨(some 122), none, .nilck (.t 121)⟩,
   ⟨(some 123), none, .faddr 11 (.t 122)⟩,
   ⟨(some 124), none, .load none (.t 123)⟩,
   ⟨(some 125), none, .faddr 13 (.t 3)⟩,
   ⟨(some 126), none, .load (some 2) (.t 125)⟩,
   ⟨(some 127), none, .mov (.t 0)⟩,
   ⟨(some 128), none, .load (some 19) (.t 3)⟩,
   ⟨(some 129), none, .call 56 [(.t 127), (.t 128)]⟩,
   ⟨none, none, .mapup 97 (.t 124) (.t 126) (.t 129)⟩]
   (.fl 0 (.fr 1 (.fl 2 (.fr 3 (.fl 4 (.fr 5 (.fl 6 (.fr 7 (.st 8 [1, 3, 5] (.st 9 [] .done)))))))))))
 (.seq (.reg [⟨(some 4), none, .mov (.c (.kb true))⟩,
   ⟨(some 5), none, .mov (.c (.raw (.int .i64 0)))⟩])
 .ret)))))))))
theorem i_auct_House_Do : Is Tryz.prog 18 130 [.t 4, .t 5] c_auct_House_Do := ⟨Tryz.f18, _, p_auct_House_Do, rfl, rfl, by kernel_rfl, by kernel_rfl, rfl⟩
def p_auct_House_Blue : List (Nat × Pl) := [(3, (.fl 0 (.fr 1 (.fl 2 (.fr 3 (.fl 4 (.fr 5 (.st 6 [] (.fl 7 .done))))))))), (5, (.fl 0 (.fl 1 (.fr 2 (.fl 3 (.fl 4 (.fl 5 (.fr 6 (.fr 7 (.fl 8 (.fr 9 (.fr 10 (.fl 11 (.fl 12 (.fl 13 (.fl 14 (.fr 15 (.fl 16 (.fr 17 (.fl 18 (.fr 19 (.st 20 [] (.fl 21 (.fl 22 (.fl 23 (.fl 24 (.fr 25 (.fl 26 (.fr 27 (.fl 28 (.fr 29 (.fl 30 (.fl 31 (.fl 32 (.fl 33 .done))))))))))))))))))))))))))))))))))), (7, (.fl 0 (.fl 1 (.fl 2 (.fr 3 (.fr 4 (.fl 5 (.fr 6 (.fr 7 (.fl 8 (.fr 9 (.fl 10 (.fr 11 (.st 12 [] .done)))))))))))))), (8, (.fl 0 (.fr 1 (.fl 2 (.fr 3 (.fl 4 (.fr 5 (.fr 6 (.st 7 [] .done)))))))))]
def c_auct_House_Blue : VCode :=
 (.seq (.reg [⟨(some 3), none, .box 27 (.t 1)⟩,
   ⟨(some 4), none, .mov (.c (.raw (.int .i64 0)))⟩])
 (.seq (.block 0 (.seq (.reg [⟨(some 6), none, .load (some 19) (.t 3)⟩,
   ⟨(some 7), none, .call 15 [(.t 6)]⟩,
   ⟨(some 8), none, .un .not (.t 7)⟩,
   ⟨(some 9), none, .mov (.t 8)⟩,
   ⟨(some 10), (some (9, false)), .load (some 19) (.t 3)⟩,
   ⟨(some 11), (some (9, false)), .call 20 [(.t 10)]⟩,
   ⟨(some 12), none, .pick (.t 9) (.c (.kb true)) (.t 11)⟩,
   ⟨(some 5), none, .mov (.t 12)⟩])
 (.cond (.t 5)
  (.seq (.reg [⟨(some 4), none, .mov (.c (.raw (.int .i64 1)))⟩])
  .ret)
  (.seq (.draw [⟨(some 14), none, .mov (.t 0)⟩,
    ⟨(some 15), none, .nilck (.t 14)⟩,
    ⟨(some 16), none, .faddr 0 (.t 15)⟩,
    ⟨(some 17), none, .load (some 7) (.t 16)⟩,
    ⟨(some 18), none, .faddr 1 (.t 3)⟩,
    ⟨(some 19), none, .load (some 2) (.t 18)⟩,
    ⟨(some 20), none, .call 55 [(.t 17), (.t 19)]⟩,
    ⟨(some 13), none, .mov (.t 20)⟩]
    (.fl 0 (.fr 1 (.fl 2 (.fr 3 (.fl 4 (.fr 5 (.st 6 [] (.fl 7 .done)))))))))
  (.cond (.t 13)
   (.seq (.reg [⟨(some 4), none, .mov (.c (.raw (.int .i64 5)))⟩])
   .ret)
   (.seq (.draw [⟨(some 22), none, .faddr 1 (.t 3)⟩,
     ⟨(some 23), none, .faddr 1 (.t 22)⟩,
     ⟨(some 24), none, .load none (.t 23)⟩,
     ⟨(some 25), none, .mov (.t 0)⟩,
     ⟨(some 26), none, .faddr 1 (.t 3)⟩,
     ⟨(some 27), none, .faddr 0 (.t 26)⟩,
     ⟨(some 28), none, .load none (.t 27)⟩,
     ⟨(some 29), none, .nilck (.t 25)⟩,
     ⟨(some 30), none, .faddr 0 (.t 29)⟩,
     ⟨(some 31), none, .iaddr 1 (some 7) (.t 30) (.t 28)⟩,
     ⟨(some 32), none, .load none (.t 31)⟩,
     ⟨(some 33), none, .bin .add .no (.t 32) (.c (.raw (.int .i64 1)))⟩,
     ⟨(some 34), none, .bin .neq .no (.t 24) (.t 33)⟩,
     ⟨(some 35), none, .mov (.t 34)⟩,
     ⟨(some 36), (some (35, false)), .faddr 3 (.t 3)⟩,
     ⟨(some 37), (some (35, false)), .load (some 7) (.t 36)⟩,
     ⟨(some 38), (some (35, false)), .mov (.t 0)⟩,
     ⟨(some 39), (some (35, false)), .nilck (.t 38)⟩,
     ⟨(some 40), (some (35, false)), .faddr 0 (.t 39)⟩,
     ⟨(some 41), (some (35, false)), .load (some 7) (.t 40)⟩,
     ⟨(some 42), (some (35, false)), .call 53 [(.t 37), (.t 41)]⟩,
     ⟨(some 43), (some (35, false)), .un .not (.t 42)⟩,
     ⟨(some 44), none, .pick (.t 35) (.c (.kb true)) (.t 43)⟩,
     ⟨(some 45), none, .mov (.t 44)⟩,
     ⟨(some 46), (some (45, false)), .faddr 10 (.t 3)⟩,
     ⟨(some 47), (some (45, false)), .load none (.t 46)⟩,
     ⟨(some 48), (some (45, false)), .mov (.t 0)⟩,
     ⟨(some 49), (some (45, false)), .nilck (.t 48)⟩,
     ⟨(some 50), (some (45, false)), .faddr 8 (.t 49)⟩,
     ⟨(some 51), (some (45, false)), .load none (.t 50)⟩,
     ⟨(some 52), (some (45, false)), .len .sl (.t 51)⟩,
     ⟨(some 53), (some (45, false)), .bin .gtr .no (.t 47) (.t 52)⟩,
     ⟨(some 54), none, .pick (.t 45) (.c (.kb true)) (.t 53)⟩,
     ⟨(some 21), none, .mov (.t 54)⟩]
     (.fl 0 (.fl 1 (.fr 2 (.fl 3 (.fl 4 (.fl 5 (.fr 6 (.fr 7 (.fl 8 (.fr 9 (.fr 10 (.fl 11 (.fl 12 (.fl 13 (.fl 14 (.fr 15 (.fl 16 (.fr 17 (.fl 18 (.fr 19 (.st 20 [] (.fl 21 (.fl 22 (.fl 23 (.fl 24 (.fr 25 (.fl 26 (.fr 27 (.fl 28 (.fr 29 (.fl 30 (.fl 31 (.fl 32 (.fl 33 .done)))))))))))))))))))))))))))))))))))
   (.cond (.t 21)
    (.seq (.reg [⟨(some 4), none, .mov (.c (.raw (.int .i64 8)))⟩])
    .ret)
    .skip)))))))
 (.seq (.draw [⟨(some 55), none, .mov (.t 0)⟩,
   ⟨(some 56), none, .faddr 1 (.t 3)⟩,
   ⟨(some 57), none, .faddr 0 (.t 56)⟩,
   ⟨(some 58), none, .load none (.t 57)⟩,
   ⟨(some 59), none, .nilck (.t 55)⟩,
   ⟨(some 60), none, .faddr 0 (.t 59)⟩,
   ⟨(some 61), none, .iaddr 1 (some 7) (.t 60) (.t 58)⟩,
   ⟨(some 62), none, .load none (.t 61)⟩,
   ⟨(some 63), none, .bin .add .no (.t 62) (.c (.raw (.int .i64 1)))⟩,
   ⟨(some 64), none, .nilck (.t 55)⟩,
   ⟨(some 65), none, .faddr 0 (.t 64)⟩,
   ⟨(some 66), none, .iaddr 1 (some 7) (.t 65) (.t 58)⟩,
   ⟨none, none, .store none (.t 66) (.t 63)⟩]
   (.fl 0 (.fl 1 (.fl 2 (.fr 3 (.fr 4 (.fl 5 (.fr 6 (.fr 7 (.fl 8 (.fr 9 (.fl 10 (.fr 11 (.st 12 [] .done))))))))))))))
 (.seq (.draw [⟨(some 67), none, .mov (.t 0)⟩,
   ⟨(some 68), none, .nilck (.t 67)⟩,
   ⟨(some 69), none, .faddr 7 (.t 68)⟩,
   ⟨(some 70), none, .load none (.t 69)⟩,
   ⟨(some 71), none, .faddr 1 (.t 3)⟩,
   ⟨(some 72), none, .load (some 2) (.t 71)⟩,
   ⟨(some 73), none, .load (some 19) (.t 3)⟩,
   ⟨none, none, .mapup 94 (.t 70) (.t 72) (.t 73)⟩]
   (.fl 0 (.fr 1 (.fl 2 (.fr 3 (.fl 4 (.fr 5 (.fr 6 (.st 7 [] .done)))))))))
 (.seq (.reg [⟨(some 4), none, .mov (.c (.raw (.int .i64 0)))⟩])
 .ret)))))
theorem i_auct_House_Blue : Is Tryz.prog 19 74 [.t 4] c_auct_House_Blue := ⟨Tryz.f19, _, p_auct_House_Blue, rfl, rfl, by kernel_rfl, by kernel_rfl, rfl⟩
def p_auct_Red : List (Nat × Pl) := []
def c_auct_Red : VCode :=
 (.seq (.reg [⟨(some 1), none, .box 27 (.t 0)⟩,
   ⟨(some 2), none, .mov (.c (.kb false))⟩])
 (.seq (.reg [⟨(some 3), none, .faddr 0 (.t 1)⟩,
   ⟨(some 4), none, .load none (.t 3)⟩,
   ⟨(some 5), none, .bin .geq .no (.t 4) (.c (.raw (.int .i64 5)))⟩,
   ⟨(some 6), none, .mov (.t 5)⟩,
   ⟨(some 7), (some (6, true)), .faddr 0 (.t 1)⟩,
   ⟨(some 8), (some (6, true)), .load none (.t 7)⟩,
   ⟨(some 9), (some (6, true)), .bin .leq .no (.t 8) (.c (.raw (.int .i64 7)))⟩,
   ⟨(some 10), none, .pick (.t 6) (.t 9) (.c (.kb false))⟩,
   ⟨(some 2), none, .mov (.t 10)⟩])
 .ret))
theorem i_auct_Red : Is Tryz.prog 20 11 [.t 2] c_auct_Red := ⟨Tryz.f20, _, p_auct_Red, rfl, rfl, by kernel_rfl, by kernel_rfl, rfl⟩
def p_rostrumref24_House_Do : List (Nat × Pl) := [(3, (.fl 0 (.fr 1 (.fl 2 (.fr 3 (.fl 4 (.fr 5 (.st 6 [] (.fl 7 (.fl 8 (.fl 9 (.fr 10 (.fl 11 (.fr 12 (.fl 13 (.fr 14 (.fl 15 (.fl 16 (.fl 17 .done))))))))))))))))))), (5, (.fl 0 (.fl 2 (.fr 3 (.fl 4 (.fr 5 (.fr 7 (.br (.st 1 [3, 5, 7] (.br (.st 6 [7] (.st 8 [] (.st 9 [] (.fr 10 (.fl 11 (.st 12 [] .done)))))) (.st 8 [3, 5] (.st 6 [] (.st 9 [] (.fr 10 (.fl 11 (.st 12 [] .done)))))))) (.st 8 [3, 5] (.st 1 [3, 5] (.st 6 [] (.st 9 [] (.fr 10 (.fl 11 (.st 12 [] .done))))))))))))))), (14, (.fl 0 (.fl 2 (.fr 3 (.fl 4 (.fr 5 (.fl 6 (.fl 7 (.fl 9 (.fl 12 (.fr 13 (.fl 14 (.fr 15 (.fl 16 (.fl 17 (.br (.st 1 [3, 5, 13, 15] (.br (.st 8 [13, 15] (.st 10 [13, 15] (.st 11 [13, 15] (.st 18 [] (.fr 19 (.fl 20 (.st 21 [] .done))))))) (.st 10 [3, 5, 13, 15] (.st 8 [13, 15] (.st 11 [13, 15] (.st 18 [] (.fr 19 (.fl 20 (.st 21 [] .done))))))))) (.st 10 [3, 5, 13, 15] (.st 1 [3, 5, 13, 15] (.st 8 [13, 15] (.st 11 [13, 15] (.st 18 [] (.fr 19 (.fl 20 (.st 21 [] .done)))))))))))))))))))))))), (17, (.fl 0 (.fr 1 (.fl 2 (.fl 3 (.fr 4 (.fl 7 (.fr 8 (.st 5 [1, 8] (.fl 6 (.fl 9 .done))))))))))), (19, (.fl 0 (.fl 2 (.fr 3 (.fl 4 (.fr 5 (.fl 7 (.fr 8 (.st 1 [3, 5, 8] (.st 6 [8] (.st 9 [] (.st 10 [] (.st 11 [] (.fr 12 (.fl 13 (.st 14 [] .done)))))))))))))))), (20, (.fl 0 (.fl 2 (.fr 3 (.fl 4 (.fr 5 (.fl 7 (.fr 8 (.br (.st 1 [3, 5, 8] (.br (.st 6 [8] (.st 9 [] (.st 10 [] (.fr 11 (.fl 12 (.st 13 [] .done)))))) (.st 9 [3, 5] (.st 6 [] (.st 10 [] (.fr 11 (.fl 12 (.st 13 [] .done)))))))) (.st 9 [3, 5] (.st 1 [3, 5] (.st 6 [] (.st 10 [] (.fr 11 (.fl 12 (.st 13 [] .done)))))))))))))))), (36, (.fl 0 (.fl 1 (.fr 2 (.fl 3 (.fr 4 (.fl 5 (.fl 6 (.fr 7 (.fl 8 (.fr 9 (.fl 10 (.fl 11 (.fr 12 (.fl 13 (.fr 14 (.fl 15 (.st 16 [7, 9, 12, 14] (.fl 17 (.st 18 [12, 14] (.fl 19 (.st 20 [] .done)))))))))))))))))))))), (37, (.fl 0 (.fl 2 (.fr 3 (.fl 4 (.fr 5 (.fr 7 (.br (.st 1 [3, 5, 7] (.br (.st 6 [7] (.st 8 [] (.st 9 [] (.fr 10 (.fl 11 (.st 12 [] .done)))))) (.st 8 [3, 5] (.st 6 [] (.st 9 [] (.fr 10 (.fl 11 (.st 12 [] .done)))))))) (.st 8 [3, 5] (.st 1 [3, 5] (.st 6 [] (.st 9 [] (.fr 10 (.fl 11 (.st 12 [] .done)))))))))))))))]
def c_rostrumref24_House_Do : VCode :=
 (.seq (.reg [⟨(some 3), none, .box 36 (.t 1)⟩,
   ⟨(some 4), none, .mov (.c (.kb false))⟩,
   ⟨(some 5), none, .mov (.c (.raw (.int .i64 0)))⟩])
 (.seq (.seq (.reg [⟨(some 19), none, .load (some 19) (.t 3)⟩,
   ⟨(some 20), none, .call 38 [(.t 19)]⟩,
   ⟨(some 21), none, .un .not (.t 20)⟩,
   ⟨(some 22), none, .mov (.t 21)⟩,
   ⟨(some 23), (some (22, false)), .faddr 0 (.t 3)⟩,
   ⟨(some 24), (some (22, false)), .load none (.t 23)⟩,
   ⟨(some 25), (some (22, false)), .bin .lss .no (.t 24) (.c (.raw (.int .i64 5)))⟩,
   ⟨(some 26), none, .pick (.t 22) (.c (.kb true)) (.t 25)⟩])
 (.cond (.t 26)
  (.seq (.reg [⟨(some 4), none, .mov (.c (.kb false))⟩,
    ⟨(some 5), none, .mov (.c (.raw (.int .i64 1)))⟩])
  .ret)
  .skip))
 (.seq (.seq (.draw [⟨(some 27), none, .faddr 3 (.t 3)⟩,
   ⟨(some 28), none, .load (some 7) (.t 27)⟩,
   ⟨(some 29), none, .mov (.t 0)⟩,
   ⟨(some 30), none, .nilck (.t 29)⟩,
   ⟨(some 31), none, .faddr 0 (.t 30)⟩,
   ⟨(some 32), none, .load (some 7) (.t 31)⟩,
   ⟨(some 33), none, .call 57 [(.t 28), (.t 32)]⟩,
   ⟨(some 34), none, .un .not (.t 33)⟩,
   ⟨(some 35), none, .mov (.t 34)⟩,
   ⟨(some 36), (some (35, false)), .faddr 10 (.t 3)⟩,
   ⟨(some 37), (some (35, false)), .load none (.t 36)⟩,
   ⟨(some 38), (some (35, false)), .mov (.t 0)⟩,
   ⟨(some 39), (some (35, false)), .nilck (.t 38)⟩,
   ⟨(some 40), (some (35, false)), .faddr 8 (.t 39)⟩,
   ⟨(some 41), (some (35, false)), .load none (.t 40)⟩,
   ⟨(some 42), (some (35, false)), .len .sl (.t 41)⟩,
   ⟨(some 43), (some (35, false)), .bin .gtr .no (.t 37) (.t 42)⟩,
   ⟨(some 44), none, .pick (.t 35) (.c (.kb true)) (.t 43)⟩]
   (.fl 0 (.fr 1 (.fl 2 (.fr 3 (.fl 4 (.fr 5 (.st 6 [] (.fl 7 (.fl 8 (.fl 9 (.fr 10 (.fl 11 (.fr 12 (.fl 13 (.fr 14 (.fl 15 (.fl 16 (.fl 17 .done)))))))))))))))))))
 (.cond (.t 44)
  (.seq (.reg [⟨(some 4), none, .mov (.c (.kb false))⟩,
    ⟨(some 5), none, .mov (.c (.raw (.int .i64 8)))⟩])
  .ret)
  .skip))
 (.seq (.draw [⟨(some 45), none, .mov (.t 0)⟩,
   ⟨(some 46), none, .bslice 36 0 [] []⟩,
   ⟨(some 47), none, .mov (.t 0)⟩,
   ⟨(some 48), none, .nilck (.t 47)⟩,
   ⟨(some 49), none, .faddr 8 (.t 48)⟩,
   ⟨(some 50), none, .load none (.t 49)⟩,
   ⟨(some 51), none, .append 36 19 168 [(.int .i64 0), (.int .i64 0), (.int .i64 0), (.int .i64 0), (.int .i64 0), (.int .i64 0), (.int .i64 0), (.int .i64 0), (.int .i64 0), (.int .i64 0), (.int .i64 0), (.string (ByteArray.mk #[])), (.string (ByteArray.mk #[])), (.int .i64 0), (.int .i64 0), (.int .i64 0), (.int .i64 0), (.int .i64 0), (.int .i64 0)] (.t 46) (.t 50)⟩,
   ⟨(some 52), none, .load (some 19) (.t 3)⟩,
   ⟨(some 53), none, .bslice 36 1 [(.int .i64 0), (.int .i64 0), (.int .i64 0), (.int .i64 0), (.int .i64 0), (.int .i64 0), (.int .i64 0), (.int .i64 0), (.int .i64 0), (.int .i64 0), (.int .i64 0), (.string (ByteArray.mk #[])), (.string (ByteArray.mk #[])), (.int .i64 0), (.int .i64 0), (.int .i64 0), (.int .i64 0), (.int .i64 0), (.int .i64 0)] [(0, 19, (.t 52))]⟩,
   ⟨(some 54), none, .append 36 19 168 [(.int .i64 0), (.int .i64 0), (.int .i64 0), (.int .i64 0), (.int .i64 0), (.int .i64 0), (.int .i64 0), (.int .i64 0), (.int .i64 0), (.int .i64 0), (.int .i64 0), (.string (ByteArray.mk #[])), (.string (ByteArray.mk #[])), (.int .i64 0), (.int .i64 0), (.int .i64 0), (.int .i64 0), (.int .i64 0), (.int .i64 0)] (.t 51) (.t 53)⟩,
   ⟨(some 55), none, .nilck (.t 45)⟩,
   ⟨(some 56), none, .faddr 8 (.t 55)⟩,
   ⟨none, none, .store none (.t 56) (.t 54)⟩]
   (.fl 0 (.fl 2 (.fr 3 (.fl 4 (.fr 5 (.fr 7 (.br (.st 1 [3, 5, 7] (.br (.st 6 [7] (.st 8 [] (.st 9 [] (.fr 10 (.fl 11 (.st 12 [] .done)))))) (.st 8 [3, 5] (.st 6 [] (.st 9 [] (.fr 10 (.fl 11 (.st 12 [] .done)))))))) (.st 8 [3, 5] (.st 1 [3, 5] (.st 6 [] (.st 9 [] (.fr 10 (.fl 11 (.st 12 [] .done)))))))))))))))
 (.seq (.seq (.reg [⟨(some 57), none, .faddr 0 (.t 3)⟩,
   ⟨(some 58), none, .load none (.t 57)⟩])
 (.block 0 (.seq (.reg [⟨(some 60), none, .bin .eql .no (.t 58) (.c (.raw (.int .i64 5)))⟩,
   ⟨(some 59), none, .mov (.t 60)⟩])
 (.cond (.t 59)
  (.seq (.seq (.reg [⟨(some 61), none, .mov (.t 0)⟩,
    ⟨(some 62), none, .faddr 12 (.t 3)⟩,
    ⟨(some 63), none, .load none (.t 62)⟩,
    ⟨(some 64), none, .call 58 [(.t 61), (.t 63)]⟩])
  (.cond (.t 64)
   (.seq (.reg [⟨(some 4), none, .mov (.c (.kb false))⟩,
     ⟨(some 5), none, .mov (.c (.raw (.int .i64 0)))⟩])
   .ret)
   .skip))
  (.seq (.reg [⟨(some 65), none, .faddr 12 (.t 3)⟩,
    ⟨(some 66), none, .load none (.t 65)⟩,
    ⟨(some 67), none, .call 59 [(.t 66)]⟩,
    ⟨(some 6), none, .mov (.t 67)⟩])
  (.seq (.reg [⟨(some 7), none, .mov (.c (.raw (.int .i64 0)))⟩])
  (.seq (.block 1 (.loop (.seq (.seq (.reg [⟨(some 68), none, .mov (.t 7)⟩,
     ⟨(some 69), none, .mov (.t 0)⟩,
     ⟨(some 70), none, .nilck (.t 69)⟩,
     ⟨(some 71), none, .faddr 9 (.t 70)⟩,
     ⟨(some 72), none, .load none (.t 71)⟩,
     ⟨(some 73), none, .len .sl (.t 72)⟩,
     ⟨(some 74), none, .bin .lss .no (.t 68) (.t 73)⟩,
     ⟨(some 75), none, .mov (.t 74)⟩,
     ⟨(some 76), (some (75, true)), .mov (.t 0)⟩,
     ⟨(some 77), (some (75, true)), .nilck (.t 76)⟩,
     ⟨(some 78), (some (75, true)), .faddr 9 (.t 77)⟩,
     ⟨(some 79), (some (75, true)), .load none (.t 78)⟩,
     ⟨(some 80), (some (75, true)), .mov (.t 7)⟩,
     ⟨(some 81), (some (75, true)), .iaddr 1 none (.t 79) (.t 80)⟩,
     ⟨(some 82), (some (75, true)), .load none (.t 81)⟩,
     ⟨(some 83), (some (75, true)), .mov (.t 6)⟩,
     ⟨(some 84), (some (75, true)), .bin .lss .no (.t 82) (.t 83)⟩,
     ⟨(some 85), none, .pick (.t 75) (.t 84) (.c (.kb false))⟩])
   (.cond (.t 85)
    .skip
    (.exit 1)))
   (.block 2 (.reg [⟨(some 86), none, .mov (.t 7)⟩,
     ⟨(some 87), none, .bin .add .no (.t 86) (.c (.raw (.int .i64 1)))⟩,
     ⟨(some 7), none, .mov (.t 87)⟩])))))
  (.seq (.draw [⟨(some 88), none, .mov (.t 0)⟩,
    ⟨(some 89), none, .bslice 9 0 [] []⟩,
    ⟨(some 90), none, .mov (.t 0)⟩,
    ⟨(some 91), none, .nilck (.t 90)⟩,
    ⟨(some 92), none, .faddr 9 (.t 91)⟩,
    ⟨(some 93), none, .load none (.t 92)⟩,
    ⟨(some 94), none, .mov (.t 7)⟩,
    ⟨(some 95), none, .slice (some 1) (.t 93) none (some (.t 94))⟩,
    ⟨(some 96), none, .append 9 1 16 [(.string (ByteArray.mk #[]))] (.t 89) (.t 95)⟩,
    ⟨(some 97), none, .mov (.t 6)⟩,
    ⟨(some 98), none, .bslice 9 1 [(.string (ByteArray.mk #[]))] [(0, 1, (.t 97))]⟩,
    ⟨(some 99), none, .append 9 1 16 [(.string (ByteArray.mk #[]))] (.t 96) (.t 98)⟩,
    ⟨(some 100), none, .mov (.t 0)⟩,
    ⟨(some 101), none, .nilck (.t 100)⟩,
    ⟨(some 102), none, .faddr 9 (.t 101)⟩,
    ⟨(some 103), none, .load none (.t 102)⟩,
    ⟨(some 104), none, .mov (.t 7)⟩,
    ⟨(some 105), none, .slice (some 1) (.t 103) (some (.t 104)) none⟩,
    ⟨(some 106), none, .append 9 1 16 [(.string (ByteArray.mk #[]))] (.t 99) (.t 105)⟩,
    ⟨(some 107), none, .nilck (.t 88)⟩,
    ⟨(some 108), none, .faddr 9 (.t 107)⟩,
    ⟨none, none, .store none (.t 108) (.t 106)⟩]
    (.fl 0 (.fl 2 (.fr 3 (.fl 4 (.fr 5 (.fl 6 (.fl 7 (.fl 9 (.fl 12 (.fr 13 (.fl 14 (.fr 15 (.fl 16 (.fl 17 (.br (.st 1 [3, 5, 13, 15] (.br (.st 8 [13, 15] (.st 10 [13, 15] (.st 11 [13, 15] (.st 18 [] (.fr 19 (.fl 20 (.st 21 [] .done))))))) (.st 10 [3, 5, 13, 15] (.st 8 [13, 15] (.st 11 [13, 15] (.st 18 [] (.fr 19 (.fl 20 (.st 21 [] .done))))))))) (.st 10 [3, 5, 13, 15] (.st 1 [3, 5, 13, 15] (.st 8 [13, 15] (.st 11 [13, 15] (.st 18 [] (.fr 19 (.fl 20 (.st 21 [] .done))))))))))))))))))))))))
  (.seq (.reg [⟨(some 4), none, .mov (.c (.kb true))⟩,
    ⟨(some 5), none, .mov (.c (.raw (.int .i64 0)))⟩])
  .ret))))))
  (.seq (.reg [⟨(some 110), none, .bin .eql .no (.t 58) (.c (.raw (.int .i64 6)))⟩,
    ⟨(some 109), none, .mov (.t 110)⟩])
  (.cond (.t 109)
   (.seq (.seq (.draw [⟨(some 111), none, .faddr 18 (.t 3)⟩,
     ⟨(some 112), none, .load none (.t 111)⟩,
     ⟨(some 113), none, .mov (.t 0)⟩,
     ⟨(some 114), none, .faddr 12 (.t 3)⟩,
     ⟨(some 115), none, .load none (.t 114)⟩,
     ⟨(some 116), none, .call 60 [(.t 113), (.t 115)]⟩,
     ⟨(some 117), none, .bin .sub .no (.t 112) (.t 116)⟩,
     ⟨(some 118), none, .faddr 17 (.t 3)⟩,
     ⟨(some 119), none, .load none (.t 118)⟩,
     ⟨(some 120), none, .bin .lss .no (.t 117) (.t 119)⟩]
     (.fl 0 (.fr 1 (.fl 2 (.fl 3 (.fr 4 (.fl 7 (.fr 8 (.st 5 [1, 8] (.fl 6 (.fl 9 .done)))))))))))
   (.cond (.t 120)
    (.seq (.reg [⟨(some 4), none, .mov (.c (.kb false))⟩,
      ⟨(some 5), none, .mov (.c (.raw (.int .i64 0)))⟩])
    .ret)
    .skip))
   (.seq (.draw [⟨(some 121), none, .mov (.t 0)⟩,
     ⟨(some 122), none, .bslice 9 0 [] []⟩,
     ⟨(some 123), none, .mov (.t 0)⟩,
     ⟨(some 124), none, .nilck (.t 123)⟩,
     ⟨(some 125), none, .faddr 10 (.t 124)⟩,
     ⟨(some 126), none, .load none (.t 125)⟩,
     ⟨(some 127), none, .append 9 1 16 [(.string (ByteArray.mk #[]))] (.t 122) (.t 126)⟩,
     ⟨(some 128), none, .faddr 12 (.t 3)⟩,
     ⟨(some 129), none, .load none (.t 128)⟩,
     ⟨(some 130), none, .call 59 [(.t 129)]⟩,
     ⟨(some 131), none, .bslice 9 1 [(.string (ByteArray.mk #[]))] [(0, 1, (.t 130))]⟩,
     ⟨(some 132), none, .append 9 1 16 [(.string (ByteArray.mk #[]))] (.t 127) (.t 131)⟩,
     ⟨(some 133), none, .nilck (.t 121)⟩,
     ⟨(some 134), none, .faddr 10 (.t 133)⟩,
     ⟨none, none, .store none (.t 134) (.t 132)⟩]
     (.fl 0 (.fl 2 (.fr 3 (.fl 4 (.fr 5 (.fl 7 (.fr 8 (.st 1 [3, 5, 8] (.st 6 [8] (.st 9 [] (.st 10 [] (.st 11 [] (.fr 12 (.fl 13 (.st 14 [] .done))))))))))))))))
   (.seq (.draw [⟨(some 135), none, .mov (.t 0)⟩,
     ⟨(some 136), none, .bslice 2 0 [] []⟩,
     ⟨(some 137), none, .mov (.t 0)⟩,
     ⟨(some 138), none, .nilck (.t 137)⟩,
     ⟨(some 139), none, .faddr 11 (.t 138)⟩,
     ⟨(some 140), none, .load none (.t 139)⟩,
     ⟨(some 141), none, .append 2 1 8 [(.int .i64 0)] (.t 136) (.t 140)⟩,
     ⟨(some 142), none, .faddr 17 (.t 3)⟩,
     ⟨(some 143), none, .load none (.t 142)⟩,
     ⟨(some 144), none, .bslice 2 1 [(.int .i64 0)] [(0, 1, (.t 143))]⟩,
     ⟨(some 145), none, .append 2 1 8 [(.int .i64 0)] (.t 141) (.t 144)⟩,
     ⟨(some 146), none, .nilck (.t 135)⟩,
     ⟨(some 147), none, .faddr 11 (.t 146)⟩,
     ⟨none, none, .store none (.t 147) (.t 145)⟩]
     (.fl 0 (.fl 2 (.fr 3 (.fl 4 (.fr 5 (.fl 7 (.fr 8 (.br (.st 1 [3, 5, 8] (.br (.st 6 [8] (.st 9 [] (.st 10 [] (.fr 11 (.fl 12 (.st 13 [] .done)))))) (.st 9 [3, 5] (.st 6 [] (.st 10 [] (.fr 11 (.fl 12 (.st 13 [] .done)))))))) (.st 9 [3, 5] (.st 1 [3, 5] (.st 6 [] (.st 10 [] (.fr 11 (.fl 12 (.st 13 [] .done))))))))))))))))
   (.seq (.reg [⟨(some 4), none, .mov (.c (.kb true))⟩,
     ⟨(some 5), none, .mov (.c (.raw (.int .i64 0)))⟩])
   .ret))))
   .skip))))))
 (.seq (.reg [⟨(some 149), none, .mov (.t 0)⟩,
   ⟨(some 150), none, .faddr 13 (.t 3)⟩,
   ⟨(some 151), none, .load (some 2) (.t 150)⟩,
   ⟨(some 152), none, .call 61 [(.t 149), (.c (.raw (.int .i64 1))), (.t 151)]⟩,
   ⟨(some 148), none, .mov (.t 152)⟩,
   ⟨(some 153), none, .extr (.t 148) 0⟩,
   ⟨(some 154), none, .extr (.t 148) 1⟩,
   ⟨(some 8), none, .new 36 [(.int .i64 0), (.int .i64 0), (.int .i64 0), (.int .i64 0), (.int .i64 0), (.int .i64 0), (.int .i64 0), (.int .i64 0), (.int .i64 0), (.int .i64 0), (.int .i64 0), (.string (ByteArray.mk #[])), (.string (ByteArray.mk #[])), (.int .i64 0), (.int .i64 0), (.int .i64 0), (.int .i64 0), (.int .i64 0), (.int .i64 0)]⟩,
   ⟨none, none, .store (some 19) (.t 8) (.t 153)⟩,
   ⟨(some 9), none, .mov (.t 154)⟩])
 (.seq (.reg [⟨(some 156), none, .mov (.t 0)⟩,
   ⟨(some 157), none, .faddr 13 (.t 3)⟩,
   ⟨(some 158), none, .load (some 2) (.t 157)⟩,
   ⟨(some 159), none, .call 62 [(.t 156), (.t 158)]⟩,
   ⟨(some 155), none, .mov (.t 159)⟩,
   ⟨(some 160), none, .extr (.t 155) 0⟩,
   ⟨(some 161), none, .extr (.t 155) 1⟩,
   ⟨(some 162), none, .extr (.t 155) 2⟩,
   ⟨(some 163), none, .extr (.t 155) 3⟩,
   ⟨(some 10), none, .new 23 [(.int .i64 0), (.int .i64 0)]⟩,
   ⟨none, none, .store (some 2) (.t 10) (.t 160)⟩,
   ⟨(some 11), none, .mov (.t 161)⟩,
   ⟨(some 12), none, .mov (.t 162)⟩,
   ⟨(some 13), none, .mov (.t 163)⟩])
 (.seq (.seq (.reg [⟨(some 164), none, .mov (.t 9)⟩,
   ⟨(some 165), none, .un .not (.t 164)⟩,
   ⟨(some 166), none, .mov (.t 165)⟩,
   ⟨(some 167), (some (166, false)), .mov (.t 13)⟩,
   ⟨(some 168), none, .pick (.t 166) (.c (.kb true)) (.t 167)⟩,
   ⟨(some 169), none, .mov (.t 168)⟩,
   ⟨(some 170), (some (169, false)), .faddr 3 (.t 3)⟩,
   ⟨(some 171), (some (169, false)), .load (some 7) (.t 170)⟩,
   ⟨(some 172), (some (169, false)), .faddr 13 (.t 3)⟩,
   ⟨(some 173), (some (169, false)), .load (some 2) (.t 172)⟩,
   ⟨(some 174), (some (169, false)), .call 63 [(.t 171), (.t 173)]⟩,
   ⟨(some 175), (some (169, false)), .un .not (.t 174)⟩,
   ⟨(some 176), none, .pick (.t 169) (.c (.kb true)) (.t 175)⟩])
 (.cond (.t 176)
  (.seq (.reg [⟨(some 4), none, .mov (.c (.kb false))⟩,
    ⟨(some 5), none, .mov (.c (.raw (.int .i64 0)))⟩])
  .ret)
  .skip))
 (.seq (.reg [⟨(some 14), none, .mov (.c (.raw (.slice none 0 0)))⟩])
 (.seq (.reg [⟨(some 177), none, .mov (.t 0)⟩,
   ⟨(some 178), none, .faddr 13 (.t 3)⟩,
   ⟨(some 179), none, .load (some 2) (.t 178)⟩,
   ⟨(some 180), none, .faddr 3 (.t 3)⟩,
   ⟨(some 181), none, .load (some 7) (.t 180)⟩,
   ⟨(some 182), none, .call 64 [(.t 177), (.t 179), (.t 181)]⟩,
   ⟨(some 15), none, .mov (.t 182)⟩])
 (.seq (.seq (.reg [⟨(some 16), none, .mov (.c (.raw (.int .i64 0)))⟩])
 (.block 3 (.loop (.seq (.seq (.reg [⟨(some 183), none, .mov (.t 16)⟩,
    ⟨(some 184), none, .mov (.t 15)⟩,
    ⟨(some 185), none, .len .sl (.t 184)⟩,
    ⟨(some 186), none, .bin .lss .no (.t 183) (.t 185)⟩])
  (.cond (.t 186)
   .skip
   (.exit 3)))
  (.seq (.block 4 (.seq (.reg [⟨(some 189), none, .mov (.t 0)⟩,
    ⟨(some 190), none, .mov (.t 15)⟩,
    ⟨(some 191), none, .mov (.t 16)⟩,
    ⟨(some 192), none, .iaddr 19 none (.t 190) (.t 191)⟩,
    ⟨(some 193), none, .faddr 12 (.t 192)⟩,
    ⟨(some 194), none, .load none (.t 193)⟩,
    ⟨(some 195), none, .call 58 [(.t 189), (.t 194)]⟩])
  (.cond (.t 195)
   (.reg [⟨(some 196), none, .mov (.t 14)⟩,
     ⟨(some 197), none, .mov (.t 15)⟩,
     ⟨(some 198), none, .mov (.t 16)⟩,
     ⟨(some 199), none, .iaddr 19 none (.t 197) (.t 198)⟩,
     ⟨(some 200), none, .load (some 19) (.t 199)⟩,
     ⟨(some 201), none, .bslice 36 1 [(.int .i64 0), (.int .i64 0), (.int .i64 0), (.int .i64 0), (.int .i64 0), (.int .i64 0), (.int .i64 0), (.int .i64 0), (.int .i64 0), (.int .i64 0), (.int .i64 0), (.string (ByteArray.mk #[])), (.string (ByteArray.mk #[])), (.int .i64 0), (.int .i64 0), (.int .i64 0), (.int .i64 0), (.int .i64 0), (.int .i64 0)] [(0, 19, (.t 200))]⟩,
     ⟨(some 202), none, .append 36 19 168 [(.int .i64 0), (.int .i64 0), (.int .i64 0), (.int .i64 0), (.int .i64 0), (.int .i64 0), (.int .i64 0), (.int .i64 0), (.int .i64 0), (.int .i64 0), (.int .i64 0), (.string (ByteArray.mk #[])), (.string (ByteArray.mk #[])), (.int .i64 0), (.int .i64 0), (.int .i64 0), (.int .i64 0), (.int .i64 0), (.int .i64 0)] (.t 196) (.t 201)⟩,
     ⟨(some 14), none, .mov (.t 202)⟩])
   .skip)))
  (.reg [⟨(some 187), none, .mov (.t 16)⟩,
    ⟨(some 188), none, .bin .add .no (.t 187) (.c (.raw (.int .i64 1)))⟩,
    ⟨(some 16), none, .mov (.t 188)⟩]))))))
 (.seq (.reg [⟨(some 203), none, .faddr 13 (.t 3)⟩,
   ⟨(some 204), none, .load (some 2) (.t 203)⟩,
   ⟨(some 205), none, .build [(.int .i64 0), (.int .i64 0), (.int .i64 0), (.int .i64 0), (.string (ByteArray.mk #[])), (.int .i64 0)] [(0, 2, (.t 204))]⟩,
   ⟨(some 17), none, .new 119 [(.int .i64 0), (.int .i64 0), (.int .i64 0), (.int .i64 0), (.string (ByteArray.mk #[])), (.int .i64 0)]⟩,
   ⟨none, none, .store (some 6) (.t 17) (.t 205)⟩])
 (.seq (.reg [⟨(some 206), none, .mov (.t 14)⟩,
   ⟨(some 207), none, .call 65 [(.t 206)]⟩,
   ⟨(some 18), none, .mov (.t 207)⟩])
 (.seq (.seq (.reg [⟨(some 208), none, .mov (.t 18)⟩,
   ⟨(some 209), none, .bin .geq .no (.t 208) (.c (.raw (.int .i64 0)))⟩])
 (.cond (.t 209)
  (.draw [⟨(some 210), none, .mov (.t 14)⟩,
    ⟨(some 211), none, .mov (.t 18)⟩,
    ⟨(some 212), none, .iaddr 19 none (.t 210) (.t 211)⟩,
    ⟨(some 213), none, .faddr 1 (.t 212)⟩,
    ⟨(some 214), none, .load (some 2) (.t 213)⟩,
    ⟨(some 215), none, .mov (.t 14)⟩,
    ⟨(some 216), none, .mov (.t 18)⟩,
    ⟨(some 217), none, .iaddr 19 none (.t 215) (.t 216)⟩,
    ⟨(some 218), none, .faddr 12 (.t 217)⟩,
    ⟨(some 219), none, .load none (.t 218)⟩,
    ⟨(some 220), none, .mov (.t 14)⟩,
    ⟨(some 221), none, .mov (.t 18)⟩,
    ⟨(some 222), none, .iaddr 19 none (.t 220) (.t 221)⟩,
    ⟨(some 223), none, .faddr 17 (.t 222)⟩,
    ⟨(some 224), none, .load none (.t 223)⟩,
    ⟨(some 225), none, .faddr 2 (.t 17)⟩,
    ⟨none, none, .store (some 2) (.t 225) (.t 214)⟩,
    ⟨(some 226), none, .faddr 4 (.t 17)⟩,
    ⟨none, none, .store none (.t 226) (.t 219)⟩,
    ⟨(some 227), none, .faddr 5 (.t 17)⟩,
    ⟨none, none, .store none (.t 227) (.t 224)⟩]
    (.fl 0 (.fl 1 (.fr 2 (.fl 3 (.fr 4 (.fl 5 (.fl 6 (.fr 7 (.fl 8 (.fr 9 (.fl 10 (.fl 11 (.fr 12 (.fl 13 (.fr 14 (.fl 15 (.st 16 [7, 9, 12, 14] (.fl 17 (.st 18 [12, 14] (.fl 19 (.st 20 [] .done))))))))))))))))))))))
  .skip))
 (.seq (.draw [⟨(some 228), none, .mov (.t 0)⟩,
   ⟨(some 229), none, .bslice 119 0 [] []⟩,
   ⟨(some 230), none, .mov (.t 0)⟩,
   ⟨(some 231), none, .nilck (.t 230)⟩,
   ⟨(some 232), none, .faddr 12 (.t 231)⟩,
   ⟨(some 233), none, .load none (.t 232)⟩,
   ⟨(some 234), none, .append 119 6 56 [(.int .i64 0), (.int .i64 0), (.int .i64 0), (.int .i64 0), (.string (ByteArray.mk #[])), (.int .i64 0)] (.t 229) (.t 233)⟩,
   ⟨(some 235), none, .load (some 6) (.t 17)⟩,
   ⟨(some 236), none, .bslice 119 1 [(.int .i64 0), (.int .i64 0), (.int .i64 0), (.int .i64 0), (.string (ByteArray.mk #[])), (.int .i64 0)] [(0, 6, (.t 235))]⟩,
   ⟨(some 237), none, .append 119 6 56 [(.int .i64 0), (.int .i64 0), (.int .i64 0), (.int .i64 0), (.string (ByteArray.mk #[])), (.int .i64 0)] (.t 234) (.t 236)⟩,
   ⟨(some 238), none, .nilck (.t 228)⟩,
   ⟨(some 239), none, .faddr 12 (.t 238)⟩,
   ⟨none, none, .store none (.t 239) (.t 237)⟩]
   (.fl 0 (.fl 2 (.fr 3 (.fl 4 (.fr 5 (.fr 7 (.br (.st 1 [3, 5, 7] (.br (.st 6 [7] (.st 8 [] (.st 9 [] (.fr 10 (.fl 11 (.st 12 [] .done)))))) (.st 8 [3, 5] (.st 6 [] (.st 9 [] (.fr 10 (.fl 11 (.st 12 [] .done)))))))) (.st 8 [3, 5] (.st 1 [3, 5] (.st 6 [] (.st 9 [] (.fr 10 (.fl 11 (.st 12 [] .done)))))))))))))))
 (.seq (.reg [⟨(some 4), none, .mov (.c (.kb true))⟩,
   ⟨(some 5), none, .mov (.c (.raw (.int .i64 0)))⟩])
 .ret))))))))))))))))
theorem i_rostrumref24_House_Do : Is Tryz.prog 21 240 [.t 4, .t 5] c_rostrumref24_House_Do := ⟨Tryz.f21, _, p_rostrumref24_House_Do, rfl, rfl, by kernel_rfl, by kernel_rfl, rfl⟩
def p_rostrumref24_House_Blue : List (Nat × Pl) := [(3, (.fl 0 (.fr 1 (.fl 2 (.fr 3 (.fl 4 (.fr 5 (.st 6 [] .done)))))))), (5, (.fl 0 (.fl 1 (.fr 2 (.fl 3 (.fl 4 (.fl 5 (.fr 6 (.fr 7 (.fl 8 (.fr 9 (.fr 10 (.fl 11 (.fl 12 (.fl 13 (.fl 14 (.fr 15 (.fl 16 (.fr 17 (.fl 18 (.fr 19 (.st 20 [] (.fl 21 (.fl 22 (.fl 23 (.fl 24 (.fr 25 (.fl 26 (.fr 27 (.fl 28 (.fr 29 (.fl 30 (.fl 31 (.fl 32 .done)))))))))))))))))))))))))))))))))), (7, (.fl 0 (.fl 1 (.fl 2 (.fr 3 (.fl 4 (.fl 5 (.fr 6 (.fr 7 (.fl 8 (.fr 9 (.st 10 [] .done)))))))))))), (9, (.fl 0 (.fl 1 (.fr 2 (.fl 3 (.fr 4 (.fl 5 (.fl 6 (.fl 7 (.fl 8 (.fr 9 (.fl 10 (.fr 11 (.fl 12 (.fr 13 (.fl 14 (.fr 15 (.fl 16 (.fr 17 (.st 18 [] (.fl 19 .done))))))))))))))))))))), (11, (.fl 0 (.fl 2 (.fr 3 (.fl 4 (.fr 5 (.fl 6 (.fl 7 (.fr 9 (.fl 12 (.fr 13 (.fl 14 (.fr 15 (.fl 16 (.fl 17 (.br (.st 1 [3, 5, 9, 13, 15] (.br (.st 8 [9, 13, 15] (.st 10 [13, 15] (.st 11 [13, 15] (.st 18 [] (.fr 19 (.fl 20 (.st 21 [] .done))))))) (.st 10 [3, 5, 13, 15] (.st 8 [13, 15] (.st 11 [13, 15] (.st 18 [] (.fr 19 (.fl 20 (.st 21 [] .done))))))))) (.st 10 [3, 5, 13, 15] (.st 1 [3, 5, 13, 15] (.st 8 [13, 15] (.st 11 [13, 15] (.st 18 [] (.fr 19 (.fl 20 (.st 21 [] .done))))))))))))))))))))))))]
def c_rostrumref24_House_Blue : VCode :=
 (.seq (.reg [⟨(some 3), none, .box 36 (.t 1)⟩,
   ⟨(some 4), none, .mov (.c (.raw (.int .i64 0)))⟩])
 (.seq (.seq (.reg [⟨(some 6), none, .load (some 19) (.t 3)⟩,
   ⟨(some 7), none, .call 38 [(.t 6)]⟩,
   ⟨(some 8), none, .un .not (.t 7)⟩,
   ⟨(some 9), none, .mov (.t 8)⟩,
   ⟨(some 10), (some (9, false)), .faddr 0 (.t 3)⟩,
   ⟨(some 11), (some (9, false)), .load none (.t 10)⟩,
   ⟨(some 12), (some (9, false)), .bin .gtr .no (.t 11) (.c (.raw (.int .i64 4)))⟩,
   ⟨(some 13), none, .pick (.t 9) (.c (.kb true)) (.t 12)⟩])
 (.cond (.t 13)
  (.seq (.reg [⟨(some 4), none, .mov (.c (.raw (.int .i64 1)))⟩])
  .ret)
  .skip))
 (.seq (.seq (.draw [⟨(some 14), none, .mov (.t 0)⟩,
   ⟨(some 15), none, .nilck (.t 14)⟩,
   ⟨(some 16), none, .faddr 0 (.t 15)⟩,
   ⟨(some 17), none, .load (some 7) (.t 16)⟩,
   ⟨(some 18), none, .faddr 1 (.t 3)⟩,
   ⟨(some 19), none, .load (some 2) (.t 18)⟩,
   ⟨(some 20), none, .call 63 [(.t 17), (.t 19)]⟩]
   (.fl 0 (.fr 1 (.fl 2 (.fr 3 (.fl 4 (.fr 5 (.st 6 [] .done))))))))
 (.cond (.t 20)
  (.seq (.reg [⟨(some 4), none, .mov (.c (.raw (.int .i64 5)))⟩])
  .ret)
  .skip))
 (.seq (.seq (.draw [⟨(some 21), none, .faddr 1 (.t 3)⟩,
   ⟨(some 22), none, .faddr 1 (.t 21)⟩,
   ⟨(some 23), none, .load none (.t 22)⟩,
   ⟨(some 24), none, .mov (.t 0)⟩,
   ⟨(some 25), none, .faddr 1 (.t 3)⟩,
   ⟨(some 26), none, .faddr 0 (.t 25)⟩,
   ⟨(some 27), none, .load none (.t 26)⟩,
   ⟨(some 28), none, .nilck (.t 24)⟩,
   ⟨(some 29), none, .faddr 0 (.t 28)⟩,
   ⟨(some 30), none, .iaddr 1 (some 7) (.t 29) (.t 27)⟩,
   ⟨(some 31), none, .load none (.t 30)⟩,
   ⟨(some 32), none, .bin .add .no (.t 31) (.c (.raw (.int .i64 1)))⟩,
   ⟨(some 33), none, .bin .neq .no (.t 23) (.t 32)⟩,
   ⟨(some 34), none, .mov (.t 33)⟩,
   ⟨(some 35), (some (34, false)), .faddr 3 (.t 3)⟩,
   ⟨(some 36), (some (34, false)), .load (some 7) (.t 35)⟩,
   ⟨(some 37), (some (34, false)), .mov (.t 0)⟩,
   ⟨(some 38), (some (34, false)), .nilck (.t 37)⟩,
   ⟨(some 39), (some (34, false)), .faddr 0 (.t 38)⟩,
   ⟨(some 40), (some (34, false)), .load (some 7) (.t 39)⟩,
   ⟨(some 41), (some (34, false)), .call 57 [(.t 36), (.t 40)]⟩,
   ⟨(some 42), (some (34, false)), .un .not (.t 41)⟩,
   ⟨(some 43), none, .pick (.t 34) (.c (.kb true)) (.t 42)⟩,
   ⟨(some 44), none, .mov (.t 43)⟩,
   ⟨(some 45), (some (44, false)), .faddr 10 (.t 3)⟩,
   ⟨(some 46), (some (44, false)), .load none (.t 45)⟩,
   ⟨(some 47), (some (44, false)), .mov (.t 0)⟩,
   ⟨(some 48), (some (44, false)), .nilck (.t 47)⟩,
   ⟨(some 49), (some (44, false)), .faddr 8 (.t 48)⟩,
   ⟨(some 50), (some (44, false)), .load none (.t 49)⟩,
   ⟨(some 51), (some (44, false)), .len .sl (.t 50)⟩,
   ⟨(some 52), (some (44, false)), .bin .gtr .no (.t 46) (.t 51)⟩,
   ⟨(some 53), none, .pick (.t 44) (.c (.kb true)) (.t 52)⟩]
   (.fl 0 (.fl 1 (.fr 2 (.fl 3 (.fl 4 (.fl 5 (.fr 6 (.fr 7 (.fl 8 (.fr 9 (.fr 10 (.fl 11 (.fl 12 (.fl 13 (.fl 14 (.fr 15 (.fl 16 (.fr 17 (.fl 18 (.fr 19 (.st 20 [] (.fl 21 (.fl 22 (.fl 23 (.fl 24 (.fr 25 (.fl 26 (.fr 27 (.fl 28 (.fr 29 (.fl 30 (.fl 31 (.fl 32 .done))))))))))))))))))))))))))))))))))
 (.cond (.t 53)
  (.seq (.reg [⟨(some 4), none, .mov (.c (.raw (.int .i64 8)))⟩])
  .ret)
  .skip))
 (.seq (.draw [⟨(some 54), none, .mov (.t 0)⟩,
   ⟨(some 55), none, .faddr 1 (.t 3)⟩,
   ⟨(some 56), none, .faddr 0 (.t 55)⟩,
   ⟨(some 57), none, .load none (.t 56)⟩,
   ⟨(some 58), none, .faddr 1 (.t 3)⟩,
   ⟨(some 59), none, .faddr 1 (.t 58)⟩,
   ⟨(some 60), none, .load none (.t 59)⟩,
   ⟨(some 61), none, .nilck (.t 54)⟩,
   ⟨(some 62), none, .faddr 0 (.t 61)⟩,
   ⟨(some 63), none, .iaddr 1 (some 7) (.t 62) (.t 57)⟩,
   ⟨none, none, .store none (.t 63) (.t 60)⟩]
   (.fl 0 (.fl 1 (.fl 2 (.fr 3 (.fl 4 (.fl 5 (.fr 6 (.fr 7 (.fl 8 (.fr 9 (.st 10 [] .done))))))))))))
 (.seq (.reg [⟨(some 5), none, .mov (.c (.raw (.int .i64 0)))⟩])
 (.seq (.block 0 (.loop (.seq (.seq (.draw [⟨(some 64), none, .mov (.t 5)⟩,
    ⟨(some 65), none, .mov (.t 0)⟩,
    ⟨(some 66), none, .nilck (.t 65)⟩,
    ⟨(some 67), none, .faddr 7 (.t 66)⟩,
    ⟨(some 68), none, .load none (.t 67)⟩,
    ⟨(some 69), none, .len .sl (.t 68)⟩,
    ⟨(some 70), none, .bin .lss .no (.t 64) (.t 69)⟩,
    ⟨(some 71), none, .mov (.t 70)⟩,
    ⟨(some 72), (some (71, true)), .mov (.t 0)⟩,
    ⟨(some 73), (some (71, true)), .nilck (.t 72)⟩,
    ⟨(some 74), (some (71, true)), .faddr 7 (.t 73)⟩,
    ⟨(some 75), (some (71, true)), .load none (.t 74)⟩,
    ⟨(some 76), (some (71, true)), .mov (.t 5)⟩,
    ⟨(some 77), (some (71, true)), .iaddr 19 none (.t 75) (.t 76)⟩,
    ⟨(some 78), (some (71, true)), .faddr 1 (.t 77)⟩,
    ⟨(some 79), (some (71, true)), .load (some 2) (.t 78)⟩,
    ⟨(some 80), (some (71, true)), .faddr 1 (.t 3)⟩,
    ⟨(some 81), (some (71, true)), .load (some 2) (.t 80)⟩,
    ⟨(some 82), (some (71, true)), .call 66 [(.t 79), (.t 81)]⟩,
    ⟨(some 83), none, .pick (.t 71) (.t 82) (.c (.kb false))⟩]
    (.fl 0 (.fl 1 (.fr 2 (.fl 3 (.fr 4 (.fl 5 (.fl 6 (.fl 7 (.fl 8 (.fr 9 (.fl 10 (.fr 11 (.fl 12 (.fr 13 (.fl 14 (.fr 15 (.fl 16 (.fr 17 (.st 18 [] (.fl 19 .done)))))))))))))))))))))
  (.cond (.t 83)
   .skip
   (.exit 0)))
  (.block 1 (.reg [⟨(some 84), none, .mov (.t 5)⟩,
    ⟨(some 85), none, .bin .add .no (.t 84) (.c (.raw (.int .i64 1)))⟩,
    ⟨(some 5), none, .mov (.t 85)⟩])))))
 (.seq (.draw [⟨(some 86), none, .mov (.t 0)⟩,
   ⟨(some 87), none, .bslice 36 0 [] []⟩,
   ⟨(some 88), none, .mov (.t 0)⟩,
   ⟨(some 89), none, .nilck (.t 88)⟩,
   ⟨(some 90), none, .faddr 7 (.t 89)⟩,
   ⟨(some 91), none, .load none (.t 90)⟩,
   ⟨(some 92), none, .mov (.t 5)⟩,
   ⟨(some 93), none, .slice (some 19) (.t 91) none (some (.t 92))⟩,
   ⟨(some 94), none, .append 36 19 168 [(.int .i64 0), (.int .i64 0), (.int .i64 0), (.int .i64 0), (.int .i64 0), (.int .i64 0), (.int .i64 0), (.int .i64 0), (.int .i64 0), (.int .i64 0), (.int .i64 0), (.string (ByteArray.mk #[])), (.string (ByteArray.mk #[])), (.int .i64 0), (.int .i64 0), (.int .i64 0), (.int .i64 0), (.int .i64 0), (.int .i64 0)] (.t 87) (.t 93)⟩,
   ⟨(some 95), none, .load (some 19) (.t 3)⟩,
   ⟨(some 96), none, .bslice 36 1 [(.int .i64 0), (.int .i64 0), (.int .i64 0), (.int .i64 0), (.int .i64 0), (.int .i64 0), (.int .i64 0), (.int .i64 0), (.int .i64 0), (.int .i64 0), (.int .i64 0), (.string (ByteArray.mk #[])), (.string (ByteArray.mk #[])), (.int .i64 0), (.int .i64 0), (.int .i64 0), (.int .i64 0), (.int .i64 0), (.int .i64 0)] [(0, 19, (.t 95))]⟩,
   ⟨(some 97), none, .append 36 19 168 [(.int .i64 0), (.int .i64 0), (.int .i64 0), (.int .i64 0), (.int .i64 0), (.int .i64 0), (.int .i64 0), (.int .i64 0), (.int .i64 0), (.int .i64 0), (.int .i64 0), (.string (ByteArray.mk #[])), (.string (ByteArray.mk #[])), (.int .i64 0), (.int .i64 0), (.int .i64 0), (.int .i64 0), (.int .i64 0), (.int .i64 0)] (.t 94) (.t 96)⟩,
   ⟨(some 98), none, .mov (.t 0)⟩,
   ⟨(some 99), none, .nilck (.t 98)⟩,
   ⟨(some 100), none, .faddr 7 (.t 99)⟩,
   ⟨(some 101), none, .load none (.t 100)⟩,
   ⟨(some 102), none, .mov (.t 5)⟩,
   ⟨(some 103), none, .slice (some 19) (.t 101) (some (.t 102)) none⟩,
   ⟨(some 104), none, .append 36 19 168 [(.int .i64 0), (.int .i64 0), (.int .i64 0), (.int .i64 0), (.int .i64 0), (.int .i64 0), (.int .i64 0), (.int .i64 0), (.int .i64 0), (.int .i64 0), (.int .i64 0), (.string (ByteArray.mk #[])), (.string (ByteArray.mk #[])), (.int .i64 0), (.int .i64 0), (.int .i64 0), (.int .i64 0), (.int .i64 0), (.int .i64 0)] (.t 97) (.t 103)⟩,
   ⟨(some 105), none, .nilck (.t 86)⟩,
   ⟨(some 106), none, .faddr 7 (.t 105)⟩,
   ⟨none, none, .store none (.t 106) (.t 104)⟩]
   (.fl 0 (.fl 2 (.fr 3 (.fl 4 (.fr 5 (.fl 6 (.fl 7 (.fr 9 (.fl 12 (.fr 13 (.fl 14 (.fr 15 (.fl 16 (.fl 17 (.br (.st 1 [3, 5, 9, 13, 15] (.br (.st 8 [9, 13, 15] (.st 10 [13, 15] (.st 11 [13, 15] (.st 18 [] (.fr 19 (.fl 20 (.st 21 [] .done))))))) (.st 10 [3, 5, 13, 15] (.st 8 [13, 15] (.st 11 [13, 15] (.st 18 [] (.fr 19 (.fl 20 (.st 21 [] .done))))))))) (.st 10 [3, 5, 13, 15] (.st 1 [3, 5, 13, 15] (.st 8 [13, 15] (.st 11 [13, 15] (.st 18 [] (.fr 19 (.fl 20 (.st 21 [] .done))))))))))))))))))))))))
 (.seq (.reg [⟨(some 4), none, .mov (.c (.raw (.int .i64 0)))⟩])
 .ret)))))))))
theorem i_rostrumref24_House_Blue : Is Tryz.prog 22 107 [.t 4] c_rostrumref24_House_Blue := ⟨Tryz.f22, _, p_rostrumref24_House_Blue, rfl, rfl, by kernel_rfl, by kernel_rfl, rfl⟩
def p_rostrumref24_Make : List (Nat × Pl) := [(1, (.fl 0 (.fr 1 (.fr 2 (.fl 3 (.fr 4 (.fl 5 (.fr 6 (.fl 7 (.fr 8 (.fl 9 (.fr 10 (.fl 11 (.fl 12 (.fr 13 (.fl 14 (.fr 15 (.fl 16 (.fr 17 (.fl 18 (.fr 19 (.fl 20 (.fr 21 (.fr 22 (.st 23 [1, 2, 4, 6, 8, 10, 13, 15, 17, 19, 21, 22] (.st 24 [] .done)))))))))))))))))))))))))), (24, (.fl 0 (.fl 1 (.fl 2 (.fl 3 (.fr 4 (.fr 5 (.fl 6 (.fr 7 (.fl 8 (.fl 9 (.fl 10 .done)))))))))))), (34, (.fl 0 (.fr 1 (.fl 2 (.fl 3 (.fl 4 (.fl 5 (.fr 6 (.fl 8 (.fr 9 (.st 7 [9] (.fl 10 (.fl 11 (.fl 12 .done))))))))))))))]
def c_rostrumref24_Make : VCode :=
 (.seq (.reg [⟨(some 4), none, .box 63 (.t 1)⟩,
   ⟨(some 5), none, .box 23 (.t 2)⟩,
   ⟨(some 6), none, .new 36 [(.int .i64 0), (.int .i64 0), (.int .i64 0), (.int .i64 0), (.int .i64 0), (.int .i64 0), (.int .i64 0), (.int .i64 0), (.int .i64 0), (.int .i64 0), (.int .i64 0), (.string (ByteArray.mk #[])), (.string (ByteArray.mk #[])), (.int .i64 0), (.int .i64 0), (.int .i64 0), (.int .i64 0), (.int .i64 0), (.int .i64 0)]⟩,
   ⟨(some 7), none, .mov (.c (.raw (.int .i64 0)))⟩])
 (.seq (.draw [⟨(some 19), none, .faddr 0 (.t 4)⟩,
   ⟨(some 20), none, .load none (.t 19)⟩,
   ⟨(some 21), none, .load (some 2) (.t 5)⟩,
   ⟨(some 22), none, .mov (.t 0)⟩,
   ⟨(some 23), none, .nilck (.t 22)⟩,
   ⟨(some 24), none, .faddr 0 (.t 23)⟩,
   ⟨(some 25), none, .load (some 7) (.t 24)⟩,
   ⟨(some 26), none, .mov (.t 0)⟩,
   ⟨(some 27), none, .nilck (.t 26)⟩,
   ⟨(some 28), none, .faddr 8 (.t 27)⟩,
   ⟨(some 29), none, .load none (.t 28)⟩,
   ⟨(some 30), none, .len .sl (.t 29)⟩,
   ⟨(some 31), none, .faddr 1 (.t 4)⟩,
   ⟨(some 32), none, .load none (.t 31)⟩,
   ⟨(some 33), none, .faddr 2 (.t 4)⟩,
   ⟨(some 34), none, .load none (.t 33)⟩,
   ⟨(some 35), none, .faddr 3 (.t 4)⟩,
   ⟨(some 36), none, .load (some 2) (.t 35)⟩,
   ⟨(some 37), none, .faddr 5 (.t 4)⟩,
   ⟨(some 38), none, .load (some 2) (.t 37)⟩,
   ⟨(some 39), none, .faddr 7 (.t 4)⟩,
   ⟨(some 40), none, .load none (.t 39)⟩,
   ⟨(some 41), none, .build [(.int .i64 0), (.int .i64 0), (.int .i64 0), (.int .i64 0), (.int .i64 0), (.int .i64 0), (.int .i64 0), (.int .i64 0), (.int .i64 0), (.int .i64 0), (.int .i64 0), (.string (ByteArray.mk #[])), (.string (ByteArray.mk #[])), (.int .i64 0), (.int .i64 0), (.int .i64 0), (.int .i64 0), (.int .i64 0), (.int .i64 0)] [(0, 1, (.t 20)), (1, 2, (.t 21)), (3, 7, (.t 25)), (10, 1, (.t 30)), (11, 1, (.t 32)), (12, 1, (.t 34)), (13, 2, (.t 36)), (15, 2, (.t 38)), (17, 1, (.t 40))]⟩,
   ⟨(some 8), none, .new 36 [(.int .i64 0), (.int .i64 0), (.int .i64 0), (.int .i64 0), (.int .i64 0), (.int .i64 0), (.int .i64 0), (.int .i64 0), (.int .i64 0), (.int .i64 0), (.int .i64 0), (.string (ByteArray.mk #[])), (.string (ByteArray.mk #[])), (.int .i64 0), (.int .i64 0), (.int .i64 0), (.int .i64 0), (.int .i64 0), (.int .i64 0)]⟩,
   ⟨none, none, .store (some 19) (.t 8) (.t 41)⟩]
   (.fl 0 (.fr 1 (.fr 2 (.fl 3 (.fr 4 (.fl 5 (.fr 6 (.fl 7 (.fr 8 (.fl 9 (.fr 10 (.fl 11 (.fl 12 (.fr 13 (.fl 14 (.fr 15 (.fl 16 (.fr 17 (.fl 18 (.fr 19 (.fl 20 (.fr 21 (.fr 22 (.st 23 [1, 2, 4, 6, 8, 10, 13, 15, 17, 19, 21, 22] (.st 24 [] .done))))))))))))))))))))))))))
 (.seq (.seq (.reg [⟨(some 42), none, .faddr 0 (.t 4)⟩,
   ⟨(some 43), none, .load none (.t 42)⟩,
   ⟨(some 44), none, .bin .eql .no (.t 43) (.c (.raw (.int .i64 6)))⟩])
 (.cond (.t 44)
  (.reg [⟨(some 45), none, .mov (.t 0)⟩,
    ⟨(some 46), none, .faddr 2 (.t 4)⟩,
    ⟨(some 47), none, .load none (.t 46)⟩,
    ⟨(some 48), none, .call 67 [(.t 45), (.t 47)]⟩,
    ⟨(some 49), none, .faddr 18 (.t 8)⟩,
    ⟨none, none, .store none (.t 49) (.t 48)⟩])
  .skip))
 (.seq (.seq (.reg [⟨(some 50), none, .load (some 19) (.t 8)⟩,
   ⟨(some 51), none, .call 38 [(.t 50)]⟩,
   ⟨(some 52), none, .un .not (.t 51)⟩])
 (.cond (.t 52)
  (.seq (.reg [⟨(some 53), none, .build [(.int .i64 0), (.int .i64 0), (.int .i64 0), (.int .i64 0), (.int .i64 0), (.int .i64 0), (.int .i64 0), (.int .i64 0), (.int .i64 0), (.int .i64 0), (.int .i64 0), (.string (ByteArray.mk #[])), (.string (ByteArray.mk #[])), (.int .i64 0), (.int .i64 0), (.int .i64 0), (.int .i64 0), (.int .i64 0), (.int .i64 0)] []⟩,
    ⟨none, none, .store (some 19) (.t 6) (.t 53)⟩,
    ⟨(some 7), none, .mov (.c (.raw (.int .i64 1)))⟩])
  .ret)
  .skip))
 (.seq (.reg [⟨(some 9), none, .mov (.c (.raw (.int .i64 0)))⟩])
 (.seq (.seq (.reg [⟨(some 54), none, .faddr 0 (.t 4)⟩,
   ⟨(some 55), none, .load none (.t 54)⟩])
 (.block 0 (.seq (.seq (.reg [⟨(some 57), none, .bin .eql .no (.t 55) (.c (.raw (.int .i64 2)))⟩,
   ⟨(some 56), none, .mov (.t 57)⟩])
 (.cond (.t 56)
  .skip
  (.reg [⟨(some 58), none, .bin .eql .no (.t 55) (.c (.raw (.int .i64 7)))⟩,
    ⟨(some 56), none, .mov (.t 58)⟩])))
 (.cond (.t 56)
  (.seq (.reg [⟨(some 60), none, .mov (.t 0)⟩,
    ⟨(some 61), none, .faddr 3 (.t 4)⟩,
    ⟨(some 62), none, .load (some 2) (.t 61)⟩,
    ⟨(some 63), none, .call 61 [(.t 60), (.c (.raw (.int .i64 1))), (.t 62)]⟩,
    ⟨(some 59), none, .mov (.t 63)⟩,
    ⟨(some 64), none, .extr (.t 59) 0⟩,
    ⟨(some 65), none, .extr (.t 59) 1⟩,
    ⟨(some 10), none, .new 36 [(.int .i64 0), (.int .i64 0), (.int .i64 0), (.int .i64 0), (.int .i64 0), (.int .i64 0), (.int .i64 0), (.int .i64 0), (.int .i64 0), (.int .i64 0), (.int .i64 0), (.string (ByteArray.mk #[])), (.string (ByteArray.mk #[])), (.int .i64 0), (.int .i64 0), (.int .i64 0), (.int .i64 0), (.int .i64 0), (.int .i64 0)]⟩,
    ⟨none, none, .store (some 19) (.t 10) (.t 64)⟩,
    ⟨(some 11), none, .mov (.t 65)⟩])
  (.block 1 (.seq (.reg [⟨(some 67), none, .mov (.t 11)⟩,
    ⟨(some 68), none, .un .not (.t 67)⟩,
    ⟨(some 66), none, .mov (.t 68)⟩])
  (.cond (.t 66)
   (.reg [⟨(some 9), none, .mov (.c (.raw (.int .i64 4)))⟩])
   (.seq (.reg [⟨(some 70), none, .mov (.t 0)⟩,
     ⟨(some 71), none, .faddr 3 (.t 4)⟩,
     ⟨(some 72), none, .load (some 2) (.t 71)⟩,
     ⟨(some 73), none, .call 68 [(.t 70), (.t 72)]⟩,
     ⟨(some 74), none, .un .not (.t 73)⟩,
     ⟨(some 69), none, .mov (.t 74)⟩])
   (.cond (.t 69)
    (.reg [⟨(some 9), none, .mov (.c (.raw (.int .i64 12)))⟩])
    (.seq (.reg [⟨(some 76), none, .faddr 0 (.t 4)⟩,
      ⟨(some 77), none, .load none (.t 76)⟩,
      ⟨(some 78), none, .bin .eql .no (.t 77) (.c (.raw (.int .i64 2)))⟩,
      ⟨(some 79), none, .mov (.t 78)⟩,
      ⟨(some 80), (some (79, true)), .mov (.t 0)⟩,
      ⟨(some 81), (some (79, true)), .faddr 2 (.t 4)⟩,
      ⟨(some 82), (some (79, true)), .load none (.t 81)⟩,
      ⟨(some 83), (some (79, true)), .call 58 [(.t 80), (.t 82)]⟩,
      ⟨(some 84), (some (79, true)), .un .not (.t 83)⟩,
      ⟨(some 85), none, .pick (.t 79) (.t 84) (.c (.kb false))⟩,
      ⟨(some 75), none, .mov (.t 85)⟩])
    (.cond (.t 75)
     (.reg [⟨(some 9), none, .mov (.c (.raw (.int .i64 4)))⟩])
     .skip))))))))
  (.seq (.reg [⟨(some 87), none, .bin .eql .no (.t 55) (.c (.raw (.int .i64 3)))⟩,
    ⟨(some 86), none, .mov (.t 87)⟩])
  (.cond (.t 86)
   (.seq (.reg [⟨(some 89), none, .mov (.t 0)⟩,
     ⟨(some 90), none, .faddr 5 (.t 4)⟩,
     ⟨(some 91), none, .load (some 2) (.t 90)⟩,
     ⟨(some 92), none, .call 61 [(.t 89), (.c (.raw (.int .i64 2))), (.t 91)]⟩,
     ⟨(some 88), none, .mov (.t 92)⟩,
     ⟨(some 93), none, .extr (.t 88) 0⟩,
     ⟨(some 94), none, .extr (.t 88) 1⟩,
     ⟨(some 12), none, .new 36 [(.int .i64 0), (.int .i64 0), (.int .i64 0), (.int .i64 0), (.int .i64 0), (.int .i64 0), (.int .i64 0), (.int .i64 0), (.int .i64 0), (.int .i64 0), (.int .i64 0), (.string (ByteArray.mk #[])), (.string (ByteArray.mk #[])), (.int .i64 0), (.int .i64 0), (.int .i64 0), (.int .i64 0), (.int .i64 0), (.int .i64 0)]⟩,
     ⟨none, none, .store (some 19) (.t 12) (.t 93)⟩,
     ⟨(some 13), none, .mov (.t 94)⟩])
   (.seq (.reg [⟨(some 14), none, .mov (.c (.kb false))⟩])
   (.seq (.reg [⟨(some 95), none, .mov (.t 0)⟩,
     ⟨(some 96), none, .faddr 13 (.t 12)⟩,
     ⟨(some 97), none, .load (some 2) (.t 96)⟩,
     ⟨(some 98), none, .call 69 [(.t 95), (.t 97)]⟩,
     ⟨(some 15), none, .mov (.t 98)⟩])
   (.seq (.seq (.reg [⟨(some 16), none, .mov (.c (.raw (.int .i64 0)))⟩])
   (.block 2 (.loop (.seq (.seq (.reg [⟨(some 99), none, .mov (.t 16)⟩,
      ⟨(some 100), none, .mov (.t 15)⟩,
      ⟨(some 101), none, .len .sl (.t 100)⟩,
      ⟨(some 102), none, .bin .lss .no (.t 99) (.t 101)⟩])
    (.cond (.t 102)
     .skip
     (.exit 2)))
    (.seq (.block 3 (.draw [⟨(some 105), none, .mov (.t 14)⟩,
      ⟨(some 106), none, .mov (.t 105)⟩,
      ⟨(some 107), (some (106, false)), .mov (.t 15)⟩,
      ⟨(some 108), (some (106, false)), .mov (.t 16)⟩,
      ⟨(some 109), (some (106, false)), .iaddr 2 none (.t 107) (.t 108)⟩,
      ⟨(some 110), (some (106, false)), .load (some 2) (.t 109)⟩,
      ⟨(some 111), (some (106, false)), .faddr 5 (.t 4)⟩,
      ⟨(some 112), (some (106, false)), .load (some 2) (.t 111)⟩,
      ⟨(some 113), (some (106, false)), .bin .eql (.agg [.i, .i]) (.t 110) (.t 112)⟩,
      ⟨(some 114), none, .pick (.t 106) (.c (.kb true)) (.t 113)⟩,
      ⟨(some 14), none, .mov (.t 114)⟩]
      (.fl 0 (.fl 1 (.fl 2 (.fl 3 (.fr 4 (.fr 5 (.fl 6 (.fr 7 (.fl 8 (.fl 9 (.fl 10 .done)))))))))))))
    (.reg [⟨(some 103), none, .mov (.t 16)⟩,
      ⟨(some 104), none, .bin .add .no (.t 103) (.c (.raw (.int .i64 1)))⟩,
      ⟨(some 16), none, .mov (.t 104)⟩]))))))
   (.seq (.reg [⟨(some 116), none, .mov (.t 0)⟩,
     ⟨(some 117), none, .faddr 13 (.t 12)⟩,
     ⟨(some 118), none, .load (some 2) (.t 117)⟩,
     ⟨(some 119), none, .call 61 [(.t 116), (.c (.raw (.int .i64 1))), (.t 118)]⟩,
     ⟨(some 115), none, .mov (.t 119)⟩,
     ⟨(some 120), none, .extr (.t 115) 0⟩,
     ⟨(some 121), none, .extr (.t 115) 1⟩,
     ⟨(some 17), none, .new 36 [(.int .i64 0), (.int .i64 0), (.int .i64 0), (.int .i64 0), (.int .i64 0), (.int .i64 0), (.int .i64 0), (.int .i64 0), (.int .i64 0), (.int .i64 0), (.int .i64 0), (.string (ByteArray.mk #[])), (.string (ByteArray.mk #[])), (.int .i64 0), (.int .i64 0), (.int .i64 0), (.int .i64 0), (.int .i64 0), (.int .i64 0)]⟩,
     ⟨none, none, .store (some 19) (.t 17) (.t 120)⟩,
     ⟨(some 18), none, .mov (.t 121)⟩])
   (.block 4 (.seq (.reg [⟨(some 123), none, .mov (.t 13)⟩,
     ⟨(some 124), none, .un .not (.t 123)⟩,
     ⟨(some 125), none, .mov (.t 124)⟩,
     ⟨(some 126), (some (125, false)), .mov (.t 14)⟩,
     ⟨(some 127), (some (125, false)), .un .not (.t 126)⟩,
     ⟨(some 128), none, .pick (.t 125) (.c (.kb true)) (.t 127)⟩,
     ⟨(some 129), none, .mov (.t 128)⟩,
     ⟨(some 130), (some (129, false)), .mov (.t 18)⟩,
     ⟨(some 131), (some (129, false)), .un .not (.t 130)⟩,
     ⟨(some 132), none, .pick (.t 129) (.c (.kb true)) (.t 131)⟩,
     ⟨(some 122), none, .mov (.t 132)⟩])
   (.cond (.t 122)
    (.reg [⟨(some 9), none, .mov (.c (.raw (.int .i64 4)))⟩])
    (.seq (.reg [⟨(some 134), none, .mov (.t 0)⟩,
      ⟨(some 135), none, .faddr 13 (.t 12)⟩,
      ⟨(some 136), none, .load (some 2) (.t 135)⟩,
      ⟨(some 137), none, .call 68 [(.t 134), (.t 136)]⟩,
      ⟨(some 138), none, .un .not (.t 137)⟩,
      ⟨(some 133), none, .mov (.t 138)⟩])
    (.cond (.t 133)
     (.reg [⟨(some 9), none, .mov (.c (.raw (.int .i64 12)))⟩])
     .skip))))))))))
   (.seq (.seq (.reg [⟨(some 140), none, .bin .eql .no (.t 55) (.c (.raw (.int .i64 4)))⟩,
     ⟨(some 139), none, .mov (.t 140)⟩])
   (.cond (.t 139)
    .skip
    (.reg [⟨(some 141), none, .bin .eql .no (.t 55) (.c (.raw (.int .i64 6)))⟩,
      ⟨(some 139), none, .mov (.t 141)⟩])))
   (.cond (.t 139)
    (.block 5 (.seq (.reg [⟨(some 143), none, .mov (.t 0)⟩,
      ⟨(some 144), none, .faddr 2 (.t 4)⟩,
      ⟨(some 145), none, .load none (.t 144)⟩,
      ⟨(some 146), none, .call 58 [(.t 143), (.t 145)]⟩,
      ⟨(some 147), none, .un .not (.t 146)⟩,
      ⟨(some 142), none, .mov (.t 147)⟩])
    (.cond (.t 142)
     (.reg [⟨(some 9), none, .mov (.c (.raw (.int .i64 4)))⟩])
     (.seq (.draw [⟨(some 149), none, .faddr 0 (.t 4)⟩,
       ⟨(some 150), none, .load none (.t 149)⟩,
       ⟨(some 151), none, .bin .eql .no (.t 150) (.c (.raw (.int .i64 6)))⟩,
       ⟨(some 152), none, .mov (.t 151)⟩,
       ⟨(some 153), (some (152, true)), .mov (.t 0)⟩,
       ⟨(some 154), (some (152, true)), .faddr 2 (.t 4)⟩,
       ⟨(some 155), (some (152, true)), .load none (.t 154)⟩,
       ⟨(some 156), (some (152, true)), .call 70 [(.t 153), (.t 155)]⟩,
       ⟨(some 157), (some (152, true)), .faddr 7 (.t 4)⟩,
       ⟨(some 158), (some (152, true)), .load none (.t 157)⟩,
       ⟨(some 159), (some (152, true)), .bin .lss .no (.t 156) (.t 158)⟩,
       ⟨(some 160), none, .pick (.t 152) (.t 159) (.c (.kb false))⟩,
       ⟨(some 148), none, .mov (.t 160)⟩]
       (.fl 0 (.fr 1 (.fl 2 (.fl 3 (.fl 4 (.fl 5 (.fr 6 (.fl 8 (.fr 9 (.st 7 [9] (.fl 10 (.fl 11 (.fl 12 .done))))))))))))))
     (.cond (.t 148)
      (.reg [⟨(some 9), none, .mov (.c (.raw (.int .i64 11)))⟩])
      .skip)))))
    (.seq (.reg [⟨(some 162), none, .bin .eql .no (.t 55) (.c (.raw (.int .i64 5)))⟩,
      ⟨(some 161), none, .mov (.t 162)⟩])
    (.cond (.t 161)
     (.seq (.reg [⟨(some 163), none, .mov (.t 0)⟩,
       ⟨(some 164), none, .faddr 2 (.t 4)⟩,
       ⟨(some 165), none, .load none (.t 164)⟩,
       ⟨(some 166), none, .call 58 [(.t 163), (.t 165)]⟩])
     (.cond (.t 166)
      (.reg [⟨(some 9), none, .mov (.c (.raw (.int .i64 5)))⟩])
      .skip))
     .skip))))))))))
 (.seq (.seq (.reg [⟨(some 167), none, .mov (.t 9)⟩,
   ⟨(some 168), none, .bin .neq .no (.t 167) (.c (.raw (.int .i64 0)))⟩])
 (.cond (.t 168)
  (.seq (.reg [⟨(some 169), none, .build [(.int .i64 0), (.int .i64 0), (.int .i64 0), (.int .i64 0), (.int .i64 0), (.int .i64 0), (.int .i64 0), (.int .i64 0), (.int .i64 0), (.int .i64 0), (.int .i64 0), (.string (ByteArray.mk #[])), (.string (ByteArray.mk #[])), (.int .i64 0), (.int .i64 0), (.int .i64 0), (.int .i64 0), (.int .i64 0), (.int .i64 0)] []⟩,
    ⟨(some 170), none, .mov (.t 9)⟩,
    ⟨none, none, .store (some 19) (.t 6) (.t 169)⟩,
    ⟨(some 7), none, .mov (.t 170)⟩])
  .ret)
  .skip))
 (.seq (.reg [⟨(some 171), none, .load (some 19) (.t 8)⟩,
   ⟨none, none, .store (some 19) (.t 6) (.t 171)⟩,
   ⟨(some 7), none, .mov (.c (.raw (.int .i64 0)))⟩])
 .ret))))))))
theorem i_rostrumref24_Make : Is Tryz.prog 23 172 [.cell 6 (some 19), .t 7] c_rostrumref24_Make := ⟨Tryz.f23, _, p_rostrumref24_Make, rfl, rfl, by kernel_rfl, by kernel_rfl, rfl⟩
def p_rostrumlaw25_cal : List (Nat × Pl) := []
def c_rostrumlaw25_cal : VCode :=
 (.seq (.reg [⟨(some 1), none, .box 47 (.t 0)⟩,
   ⟨(some 2), none, .new 63 [(.int .i64 0), (.string (ByteArray.mk #[])), (.string (ByteArray.mk #[])), (.int .i64 0), (.int .i64 0), (.int .i64 0), (.int .i64 0), (.int .i64 0)]⟩])
 (.seq (.reg [⟨(some 3), none, .faddr 0 (.t 1)⟩,
   ⟨(some 4), none, .load none (.t 3)⟩,
   ⟨(some 5), none, .faddr 1 (.t 1)⟩,
   ⟨(some 6), none, .load none (.t 5)⟩,
   ⟨(some 7), none, .faddr 2 (.t 1)⟩,
   ⟨(some 8), none, .load none (.t 7)⟩,
   ⟨(some 9), none, .faddr 3 (.t 1)⟩,
   ⟨(some 10), none, .load (some 2) (.t 9)⟩,
   ⟨(some 11), none, .faddr 5 (.t 1)⟩,
   ⟨(some 12), none, .load (some 2) (.t 11)⟩,
   ⟨(some 13), none, .faddr 7 (.t 1)⟩,
   ⟨(some 14), none, .load none (.t 13)⟩,
   ⟨(some 15), none, .build [(.int .i64 0), (.string (ByteArray.mk #[])), (.string (ByteArray.mk #[])), (.int .i64 0), (.int .i64 0), (.int .i64 0), (.int .i64 0), (.int .i64 0)] [(0, 1, (.t 4)), (1, 1, (.t 6)), (2, 1, (.t 8)), (3, 2, (.t 10)), (5, 2, (.t 12)), (7, 1, (.t 14))]⟩,
   ⟨none, none, .store (some 8) (.t 2) (.t 15)⟩])
 .ret))
theorem i_rostrumlaw25_cal : Is Tryz.prog 24 16 [.cell 2 (some 8)] c_rostrumlaw25_cal := ⟨Tryz.f24, _, p_rostrumlaw25_cal, rfl, rfl, by kernel_rfl, by kernel_rfl, rfl⟩
def p_auct_House_Reds : List (Nat × Pl) := []
def c_auct_House_Reds : VCode :=
 (.seq (.reg [⟨(some 2), none, .mov (.c (.raw (.int .i64 0)))⟩])
 (.seq (.reg [⟨(some 3), none, .mov (.t 0)⟩,
   ⟨(some 4), none, .nilck (.t 3)⟩,
   ⟨(some 5), none, .faddr 8 (.t 4)⟩,
   ⟨(some 6), none, .load none (.t 5)⟩,
   ⟨(some 7), none, .len .sl (.t 6)⟩,
   ⟨(some 2), none, .mov (.t 7)⟩])
 .ret))
theorem i_auct_House_Reds : Is Tryz.prog 25 8 [.t 2] c_auct_House_Reds := ⟨Tryz.f25, _, p_auct_House_Reds, rfl, rfl, by kernel_rfl, by kernel_rfl, rfl⟩
def p_auct_House_Have : List (Nat × Pl) := []
def c_auct_House_Have : VCode :=
 (.seq (.reg [⟨(some 2), none, .new 25 [(.int .i64 0), (.int .i64 0), (.int .i64 0), (.int .i64 0), (.int .i64 0), (.int .i64 0), (.int .i64 0)]⟩])
 (.seq (.reg [⟨(some 3), none, .mov (.t 0)⟩,
   ⟨(some 4), none, .nilck (.t 3)⟩,
   ⟨(some 5), none, .faddr 0 (.t 4)⟩,
   ⟨(some 6), none, .load (some 7) (.t 5)⟩,
   ⟨none, none, .store (some 7) (.t 2) (.t 6)⟩])
 .ret))
theorem i_auct_House_Have : Is Tryz.prog 26 7 [.cell 2 (some 7)] c_auct_House_Have := ⟨Tryz.f26, _, p_auct_House_Have, rfl, rfl, by kernel_rfl, by kernel_rfl, rfl⟩
def p_pack_Read : List (Nat × Pl) := []
def c_pack_Read : VCode :=
 (.seq (.reg [⟨(some 2), none, .mov (.c (.raw (.pointer none)))⟩])
 (.seq (.reg [⟨(some 3), none, .mov (.t 0)⟩,
   ⟨(some 4), none, .call 74 [(.t 3)]⟩,
   ⟨(some 5), none, .build [(.slice none 0 0), (.bool false)] [(0, 1, (.t 4))]⟩,
   ⟨(some 6), none, .box 128 (.t 5)⟩,
   ⟨(some 2), none, .mov (.t 6)⟩])
 .ret))
theorem i_pack_Read : Is Tryz.prog 28 7 [.t 2] c_pack_Read := ⟨Tryz.f28, _, p_pack_Read, rfl, rfl, by kernel_rfl, by kernel_rfl, rfl⟩
def p_pack_Reader_Num : List (Nat × Pl) := [(2, (.fl 0 (.fr 1 (.fl 2 (.fr 3 (.fl 4 (.fr 5 (.fl 6 (.fr 7 (.fl 8 (.fl 9 (.fl 10 (.fl 11 (.fl 12 .done))))))))))))))]
def c_pack_Reader_Num : VCode :=
 (.seq (.reg [⟨(some 6), none, .mov (.c (.raw (.int .i64 0)))⟩])
 (.seq (.reg [⟨(some 7), none, .mov (.c (.raw (.int .u64 0)))⟩])
 (.seq (.seq (.draw [⟨(some 11), none, .mov (.t 0)⟩,
   ⟨(some 12), none, .nilck (.t 11)⟩,
   ⟨(some 13), none, .faddr 0 (.t 12)⟩,
   ⟨(some 14), none, .load none (.t 13)⟩,
   ⟨(some 15), none, .mov (.t 0)⟩,
   ⟨(some 16), none, .nilck (.t 15)⟩,
   ⟨(some 17), none, .faddr 0 (.t 16)⟩,
   ⟨(some 18), none, .load none (.t 17)⟩,
   ⟨(some 19), none, .len .sl (.t 18)⟩,
   ⟨(some 20), none, .min (.t 19) (.c (.raw (.int .i64 10)))⟩,
   ⟨(some 21), none, .slice (some 1) (.t 14) none (some (.t 20))⟩,
   ⟨(some 22), none, .len .sl (.t 21)⟩,
   ⟨(some 23), none, .mov (.c (.raw (.int .i64 0)))⟩]
   (.fl 0 (.fr 1 (.fl 2 (.fr 3 (.fl 4 (.fr 5 (.fl 6 (.fr 7 (.fl 8 (.fl 9 (.fl 10 (.fl 11 (.fl 12 .done))))))))))))))
 (.block 0 (.loop (.seq (.reg [⟨(some 24), none, .bin .lss .no (.t 23) (.t 22)⟩])
  (.seq (.cond (.t 24)
   .skip
   (.exit 0))
  (.seq (.block 1 (.seq (.reg [⟨(some 25), none, .mov (.t 23)⟩,
    ⟨(some 26), none, .iaddr 1 none (.t 21) (.t 23)⟩,
    ⟨(some 27), none, .load none (.t 26)⟩,
    ⟨(some 8), none, .mov (.t 25)⟩,
    ⟨(some 9), none, .mov (.t 27)⟩])
  (.seq (.reg [⟨(some 28), none, .mov (.t 7)⟩,
    ⟨(some 29), none, .mov (.t 9)⟩,
    ⟨(some 30), none, .bin .andNot .no (.t 29) (.c (.raw (.int .u8 128)))⟩,
    ⟨(some 31), none, .conv (.int .u64) (.t 30)⟩,
    ⟨(some 32), none, .mov (.t 8)⟩,
    ⟨(some 33), none, .bin .mul .no (.c (.raw (.int .i64 7))) (.t 32)⟩,
    ⟨(some 34), none, .bin .shl .no (.t 31) (.t 33)⟩,
    ⟨(some 35), none, .bin .or .no (.t 28) (.t 34)⟩,
    ⟨(some 7), none, .mov (.t 35)⟩])
  (.seq (.seq (.reg [⟨(some 36), none, .mov (.t 9)⟩,
    ⟨(some 37), none, .bin .and .no (.t 36) (.c (.raw (.int .u8 128)))⟩,
    ⟨(some 38), none, .bin .neq .no (.t 37) (.c (.raw (.int .u8 0)))⟩])
  (.cond (.t 38)
   (.exit 1)
   .skip))
  (.seq (.reg [⟨(some 39), none, .mov (.t 7)⟩,
    ⟨(some 40), none, .bin .shr .no (.t 39) (.c (.raw (.int .u64 1)))⟩,
    ⟨(some 41), none, .conv (.int .i64) (.t 40)⟩,
    ⟨(some 42), none, .mov (.t 7)⟩,
    ⟨(some 43), none, .bin .and .no (.t 42) (.c (.raw (.int .u64 1)))⟩,
    ⟨(some 44), none, .conv (.int .i64) (.t 43)⟩,
    ⟨(some 45), none, .un .neg (.t 44)⟩,
    ⟨(some 46), none, .bin .xor .no (.t 41) (.t 45)⟩,
    ⟨(some 10), none, .mov (.t 46)⟩])
  (.seq (.seq (.reg [⟨(some 47), none, .mov (.t 8)⟩,
    ⟨(some 48), none, .bin .gtr .no (.t 47) (.c (.raw (.int .i64 0)))⟩,
    ⟨(some 49), none, .mov (.t 48)⟩,
    ⟨(some 50), (some (49, true)), .mov (.t 9)⟩,
    ⟨(some 51), (some (49, true)), .bin .eql .no (.t 50) (.c (.raw (.int .u8 0)))⟩,
    ⟨(some 52), none, .pick (.t 49) (.t 51) (.c (.kb false))⟩,
    ⟨(some 53), none, .mov (.t 52)⟩,
    ⟨(some 54), (some (53, false)), .mov (.t 8)⟩,
    ⟨(some 55), (some (53, false)), .bin .eql .no (.t 54) (.c (.raw (.int .i64 9)))⟩,
    ⟨(some 56), (some (53, false)), .mov (.t 55)⟩,
    ⟨(some 57), (some (56, true)), .mov (.t 9)⟩,
    ⟨(some 58), (some (56, true)), .bin .gtr .no (.t 57) (.c (.raw (.int .u8 1)))⟩,
    ⟨(some 59), (some (53, false)), .pick (.t 56) (.t 58) (.c (.kb false))⟩,
    ⟨(some 60), none, .pick (.t 53) (.c (.kb true)) (.t 59)⟩,
    ⟨(some 61), none, .mov (.t 60)⟩,
    ⟨(some 62), (some (61, false)), .mov (.t 10)⟩,
    ⟨(some 63), (some (61, false)), .mov (.t 1)⟩,
    ⟨(some 64), (some (61, false)), .bin .lss .no (.t 62) (.t 63)⟩,
    ⟨(some 65), none, .pick (.t 61) (.c (.kb true)) (.t 64)⟩,
    ⟨(some 66), none, .mov (.t 65)⟩,
    ⟨(some 67), (some (66, false)), .mov (.t 10)⟩,
    ⟨(some 68), (some (66, false)), .mov (.t 2)⟩,
    ⟨(some 69), (some (66, false)), .bin .gtr .no (.t 67) (.t 68)⟩,
    ⟨(some 70), none, .pick (.t 66) (.c (.kb true)) (.t 69)⟩])
  (.cond (.t 70)
   (.seq (.reg [⟨(some 71), none, .mov (.t 0)⟩,
     ⟨(some 72), none, .call 75 [(.t 71)]⟩,
     ⟨(some 6), none, .mov (.t 72)⟩])
   .ret)
   .skip))
  (.seq (.reg [⟨(some 73), none, .mov (.t 0)⟩,
    ⟨(some 74), none, .mov (.t 0)⟩,
    ⟨(some 75), none, .nilck (.t 74)⟩,
    ⟨(some 76), none, .faddr 0 (.t 75)⟩,
    ⟨(some 77), none, .load none (.t 76)⟩,
    ⟨(some 78), none, .mov (.t 8)⟩,
    ⟨(some 79), none, .bin .add .no (.t 78) (.c (.raw (.int .i64 1)))⟩,
    ⟨(some 80), none, .slice (some 1) (.t 77) (some (.t 79)) none⟩,
    ⟨(some 81), none, .nilck (.t 73)⟩,
    ⟨(some 82), none, .faddr 0 (.t 81)⟩,
    ⟨none, none, .store none (.t 82) (.t 80)⟩])
  (.seq (.reg [⟨(some 83), none, .mov (.t 10)⟩,
    ⟨(some 6), none, .mov (.t 83)⟩])
  .ret))))))))
  (.reg [⟨(some 84), none, .bin .add .no (.t 23) (.c (.raw (.int .i64 1)))⟩,
    ⟨(some 23), none, .mov (.t 84)⟩])))))))
 (.seq (.reg [⟨(some 85), none, .mov (.t 0)⟩,
   ⟨(some 86), none, .call 75 [(.t 85)]⟩,
   ⟨(some 6), none, .mov (.t 86)⟩])
 .ret))))
theorem i_pack_Reader_Num : Is Tryz.prog 29 87 [.t 6] c_pack_Reader_Num := ⟨Tryz.f29, _, p_pack_Reader_Num, rfl, rfl, by kernel_rfl, by kernel_rfl, rfl⟩
def p_gen_dot : List (Nat × Pl) := []
def c_gen_dot : VCode :=
 (.seq (.reg [⟨(some 2), none, .new 23 [(.int .i64 0), (.int .i64 0)]⟩])
 (.seq (.reg [⟨(some 4), none, .mov (.t 0)⟩,
   ⟨(some 5), none, .call 29 [(.t 4), (.c (.raw (.int .i64 0))), (.c (.raw (.int .i64 6)))]⟩,
   ⟨(some 3), none, .mov (.t 5)⟩])
 (.seq (.reg [⟨(some 6), none, .mov (.t 3)⟩,
   ⟨(some 7), none, .mov (.t 0)⟩,
   ⟨(some 8), none, .call 29 [(.t 7), (.c (.raw (.int .i64 0))), (.c (.raw (.int .i64 1099511627776)))]⟩,
   ⟨(some 9), none, .build [(.int .i64 0), (.int .i64 0)] [(0, 1, (.t 6)), (1, 1, (.t 8))]⟩,
   ⟨none, none, .store (some 2) (.t 2) (.t 9)⟩])
 .ret)))
theorem i_gen_dot : Is Tryz.prog 30 10 [.cell 2 (some 2)] c_gen_dot := ⟨Tryz.f30, _, p_gen_dot, rfl, rfl, by kernel_rfl, by kernel_rfl, rfl⟩
def p_vec_Get : List (Nat × Pl) := []
def c_vec_Get : VCode :=
 (.seq (.reg [⟨(some 2), none, .new 25 [(.int .i64 0), (.int .i64 0), (.int .i64 0), (.int .i64 0), (.int .i64 0), (.int .i64 0), (.int .i64 0)]⟩])
 (.seq (.reg [⟨(some 3), none, .new 25 [(.int .i64 0), (.int .i64 0), (.int .i64 0), (.int .i64 0), (.int .i64 0), (.int .i64 0), (.int .i64 0)]⟩])
 (.seq (.seq (.reg [⟨(some 5), none, .mov (.c (.raw (.int .i64 0)))⟩])
 (.block 0 (.loop (.seq (.reg [⟨(some 6), none, .bin .lss .no (.t 5) (.c (.raw (.int .i64 7)))⟩])
  (.seq (.cond (.t 6)
   .skip
   (.exit 0))
  (.seq (.block 1 (.seq (.reg [⟨(some 7), none, .mov (.t 5)⟩,
    ⟨(some 4), none, .mov (.t 7)⟩])
  (.reg [⟨(some 8), none, .mov (.t 4)⟩,
    ⟨(some 9), none, .mov (.t 0)⟩,
    ⟨(some 10), none, .call 29 [(.t 9), (.c (.raw (.int .i64 0))), (.c (.raw (.int .i64 1099511627776)))]⟩,
    ⟨(some 11), none, .iaddr 1 (some 7) (.t 3) (.t 8)⟩,
    ⟨none, none, .store none (.t 11) (.t 10)⟩])))
  (.reg [⟨(some 12), none, .bin .add .no (.t 5) (.c (.raw (.int .i64 1)))⟩,
    ⟨(some 5), none, .mov (.t 12)⟩])))))))
 (.seq (.seq (.reg [⟨(some 13), none, .mov (.t 0)⟩,
   ⟨(some 14), none, .call 76 [(.t 13)]⟩])
 (.cond (.t 14)
  (.seq (.reg [⟨(some 15), none, .build [(.int .i64 0), (.int .i64 0), (.int .i64 0), (.int .i64 0), (.int .i64 0), (.int .i64 0), (.int .i64 0)] []⟩,
    ⟨none, none, .store (some 7) (.t 2) (.t 15)⟩])
  .ret)
  .skip))
 (.seq (.reg [⟨(some 16), none, .load (some 7) (.t 3)⟩,
   ⟨none, none, .store (some 7) (.t 2) (.t 16)⟩])
 .ret)))))
theorem i_vec_Get : Is Tryz.prog 31 17 [.cell 2 (some 7)] c_vec_Get := ⟨Tryz.f31, _, p_vec_Get, rfl, rfl, by kernel_rfl, by kernel_rfl, rfl⟩
def p_pack_Reader_Text : List (Nat × Pl) := []
def c_pack_Reader_Text : VCode :=
 (.seq (.reg [⟨(some 4), none, .mov (.c (.raw (.string (ByteArray.mk #[]))))⟩])
 (.seq (.reg [⟨(some 5), none, .mov (.t 0)⟩,
   ⟨(some 6), none, .mov (.t 1)⟩,
   ⟨(some 7), none, .call 77 [(.t 5), (.t 6)]⟩,
   ⟨(some 8), none, .conv .b2s (.t 7)⟩,
   ⟨(some 4), none, .mov (.t 8)⟩])
 .ret))
theorem i_pack_Reader_Text : Is Tryz.prog 32 9 [.t 4] c_pack_Reader_Text := ⟨Tryz.f32, _, p_pack_Reader_Text, rfl, rfl, by kernel_rfl, by kernel_rfl, rfl⟩
def p_pack_Reader_End : List (Nat × Pl) := []
def c_pack_Reader_End : VCode :=
 (.seq (.reg [⟨(some 2), none, .mov (.c (.kb false))⟩])
 (.seq (.reg [⟨(some 3), none, .mov (.t 0)⟩,
   ⟨(some 4), none, .nilck (.t 3)⟩,
   ⟨(some 5), none, .faddr 1 (.t 4)⟩,
   ⟨(some 6), none, .load none (.t 5)⟩,
   ⟨(some 7), none, .un .not (.t 6)⟩,
   ⟨(some 8), none, .mov (.t 7)⟩,
   ⟨(some 9), (some (8, true)), .mov (.t 0)⟩,
   ⟨(some 10), (some (8, true)), .nilck (.t 9)⟩,
   ⟨(some 11), (some (8, true)), .faddr 0 (.t 10)⟩,
   ⟨(some 12), (some (8, true)), .load none (.t 11)⟩,
   ⟨(some 13), (some (8, true)), .len .sl (.t 12)⟩,
   ⟨(some 14), (some (8, true)), .bin .eql .no (.t 13) (.c (.raw (.int .i64 0)))⟩,
   ⟨(some 15), none, .pick (.t 8) (.t 14) (.c (.kb false))⟩,
   ⟨(some 2), none, .mov (.t 15)⟩])
 .ret))
theorem i_pack_Reader_End : Is Tryz.prog 33 16 [.t 2] c_pack_Reader_End := ⟨Tryz.f33, _, p_pack_Reader_End, rfl, rfl, by kernel_rfl, by kernel_rfl, rfl⟩
def p_rostrumref24_Good : List (Nat × Pl) := [(3, (.fl 0 (.fr 1 (.fl 2 (.fl 3 (.fl 4 (.fl 5 (.fr 6 (.fl 7 (.fr 8 (.fr 9 (.fl 10 (.fl 11 (.fr 12 (.fl 13 (.fl 14 (.fl 15 .done)))))))))))))))))]
def c_rostrumref24_Good : VCode :=
 (.seq (.reg [⟨(some 1), none, .box 36 (.t 0)⟩,
   ⟨(some 2), none, .mov (.c (.kb false))⟩])
 (.seq (.seq (.reg [⟨(some 7), none, .faddr 0 (.t 1)⟩,
   ⟨(some 8), none, .load none (.t 7)⟩,
   ⟨(some 9), none, .bin .lss .no (.t 8) (.c (.raw (.int .i64 1)))⟩,
   ⟨(some 10), none, .mov (.t 9)⟩,
   ⟨(some 11), (some (10, false)), .faddr 0 (.t 1)⟩,
   ⟨(some 12), (some (10, false)), .load none (.t 11)⟩,
   ⟨(some 13), (some (10, false)), .bin .gtr .no (.t 12) (.c (.raw (.int .i64 7)))⟩,
   ⟨(some 14), none, .pick (.t 10) (.c (.kb true)) (.t 13)⟩,
   ⟨(some 15), none, .mov (.t 14)⟩,
   ⟨(some 16), (some (15, false)), .faddr 1 (.t 1)⟩,
   ⟨(some 17), (some (15, false)), .load (some 2) (.t 16)⟩,
   ⟨(some 18), (some (15, false)), .call 79 [(.t 17)]⟩,
   ⟨(some 19), (some (15, false)), .un .not (.t 18)⟩,
   ⟨(some 20), none, .pick (.t 15) (.c (.kb true)) (.t 19)⟩,
   ⟨(some 21), none, .mov (.t 20)⟩,
   ⟨(some 22), (some (21, false)), .faddr 3 (.t 1)⟩,
   ⟨(some 23), (some (21, false)), .load (some 7) (.t 22)⟩,
   ⟨(some 24), (some (21, false)), .call 80 [(.t 23)]⟩,
   ⟨(some 25), (some (21, false)), .un .not (.t 24)⟩,
   ⟨(some 26), none, .pick (.t 21) (.c (.kb true)) (.t 25)⟩,
   ⟨(some 27), none, .mov (.t 26)⟩,
   ⟨(some 28), (some (27, false)), .faddr 10 (.t 1)⟩,
   ⟨(some 29), (some (27, false)), .load none (.t 28)⟩,
   ⟨(some 30), (some (27, false)), .bin .lss .no (.t 29) (.c (.raw (.int .i64 0)))⟩,
   ⟨(some 31), none, .pick (.t 27) (.c (.kb true)) (.t 30)⟩,
   ⟨(some 32), none, .mov (.t 31)⟩,
   ⟨(some 33), (some (32, false)), .faddr 10 (.t 1)⟩,
   ⟨(some 34), (some (32, false)), .load none (.t 33)⟩,
   ⟨(some 35), (some (32, false)), .bin .gtr .no (.t 34) (.c (.raw (.int .i64 1000)))⟩,
   ⟨(some 36), none, .pick (.t 32) (.c (.kb true)) (.t 35)⟩])
 (.cond (.t 36)
  (.seq (.reg [⟨(some 2), none, .mov (.c (.kb false))⟩])
  .ret)
  .skip))
 (.seq (.seq (.draw [⟨(some 37), none, .faddr 0 (.t 1)⟩,
   ⟨(some 38), none, .load none (.t 37)⟩,
   ⟨(some 39), none, .bin .lss .no (.t 38) (.c (.raw (.int .i64 5)))⟩,
   ⟨(some 40), none, .mov (.t 39)⟩,
   ⟨(some 41), (some (40, true)), .faddr 1 (.t 1)⟩,
   ⟨(some 42), (some (40, true)), .faddr 0 (.t 41)⟩,
   ⟨(some 43), (some (40, true)), .load none (.t 42)⟩,
   ⟨(some 44), (some (40, true)), .faddr 3 (.t 1)⟩,
   ⟨(some 45), (some (40, true)), .iaddr 1 (some 7) (.t 44) (.t 43)⟩,
   ⟨(some 46), (some (40, true)), .load none (.t 45)⟩,
   ⟨(some 47), (some (40, true)), .faddr 1 (.t 1)⟩,
   ⟨(some 48), (some (40, true)), .faddr 1 (.t 47)⟩,
   ⟨(some 49), (some (40, true)), .load none (.t 48)⟩,
   ⟨(some 50), (some (40, true)), .bin .sub .no (.t 49) (.c (.raw (.int .i64 1)))⟩,
   ⟨(some 51), (some (40, true)), .bin .neq .no (.t 46) (.t 50)⟩,
   ⟨(some 52), none, .pick (.t 40) (.t 51) (.c (.kb false))⟩]
   (.fl 0 (.fr 1 (.fl 2 (.fl 3 (.fl 4 (.fl 5 (.fr 6 (.fl 7 (.fr 8 (.fr 9 (.fl 10 (.fl 11 (.fr 12 (.fl 13 (.fl 14 (.fl 15 .done)))))))))))))))))
 (.cond (.t 52)
  (.seq (.reg [⟨(some 2), none, .mov (.c (.kb false))⟩])
  .ret)
  .skip))
 (.seq (.reg [⟨(some 53), none, .build [(.int .i64 0), (.int .i64 0)] []⟩,
   ⟨(some 3), none, .new 23 [(.int .i64 0), (.int .i64 0)]⟩,
   ⟨none, none, .store (some 2) (.t 3) (.t 53)⟩])
 (.seq (.seq (.reg [⟨(some 54), none, .faddr 0 (.t 1)⟩,
   ⟨(some 55), none, .load none (.t 54)⟩,
   ⟨(some 56), none, .bin .eql .no (.t 55) (.c (.raw (.int .i64 1)))⟩,
   ⟨(some 57), none, .mov (.t 56)⟩,
   ⟨(some 58), (some (57, true)), .faddr 11 (.t 1)⟩,
   ⟨(some 59), (some (57, true)), .load none (.t 58)⟩,
   ⟨(some 60), (some (57, true)), .call 81 [(.t 59)]⟩,
   ⟨(some 61), (some (57, true)), .un .not (.t 60)⟩,
   ⟨(some 62), none, .pick (.t 57) (.t 61) (.c (.kb false))⟩,
   ⟨(some 63), none, .mov (.t 62)⟩,
   ⟨(some 64), (some (63, false)), .faddr 0 (.t 1)⟩,
   ⟨(some 65), (some (63, false)), .load none (.t 64)⟩,
   ⟨(some 66), (some (63, false)), .bin .neq .no (.t 65) (.c (.raw (.int .i64 1)))⟩,
   ⟨(some 67), (some (63, false)), .mov (.t 66)⟩,
   ⟨(some 68), (some (67, true)), .faddr 11 (.t 1)⟩,
   ⟨(some 69), (some (67, true)), .load none (.t 68)⟩,
   ⟨(some 70), (some (67, true)), .bin .neq .no (.t 69) (.c (.raw (.string (ByteArray.mk #[]))))⟩,
   ⟨(some 71), (some (63, false)), .pick (.t 67) (.t 70) (.c (.kb false))⟩,
   ⟨(some 72), none, .pick (.t 63) (.c (.kb true)) (.t 71)⟩])
 (.cond (.t 72)
  (.seq (.reg [⟨(some 2), none, .mov (.c (.kb false))⟩])
  .ret)
  .skip))
 (.seq (.reg [⟨(some 73), none, .faddr 0 (.t 1)⟩,
   ⟨(some 74), none, .load none (.t 73)⟩,
   ⟨(some 75), none, .bin .eql .no (.t 74) (.c (.raw (.int .i64 2)))⟩,
   ⟨(some 76), none, .mov (.t 75)⟩,
   ⟨(some 77), (some (76, false)), .faddr 0 (.t 1)⟩,
   ⟨(some 78), (some (76, false)), .load none (.t 77)⟩,
   ⟨(some 79), (some (76, false)), .bin .eql .no (.t 78) (.c (.raw (.int .i64 4)))⟩,
   ⟨(some 80), none, .pick (.t 76) (.c (.kb true)) (.t 79)⟩,
   ⟨(some 81), none, .mov (.t 80)⟩,
   ⟨(some 82), (some (81, false)), .faddr 0 (.t 1)⟩,
   ⟨(some 83), (some (81, false)), .load none (.t 82)⟩,
   ⟨(some 84), (some (81, false)), .bin .eql .no (.t 83) (.c (.raw (.int .i64 5)))⟩,
   ⟨(some 85), none, .pick (.t 81) (.c (.kb true)) (.t 84)⟩,
   ⟨(some 86), none, .mov (.t 85)⟩,
   ⟨(some 87), (some (86, false)), .faddr 0 (.t 1)⟩,
   ⟨(some 88), (some (86, false)), .load none (.t 87)⟩,
   ⟨(some 89), (some (86, false)), .bin .eql .no (.t 88) (.c (.raw (.int .i64 6)))⟩,
   ⟨(some 90), none, .pick (.t 86) (.c (.kb true)) (.t 89)⟩,
   ⟨(some 4), none, .mov (.t 90)⟩])
 (.seq (.seq (.reg [⟨(some 91), none, .mov (.t 4)⟩,
   ⟨(some 92), none, .mov (.t 91)⟩,
   ⟨(some 93), (some (92, true)), .faddr 12 (.t 1)⟩,
   ⟨(some 94), (some (92, true)), .load none (.t 93)⟩,
   ⟨(some 95), (some (92, true)), .call 81 [(.t 94)]⟩,
   ⟨(some 96), (some (92, true)), .un .not (.t 95)⟩,
   ⟨(some 97), none, .pick (.t 92) (.t 96) (.c (.kb false))⟩,
   ⟨(some 98), none, .mov (.t 97)⟩,
   ⟨(some 99), (some (98, false)), .mov (.t 4)⟩,
   ⟨(some 100), (some (98, false)), .un .not (.t 99)⟩,
   ⟨(some 101), (some (98, false)), .mov (.t 100)⟩,
   ⟨(some 102), (some (101, true)), .faddr 12 (.t 1)⟩,
   ⟨(some 103), (some (101, true)), .load none (.t 102)⟩,
   ⟨(some 104), (some (101, true)), .bin .neq .no (.t 103) (.c (.raw (.string (ByteArray.mk #[]))))⟩,
   ⟨(some 105), (some (98, false)), .pick (.t 101) (.t 104) (.c (.kb false))⟩,
   ⟨(some 106), none, .pick (.t 98) (.c (.kb true)) (.t 105)⟩])
 (.cond (.t 106)
  (.seq (.reg [⟨(some 2), none, .mov (.c (.kb false))⟩])
  .ret)
  .skip))
 (.seq (.reg [⟨(some 107), none, .faddr 0 (.t 1)⟩,
   ⟨(some 108), none, .load none (.t 107)⟩,
   ⟨(some 109), none, .bin .eql .no (.t 108) (.c (.raw (.int .i64 2)))⟩,
   ⟨(some 110), none, .mov (.t 109)⟩,
   ⟨(some 111), (some (110, false)), .faddr 0 (.t 1)⟩,
   ⟨(some 112), (some (110, false)), .load none (.t 111)⟩,
   ⟨(some 113), (some (110, false)), .bin .eql .no (.t 112) (.c (.raw (.int .i64 7)))⟩,
   ⟨(some 114), none, .pick (.t 110) (.c (.kb true)) (.t 113)⟩,
   ⟨(some 5), none, .mov (.t 114)⟩])
 (.seq (.seq (.reg [⟨(some 115), none, .mov (.t 5)⟩,
   ⟨(some 116), none, .mov (.t 115)⟩,
   ⟨(some 117), (some (116, true)), .faddr 13 (.t 1)⟩,
   ⟨(some 118), (some (116, true)), .load (some 2) (.t 117)⟩,
   ⟨(some 119), (some (116, true)), .call 79 [(.t 118)]⟩,
   ⟨(some 120), (some (116, true)), .un .not (.t 119)⟩,
   ⟨(some 121), none, .pick (.t 116) (.t 120) (.c (.kb false))⟩,
   ⟨(some 122), none, .mov (.t 121)⟩,
   ⟨(some 123), (some (122, false)), .mov (.t 5)⟩,
   ⟨(some 124), (some (122, false)), .un .not (.t 123)⟩,
   ⟨(some 125), (some (122, false)), .mov (.t 124)⟩,
   ⟨(some 126), (some (125, true)), .faddr 13 (.t 1)⟩,
   ⟨(some 127), (some (125, true)), .load (some 2) (.t 126)⟩,
   ⟨(some 128), (some (125, true)), .load (some 2) (.t 3)⟩,
   ⟨(some 129), (some (125, true)), .bin .neq (.agg [.i, .i]) (.t 127) (.t 128)⟩,
   ⟨(some 130), (some (122, false)), .pick (.t 125) (.t 129) (.c (.kb false))⟩,
   ⟨(some 131), none, .pick (.t 122) (.c (.kb true)) (.t 130)⟩])
 (.cond (.t 131)
  (.seq (.reg [⟨(some 2), none, .mov (.c (.kb false))⟩])
  .ret)
  .skip))
 (.seq (.seq (.reg [⟨(some 132), none, .faddr 0 (.t 1)⟩,
   ⟨(some 133), none, .load none (.t 132)⟩,
   ⟨(some 134), none, .bin .eql .no (.t 133) (.c (.raw (.int .i64 3)))⟩,
   ⟨(some 135), none, .mov (.t 134)⟩,
   ⟨(some 136), (some (135, true)), .faddr 15 (.t 1)⟩,
   ⟨(some 137), (some (135, true)), .load (some 2) (.t 136)⟩,
   ⟨(some 138), (some (135, true)), .call 79 [(.t 137)]⟩,
   ⟨(some 139), (some (135, true)), .un .not (.t 138)⟩,
   ⟨(some 140), none, .pick (.t 135) (.t 139) (.c (.kb false))⟩,
   ⟨(some 141), none, .mov (.t 140)⟩,
   ⟨(some 142), (some (141, false)), .faddr 0 (.t 1)⟩,
   ⟨(some 143), (some (141, false)), .load none (.t 142)⟩,
   ⟨(some 144), (some (141, false)), .bin .neq .no (.t 143) (.c (.raw (.int .i64 3)))⟩,
   ⟨(some 145), (some (141, false)), .mov (.t 144)⟩,
   ⟨(some 146), (some (145, true)), .faddr 15 (.t 1)⟩,
   ⟨(some 147), (some (145, true)), .load (some 2) (.t 146)⟩,
   ⟨(some 148), (some (145, true)), .load (some 2) (.t 3)⟩,
   ⟨(some 149), (some (145, true)), .bin .neq (.agg [.i, .i]) (.t 147) (.t 148)⟩,
   ⟨(some 150), (some (141, false)), .pick (.t 145) (.t 149) (.c (.kb false))⟩,
   ⟨(some 151), none, .pick (.t 141) (.c (.kb true)) (.t 150)⟩])
 (.cond (.t 151)
  (.seq (.reg [⟨(some 2), none, .mov (.c (.kb false))⟩])
  .ret)
  .skip))
 (.seq (.reg [⟨(some 152), none, .faddr 0 (.t 1)⟩,
   ⟨(some 153), none, .load none (.t 152)⟩,
   ⟨(some 154), none, .bin .eql .no (.t 153) (.c (.raw (.int .i64 2)))⟩,
   ⟨(some 155), none, .mov (.t 154)⟩,
   ⟨(some 156), (some (155, false)), .faddr 0 (.t 1)⟩,
   ⟨(some 157), (some (155, false)), .load none (.t 156)⟩,
   ⟨(some 158), (some (155, false)), .bin .eql .no (.t 157) (.c (.raw (.int .i64 4)))⟩,
   ⟨(some 159), none, .pick (.t 155) (.c (.kb true)) (.t 158)⟩,
   ⟨(some 160), none, .mov (.t 159)⟩,
   ⟨(some 161), (some (160, false)), .faddr 0 (.t 1)⟩,
   ⟨(some 162), (some (160, false)), .load none (.t 161)⟩,
   ⟨(some 163), (some (160, false)), .bin .eql .no (.t 162) (.c (.raw (.int .i64 6)))⟩,
   ⟨(some 164), none, .pick (.t 160) (.c (.kb true)) (.t 163)⟩,
   ⟨(some 6), none, .mov (.t 164)⟩])
 (.seq (.seq (.reg [⟨(some 165), none, .mov (.t 6)⟩,
   ⟨(some 166), none, .mov (.t 165)⟩,
   ⟨(some 167), (some (166, true)), .faddr 17 (.t 1)⟩,
   ⟨(some 168), (some (166, true)), .load none (.t 167)⟩,
   ⟨(some 169), (some (166, true)), .bin .lss .no (.t 168) (.c (.raw (.int .i64 1)))⟩,
   ⟨(some 170), (some (166, true)), .mov (.t 169)⟩,
   ⟨(some 171), (some (170, false)), .faddr 17 (.t 1)⟩,
   ⟨(some 172), (some (170, false)), .load none (.t 171)⟩,
   ⟨(some 173), (some (170, false)), .bin .gtr .no (.t 172) (.c (.raw (.int .i64 1000000000)))⟩,
   ⟨(some 174), (some (166, true)), .pick (.t 170) (.c (.kb true)) (.t 173)⟩,
   ⟨(some 175), none, .pick (.t 166) (.t 174) (.c (.kb false))⟩,
   ⟨(some 176), none, .mov (.t 175)⟩,
   ⟨(some 177), (some (176, false)), .mov (.t 6)⟩,
   ⟨(some 178), (some (176, false)), .un .not (.t 177)⟩,
   ⟨(some 179), (some (176, false)), .mov (.t 178)⟩,
   ⟨(some 180), (some (179, true)), .faddr 17 (.t 1)⟩,
   ⟨(some 181), (some (179, true)), .load none (.t 180)⟩,
   ⟨(some 182), (some (179, true)), .bin .neq .no (.t 181) (.c (.raw (.int .i64 0)))⟩,
   ⟨(some 183), (some (176, false)), .pick (.t 179) (.t 182) (.c (.kb false))⟩,
   ⟨(some 184), none, .pick (.t 176) (.c (.kb true)) (.t 183)⟩])
 (.cond (.t 184)
  (.seq (.reg [⟨(some 2), none, .mov (.c (.kb false))⟩])
  .ret)
  .skip))
 (.seq (.reg [⟨(some 185), none, .faddr 0 (.t 1)⟩,
   ⟨(some 186), none, .load none (.t 185)⟩,
   ⟨(some 187), none, .bin .eql .no (.t 186) (.c (.raw (.int .i64 6)))⟩,
   ⟨(some 188), none, .mov (.t 187)⟩,
   ⟨(some 189), (some (188, true)), .faddr 18 (.t 1)⟩,
   ⟨(some 190), (some (188, true)), .load none (.t 189)⟩,
   ⟨(some 191), (some (188, true)), .bin .geq .no (.t 190) (.c (.raw (.int .i64 0)))⟩,
   ⟨(some 192), none, .pick (.t 188) (.t 191) (.c (.kb false))⟩,
   ⟨(some 193), none, .mov (.t 192)⟩,
   ⟨(some 194), (some (193, true)), .faddr 18 (.t 1)⟩,
   ⟨(some 195), (some (193, true)), .load none (.t 194)⟩,
   ⟨(some 196), (some (193, true)), .bin .leq .no (.t 195) (.c (.raw (.int .i64 1125899906842624)))⟩,
   ⟨(some 197), none, .pick (.t 193) (.t 196) (.c (.kb false))⟩,
   ⟨(some 198), none, .mov (.t 197)⟩,
   ⟨(some 199), (some (198, false)), .faddr 0 (.t 1)⟩,
   ⟨(some 200), (some (198, false)), .load none (.t 199)⟩,
   ⟨(some 201), (some (198, false)), .bin .neq .no (.t 200) (.c (.raw (.int .i64 6)))⟩,
   ⟨(some 202), (some (198, false)), .mov (.t 201)⟩,
   ⟨(some 203), (some (202, true)), .faddr 18 (.t 1)⟩,
   ⟨(some 204), (some (202, true)), .load none (.t 203)⟩,
   ⟨(some 205), (some (202, true)), .bin .eql .no (.t 204) (.c (.raw (.int .i64 0)))⟩,
   ⟨(some 206), (some (198, false)), .pick (.t 202) (.t 205) (.c (.kb false))⟩,
   ⟨(some 207), none, .pick (.t 198) (.c (.kb true)) (.t 206)⟩,
   ⟨(some 2), none, .mov (.t 207)⟩])
 .ret)))))))))))))
theorem i_rostrumref24_Good : Is Tryz.prog 38 208 [.t 2] c_rostrumref24_Good := ⟨Tryz.f38, _, p_rostrumref24_Good, rfl, rfl, by kernel_rfl, by kernel_rfl, rfl⟩
def p_pack_Num : List (Nat × Pl) := []
def c_pack_Num : VCode :=
 (.seq (.reg [⟨(some 4), none, .mov (.c (.raw (.slice none 0 0)))⟩])
 (.seq (.reg [⟨(some 7), none, .mov (.t 0)⟩,
   ⟨(some 8), none, .call 74 [(.t 7)]⟩,
   ⟨(some 5), none, .mov (.t 8)⟩])
 (.seq (.reg [⟨(some 9), none, .mov (.t 1)⟩,
   ⟨(some 10), none, .conv (.int .u64) (.t 9)⟩,
   ⟨(some 11), none, .bin .shl .no (.t 10) (.c (.raw (.int .u64 1)))⟩,
   ⟨(some 12), none, .mov (.t 1)⟩,
   ⟨(some 13), none, .bin .shr .no (.t 12) (.c (.raw (.int .u64 63)))⟩,
   ⟨(some 14), none, .conv (.int .u64) (.t 13)⟩,
   ⟨(some 15), none, .bin .xor .no (.t 11) (.t 14)⟩,
   ⟨(some 6), none, .mov (.t 15)⟩])
 (.seq (.block 0 (.loop (.seq (.seq (.reg [⟨(some 16), none, .mov (.t 6)⟩,
    ⟨(some 17), none, .bin .geq .no (.t 16) (.c (.raw (.int .u64 128)))⟩])
  (.cond (.t 17)
   .skip
   (.exit 0)))
  (.seq (.block 1 (.reg [⟨(some 20), none, .mov (.t 5)⟩,
    ⟨(some 21), none, .mov (.t 6)⟩,
    ⟨(some 22), none, .conv (.int .u8) (.t 21)⟩,
    ⟨(some 23), none, .bin .or .no (.t 22) (.c (.raw (.int .u8 128)))⟩,
    ⟨(some 24), none, .bslice 5 1 [(.int .u8 0)] [(0, 1, (.t 23))]⟩,
    ⟨(some 25), none, .append 5 1 1 [(.int .u8 0)] (.t 20) (.t 24)⟩,
    ⟨(some 5), none, .mov (.t 25)⟩]))
  (.reg [⟨(some 18), none, .mov (.t 6)⟩,
    ⟨(some 19), none, .bin .shr .no (.t 18) (.c (.raw (.int .u64 7)))⟩,
    ⟨(some 6), none, .mov (.t 19)⟩])))))
 (.seq (.reg [⟨(some 26), none, .mov (.t 5)⟩,
   ⟨(some 27), none, .mov (.t 6)⟩,
   ⟨(some 28), none, .conv (.int .u8) (.t 27)⟩,
   ⟨(some 29), none, .bslice 5 1 [(.int .u8 0)] [(0, 1, (.t 28))]⟩,
   ⟨(some 30), none, .append 5 1 1 [(.int .u8 0)] (.t 26) (.t 29)⟩,
   ⟨(some 4), none, .mov (.t 30)⟩])
 .ret)))))
theorem i_pack_Num : Is Tryz.prog 39 31 [.t 4] c_pack_Num := ⟨Tryz.f39, _, p_pack_Num, rfl, rfl, by kernel_rfl, by kernel_rfl, rfl⟩
def p_vec_Put : List (Nat × Pl) := []
def c_vec_Put : VCode :=
 (.seq (.reg [⟨(some 3), none, .box 25 (.t 1)⟩,
   ⟨(some 4), none, .mov (.c (.raw (.slice none 0 0)))⟩])
 (.seq (.seq (.reg [⟨(some 7), none, .load (some 7) (.t 3)⟩,
   ⟨(some 8), none, .mov (.c (.raw (.int .i64 0)))⟩])
 (.block 0 (.loop (.seq (.reg [⟨(some 9), none, .bin .lss .no (.t 8) (.c (.raw (.int .i64 7)))⟩])
  (.seq (.cond (.t 9)
   .skip
   (.exit 0))
  (.seq (.block 1 (.seq (.reg [⟨(some 10), none, .aindex 7 1 false (.t 7) (.t 8)⟩,
    ⟨(some 6), none, .mov (.t 10)⟩])
  (.reg [⟨(some 11), none, .mov (.t 0)⟩,
    ⟨(some 12), none, .mov (.t 6)⟩,
    ⟨(some 13), none, .call 39 [(.t 11), (.t 12)]⟩,
    ⟨(some 0), none, .mov (.t 13)⟩])))
  (.reg [⟨(some 14), none, .bin .add .no (.t 8) (.c (.raw (.int .i64 1)))⟩,
    ⟨(some 8), none, .mov (.t 14)⟩])))))))
 (.seq (.reg [⟨(some 15), none, .mov (.t 0)⟩,
   ⟨(some 4), none, .mov (.t 15)⟩])
 .ret)))
theorem i_vec_Put : Is Tryz.prog 40 16 [.t 4] c_vec_Put := ⟨Tryz.f40, _, p_vec_Put, rfl, rfl, by kernel_rfl, by kernel_rfl, rfl⟩
def p_pack_Text : List (Nat × Pl) := []
def c_pack_Text : VCode :=
 (.seq (.reg [⟨(some 4), none, .mov (.c (.raw (.slice none 0 0)))⟩])
 (.seq (.reg [⟨(some 5), none, .mov (.t 0)⟩,
   ⟨(some 6), none, .mov (.t 1)⟩,
   ⟨(some 7), none, .conv (.s2b 5) (.t 6)⟩,
   ⟨(some 8), none, .call 82 [(.t 5), (.t 7)]⟩,
   ⟨(some 4), none, .mov (.t 8)⟩])
 .ret))
theorem i_pack_Text : Is Tryz.prog 41 9 [.t 4] c_pack_Text := ⟨Tryz.f41, _, p_pack_Text, rfl, rfl, by kernel_rfl, by kernel_rfl, rfl⟩
def p_vec_Dot : List (Nat × Pl) := []
def c_vec_Dot : VCode :=
 (.seq (.reg [⟨(some 1), none, .box 23 (.t 0)⟩,
   ⟨(some 2), none, .mov (.c (.kb false))⟩])
 (.seq (.reg [⟨(some 3), none, .faddr 0 (.t 1)⟩,
   ⟨(some 4), none, .load none (.t 3)⟩,
   ⟨(some 5), none, .call 83 [(.t 4)]⟩,
   ⟨(some 6), none, .mov (.t 5)⟩,
   ⟨(some 7), (some (6, true)), .faddr 1 (.t 1)⟩,
   ⟨(some 8), (some (6, true)), .load none (.t 7)⟩,
   ⟨(some 9), (some (6, true)), .bin .geq .no (.t 8) (.c (.raw (.int .i64 1)))⟩,
   ⟨(some 10), none, .pick (.t 6) (.t 9) (.c (.kb false))⟩,
   ⟨(some 11), none, .mov (.t 10)⟩,
   ⟨(some 12), (some (11, true)), .faddr 1 (.t 1)⟩,
   ⟨(some 13), (some (11, true)), .load none (.t 12)⟩,
   ⟨(some 14), (some (11, true)), .bin .leq .no (.t 13) (.c (.raw (.int .i64 1099511627776)))⟩,
   ⟨(some 15), none, .pick (.t 11) (.t 14) (.c (.kb false))⟩,
   ⟨(some 2), none, .mov (.t 15)⟩])
 .ret))
theorem i_vec_Dot : Is Tryz.prog 45 16 [.t 2] c_vec_Dot := ⟨Tryz.f45, _, p_vec_Dot, rfl, rfl, by kernel_rfl, by kernel_rfl, rfl⟩
def p_vec_Good : List (Nat × Pl) := []
def c_vec_Good : VCode :=
 (.seq (.reg [⟨(some 1), none, .box 25 (.t 0)⟩,
   ⟨(some 2), none, .mov (.c (.kb false))⟩])
 (.seq (.seq (.reg [⟨(some 5), none, .load (some 7) (.t 1)⟩,
   ⟨(some 6), none, .mov (.c (.raw (.int .i64 0)))⟩])
 (.block 0 (.loop (.seq (.reg [⟨(some 7), none, .bin .lss .no (.t 6) (.c (.raw (.int .i64 7)))⟩])
  (.seq (.cond (.t 7)
   .skip
   (.exit 0))
  (.seq (.block 1 (.seq (.reg [⟨(some 8), none, .aindex 7 1 false (.t 5) (.t 6)⟩,
    ⟨(some 4), none, .mov (.t 8)⟩])
  (.seq (.reg [⟨(some 9), none, .mov (.t 4)⟩,
    ⟨(some 10), none, .bin .lss .no (.t 9) (.c (.raw (.int .i64 0)))⟩,
    ⟨(some 11), none, .mov (.t 10)⟩,
    ⟨(some 12), (some (11, false)), .mov (.t 4)⟩,
    ⟨(some 13), (some (11, false)), .bin .gtr .no (.t 12) (.c (.raw (.int .i64 1099511627776)))⟩,
    ⟨(some 14), none, .pick (.t 11) (.c (.kb true)) (.t 13)⟩])
  (.cond (.t 14)
   (.seq (.reg [⟨(some 2), none, .mov (.c (.kb false))⟩])
   .ret)
   .skip))))
  (.reg [⟨(some 15), none, .bin .add .no (.t 6) (.c (.raw (.int .i64 1)))⟩,
    ⟨(some 6), none, .mov (.t 15)⟩])))))))
 (.seq (.reg [⟨(some 2), none, .mov (.c (.kb true))⟩])
 .ret)))
theorem i_vec_Good : Is Tryz.prog 46 16 [.t 2] c_vec_Good := ⟨Tryz.f46, _, p_vec_Good, rfl, rfl, by kernel_rfl, by kernel_rfl, rfl⟩
def p_auct_needs : List (Nat × Pl) := []
def c_auct_needs : VCode :=
 (.seq (.reg [⟨(some 2), none, .mov (.c (.kb false))⟩,
   ⟨(some 3), none, .mov (.c (.kb false))⟩,
   ⟨(some 4), none, .mov (.c (.kb false))⟩,
   ⟨(some 5), none, .mov (.c (.kb false))⟩,
   ⟨(some 6), none, .mov (.c (.kb false))⟩,
   ⟨(some 7), none, .mov (.c (.kb false))⟩])
 (.seq (.reg [⟨(some 8), none, .mov (.t 0)⟩,
   ⟨(some 9), none, .bin .eql .no (.t 8) (.c (.raw (.int .i64 1)))⟩,
   ⟨(some 2), none, .mov (.t 9)⟩])
 (.seq (.reg [⟨(some 10), none, .mov (.t 0)⟩,
   ⟨(some 11), none, .bin .eql .no (.t 10) (.c (.raw (.int .i64 2)))⟩,
   ⟨(some 12), none, .mov (.t 11)⟩,
   ⟨(some 13), (some (12, false)), .mov (.t 0)⟩,
   ⟨(some 14), (some (12, false)), .bin .eql .no (.t 13) (.c (.raw (.int .i64 4)))⟩,
   ⟨(some 15), none, .pick (.t 12) (.c (.kb true)) (.t 14)⟩,
   ⟨(some 16), none, .mov (.t 15)⟩,
   ⟨(some 17), (some (16, false)), .mov (.t 0)⟩,
   ⟨(some 18), (some (16, false)), .bin .eql .no (.t 17) (.c (.raw (.int .i64 5)))⟩,
   ⟨(some 19), none, .pick (.t 16) (.c (.kb true)) (.t 18)⟩,
   ⟨(some 20), none, .mov (.t 19)⟩,
   ⟨(some 21), (some (20, false)), .mov (.t 0)⟩,
   ⟨(some 22), (some (20, false)), .bin .eql .no (.t 21) (.c (.raw (.int .i64 6)))⟩,
   ⟨(some 23), none, .pick (.t 20) (.c (.kb true)) (.t 22)⟩,
   ⟨(some 3), none, .mov (.t 23)⟩])
 (.seq (.reg [⟨(some 24), none, .mov (.t 0)⟩,
   ⟨(some 25), none, .bin .eql .no (.t 24) (.c (.raw (.int .i64 2)))⟩,
   ⟨(some 26), none, .mov (.t 25)⟩,
   ⟨(some 27), (some (26, false)), .mov (.t 0)⟩,
   ⟨(some 28), (some (26, false)), .bin .eql .no (.t 27) (.c (.raw (.int .i64 7)))⟩,
   ⟨(some 29), none, .pick (.t 26) (.c (.kb true)) (.t 28)⟩,
   ⟨(some 4), none, .mov (.t 29)⟩])
 (.seq (.reg [⟨(some 30), none, .mov (.t 0)⟩,
   ⟨(some 31), none, .bin .eql .no (.t 30) (.c (.raw (.int .i64 3)))⟩,
   ⟨(some 5), none, .mov (.t 31)⟩])
 (.seq (.reg [⟨(some 32), none, .mov (.t 0)⟩,
   ⟨(some 33), none, .bin .eql .no (.t 32) (.c (.raw (.int .i64 2)))⟩,
   ⟨(some 34), none, .mov (.t 33)⟩,
   ⟨(some 35), (some (34, false)), .mov (.t 0)⟩,
   ⟨(some 36), (some (34, false)), .bin .eql .no (.t 35) (.c (.raw (.int .i64 4)))⟩,
   ⟨(some 37), none, .pick (.t 34) (.c (.kb true)) (.t 36)⟩,
   ⟨(some 38), none, .mov (.t 37)⟩,
   ⟨(some 39), (some (38, false)), .mov (.t 0)⟩,
   ⟨(some 40), (some (38, false)), .bin .eql .no (.t 39) (.c (.raw (.int .i64 6)))⟩,
   ⟨(some 41), none, .pick (.t 38) (.c (.kb true)) (.t 40)⟩,
   ⟨(some 6), none, .mov (.t 41)⟩])
 (.seq (.reg [⟨(some 42), none, .mov (.t 0)⟩,
   ⟨(some 43), none, .bin .eql .no (.t 42) (.c (.raw (.int .i64 6)))⟩,
   ⟨(some 7), none, .mov (.t 43)⟩])
 (.seq (.reg [⟨(some 44), none, .mov (.t 2)⟩,
   ⟨(some 45), none, .mov (.t 3)⟩,
   ⟨(some 46), none, .mov (.t 4)⟩,
   ⟨(some 47), none, .mov (.t 5)⟩,
   ⟨(some 48), none, .mov (.t 6)⟩,
   ⟨(some 49), none, .mov (.t 7)⟩,
   ⟨(some 2), none, .mov (.t 44)⟩,
   ⟨(some 3), none, .mov (.t 45)⟩,
   ⟨(some 4), none, .mov (.t 46)⟩,
   ⟨(some 5), none, .mov (.t 47)⟩,
   ⟨(some 6), none, .mov (.t 48)⟩,
   ⟨(some 7), none, .mov (.t 49)⟩])
 .ret))))))))
theorem i_auct_needs : Is Tryz.prog 47 50 [.t 2, .t 3, .t 4, .t 5, .t 6, .t 7] c_auct_needs := ⟨Tryz.f47, _, p_auct_needs, rfl, rfl, by kernel_rfl, by kernel_rfl, rfl⟩
def p_auct_word : List (Nat × Pl) := []
def c_auct_word : VCode :=
 (.seq (.reg [⟨(some 4), none, .mov (.c (.kb false))⟩])
 (.seq (.reg [⟨(some 5), none, .mov (.t 1)⟩,
   ⟨(some 6), none, .mov (.t 5)⟩,
   ⟨(some 7), (some (6, true)), .mov (.t 0)⟩,
   ⟨(some 8), (some (6, true)), .call 84 [(.t 7)]⟩,
   ⟨(some 9), none, .pick (.t 6) (.t 8) (.c (.kb false))⟩,
   ⟨(some 10), none, .mov (.t 9)⟩,
   ⟨(some 11), (some (10, false)), .mov (.t 1)⟩,
   ⟨(some 12), (some (10, false)), .un .not (.t 11)⟩,
   ⟨(some 13), (some (10, false)), .mov (.t 12)⟩,
   ⟨(some 14), (some (13, true)), .mov (.t 0)⟩,
   ⟨(some 15), (some (13, true)), .bin .eql .no (.t 14) (.c (.raw (.string (ByteArray.mk #[]))))⟩,
   ⟨(some 16), (some (10, false)), .pick (.t 13) (.t 15) (.c (.kb false))⟩,
   ⟨(some 17), none, .pick (.t 10) (.c (.kb true)) (.t 16)⟩,
   ⟨(some 4), none, .mov (.t 17)⟩])
 .ret))
theorem i_auct_word : Is Tryz.prog 48 18 [.t 4] c_auct_word := ⟨Tryz.f48, _, p_auct_word, rfl, rfl, by kernel_rfl, by kernel_rfl, rfl⟩
def p_auct_point : List (Nat × Pl) := []
def c_auct_point : VCode :=
 (.seq (.reg [⟨(some 2), none, .box 23 (.t 0)⟩,
   ⟨(some 4), none, .mov (.c (.kb false))⟩])
 (.seq (.reg [⟨(some 5), none, .mov (.t 1)⟩,
   ⟨(some 6), none, .mov (.t 5)⟩,
   ⟨(some 7), (some (6, true)), .load (some 2) (.t 2)⟩,
   ⟨(some 8), (some (6, true)), .call 45 [(.t 7)]⟩,
   ⟨(some 9), none, .pick (.t 6) (.t 8) (.c (.kb false))⟩,
   ⟨(some 10), none, .mov (.t 9)⟩,
   ⟨(some 11), (some (10, false)), .mov (.t 1)⟩,
   ⟨(some 12), (some (10, false)), .un .not (.t 11)⟩,
   ⟨(some 13), (some (10, false)), .mov (.t 12)⟩,
   ⟨(some 14), (some (13, true)), .load (some 2) (.t 2)⟩,
   ⟨(some 15), (some (13, true)), .build [(.int .i64 0), (.int .i64 0)] []⟩,
   ⟨(some 16), (some (13, true)), .bin .eql (.agg [.i, .i]) (.t 14) (.t 15)⟩,
   ⟨(some 17), (some (10, false)), .pick (.t 13) (.t 16) (.c (.kb false))⟩,
   ⟨(some 18), none, .pick (.t 10) (.c (.kb true)) (.t 17)⟩,
   ⟨(some 4), none, .mov (.t 18)⟩])
 .ret))
theorem i_auct_point : Is Tryz.prog 49 19 [.t 4] c_auct_point := ⟨Tryz.f49, _, p_auct_point, rfl, rfl, by kernel_rfl, by kernel_rfl, rfl⟩
def p_auct_number : List (Nat × Pl) := []
def c_auct_number : VCode :=
 (.seq (.reg [⟨(some 8), none, .mov (.c (.kb false))⟩])
 (.seq (.reg [⟨(some 9), none, .mov (.t 3)⟩,
   ⟨(some 10), none, .mov (.t 9)⟩,
   ⟨(some 11), (some (10, true)), .mov (.t 0)⟩,
   ⟨(some 12), (some (10, true)), .mov (.t 1)⟩,
   ⟨(some 13), (some (10, true)), .bin .geq .no (.t 11) (.t 12)⟩,
   ⟨(some 14), none, .pick (.t 10) (.t 13) (.c (.kb false))⟩,
   ⟨(some 15), none, .mov (.t 14)⟩,
   ⟨(some 16), (some (15, true)), .mov (.t 0)⟩,
   ⟨(some 17), (some (15, true)), .mov (.t 2)⟩,
   ⟨(some 18), (some (15, true)), .bin .leq .no (.t 16) (.t 17)⟩,
   ⟨(some 19), none, .pick (.t 15) (.t 18) (.c (.kb false))⟩,
   ⟨(some 20), none, .mov (.t 19)⟩,
   ⟨(some 21), (some (20, false)), .mov (.t 3)⟩,
   ⟨(some 22), (some (20, false)), .un .not (.t 21)⟩,
   ⟨(some 23), (some (20, false)), .mov (.t 22)⟩,
   ⟨(some 24), (some (23, true)), .mov (.t 0)⟩,
   ⟨(some 25), (some (23, true)), .bin .eql .no (.t 24) (.c (.raw (.int .i64 0)))⟩,
   ⟨(some 26), (some (20, false)), .pick (.t 23) (.t 25) (.c (.kb false))⟩,
   ⟨(some 27), none, .pick (.t 20) (.c (.kb true)) (.t 26)⟩,
   ⟨(some 8), none, .mov (.t 27)⟩])
 .ret))
theorem i_auct_number : Is Tryz.prog 50 28 [.t 8] c_auct_number := ⟨Tryz.f50, _, p_auct_number, rfl, rfl, by kernel_rfl, by kernel_rfl, rfl⟩
def p_auct_House_Deposited : List (Nat × Pl) := []
def c_auct_House_Deposited : VCode :=
 (.seq (.reg [⟨(some 4), none, .mov (.c (.raw (.int .i64 0)))⟩])
 (.seq (.reg [⟨(some 5), none, .mov (.c (.raw (.int .i64 0)))⟩])
 (.seq (.seq (.reg [⟨(some 8), none, .mov (.t 0)⟩,
   ⟨(some 9), none, .nilck (.t 8)⟩,
   ⟨(some 10), none, .faddr 7 (.t 9)⟩,
   ⟨(some 11), none, .load none (.t 10)⟩,
   ⟨(some 12), none, .range false (.t 11)⟩])
 (.block 0 (.loop (.seq (.reg [⟨(some 13), none, .next false (.t 12)⟩,
    ⟨(some 14), none, .extr (.t 13) 0⟩])
  (.seq (.cond (.t 14)
   .skip
   (.exit 0))
  (.block 1 (.seq (.reg [⟨(some 15), none, .entry (.t 12)⟩,
    ⟨(some 16), none, .extr (.t 15) 1⟩,
    ⟨(some 7), none, .new 27 [(.int .i64 0), (.int .i64 0), (.int .i64 0), (.int .i64 0), (.int .i64 0), (.int .i64 0), (.int .i64 0), (.int .i64 0), (.int .i64 0), (.int .i64 0), (.int .i64 0), (.string (ByteArray.mk #[])), (.string (ByteArray.mk #[])), (.int .i64 0), (.int .i64 0), (.int .i64 0), (.int .i64 0), (.int .i64 0), (.int .i64 0)]⟩,
    ⟨none, none, .store (some 19) (.t 7) (.t 16)⟩])
  (.seq (.reg [⟨(some 17), none, .faddr 0 (.t 7)⟩,
    ⟨(some 18), none, .load none (.t 17)⟩,
    ⟨(some 19), none, .bin .eql .no (.t 18) (.c (.raw (.int .i64 4)))⟩,
    ⟨(some 20), none, .mov (.t 19)⟩,
    ⟨(some 21), (some (20, true)), .faddr 12 (.t 7)⟩,
    ⟨(some 22), (some (20, true)), .load none (.t 21)⟩,
    ⟨(some 23), (some (20, true)), .call 54 [(.t 22)]⟩,
    ⟨(some 24), (some (20, true)), .mov (.t 1)⟩,
    ⟨(some 25), (some (20, true)), .call 54 [(.t 24)]⟩,
    ⟨(some 26), (some (20, true)), .bin .eql .no (.t 23) (.t 25)⟩,
    ⟨(some 27), none, .pick (.t 20) (.t 26) (.c (.kb false))⟩])
  (.cond (.t 27)
   (.reg [⟨(some 28), none, .mov (.t 5)⟩,
     ⟨(some 29), none, .faddr 17 (.t 7)⟩,
     ⟨(some 30), none, .load none (.t 29)⟩,
     ⟨(some 31), none, .bin .add .no (.t 28) (.t 30)⟩,
     ⟨(some 32), none, .min (.t 31) (.c (.raw (.int .i64 1125899906842624)))⟩,
     ⟨(some 5), none, .mov (.t 32)⟩])
   .skip)))))))))
 (.seq (.reg [⟨(some 33), none, .mov (.t 5)⟩,
   ⟨(some 4), none, .mov (.t 33)⟩])
 .ret))))
theorem i_auct_House_Deposited : Is Tryz.prog 51 34 [.t 4] c_auct_House_Deposited := ⟨Tryz.f51, _, p_auct_House_Deposited, rfl, rfl, by kernel_rfl, by kernel_rfl, rfl⟩
def p_gen_maker_refused : List (Nat × Pl) := [(18, (.fl 0 (.fr 1 (.fl 2 (.fl 3 (.fr 4 (.fl 6 (.fl 7 (.fr 8 (.st 5 [8] (.fl 9 .done)))))))))))]
def c_gen_maker_refused : VCode :=
 (.seq (.reg [⟨(some 1), none, .box 102 (.t 0)⟩,
   ⟨(some 2), none, .mov (.c (.raw (.int .i64 0)))⟩])
 (.seq (.seq (.reg [⟨(some 5), none, .faddr 1 (.t 1)⟩,
   ⟨(some 6), none, .faddr 0 (.t 5)⟩,
   ⟨(some 7), none, .load none (.t 6)⟩])
 (.block 0 (.seq (.reg [⟨(some 9), none, .bin .eql .no (.t 7) (.c (.raw (.int .i64 2)))⟩,
   ⟨(some 8), none, .mov (.t 9)⟩])
 (.cond (.t 8)
  (.seq (.seq (.reg [⟨(some 10), none, .load (some 20) (.t 1)⟩,
    ⟨(some 11), none, .faddr 1 (.t 1)⟩,
    ⟨(some 12), none, .faddr 13 (.t 11)⟩,
    ⟨(some 13), none, .load (some 2) (.t 12)⟩,
    ⟨(some 14), none, .call 85 [(.t 10), (.t 13)]⟩,
    ⟨(some 3), none, .mov (.t 14)⟩])
  (.seq (.reg [⟨(some 15), none, .mov (.t 3)⟩,
    ⟨(some 16), none, .bin .neq .no (.t 15) (.c (.raw (.int .i64 0)))⟩])
  (.cond (.t 16)
   (.seq (.reg [⟨(some 17), none, .mov (.t 3)⟩,
     ⟨(some 2), none, .mov (.t 17)⟩])
   .ret)
   .skip)))
  (.seq (.reg [⟨(some 18), none, .load (some 20) (.t 1)⟩,
    ⟨(some 19), none, .call 86 [(.t 18)]⟩,
    ⟨(some 2), none, .mov (.t 19)⟩])
  .ret))
  (.seq (.reg [⟨(some 21), none, .bin .eql .no (.t 7) (.c (.raw (.int .i64 3)))⟩,
    ⟨(some 20), none, .mov (.t 21)⟩])
  (.cond (.t 20)
   (.seq (.reg [⟨(some 22), none, .load (some 20) (.t 1)⟩,
     ⟨(some 23), none, .call 87 [(.t 22)]⟩,
     ⟨(some 2), none, .mov (.t 23)⟩])
   .ret)
   (.seq (.reg [⟨(some 25), none, .bin .eql .no (.t 7) (.c (.raw (.int .i64 4)))⟩,
     ⟨(some 24), none, .mov (.t 25)⟩])
   (.cond (.t 24)
    (.seq (.reg [⟨(some 26), none, .load (some 20) (.t 1)⟩,
      ⟨(some 27), none, .call 86 [(.t 26)]⟩,
      ⟨(some 2), none, .mov (.t 27)⟩])
    .ret)
    (.seq (.reg [⟨(some 29), none, .bin .eql .no (.t 7) (.c (.raw (.int .i64 5)))⟩,
      ⟨(some 28), none, .mov (.t 29)⟩])
    (.cond (.t 28)
     (.seq (.reg [⟨(some 30), none, .load (some 20) (.t 1)⟩,
       ⟨(some 31), none, .call 86 [(.t 30)]⟩,
       ⟨(some 32), none, .bin .eql .no (.t 31) (.c (.raw (.int .i64 0)))⟩])
     (.cond (.t 32)
      (.seq (.reg [⟨(some 2), none, .mov (.c (.raw (.int .i64 5)))⟩])
      .ret)
      .skip))
     (.seq (.reg [⟨(some 34), none, .bin .eql .no (.t 7) (.c (.raw (.int .i64 6)))⟩,
       ⟨(some 33), none, .mov (.t 34)⟩])
     (.cond (.t 33)
      (.seq (.seq (.reg [⟨(some 35), none, .load (some 20) (.t 1)⟩,
        ⟨(some 36), none, .call 86 [(.t 35)]⟩,
        ⟨(some 4), none, .mov (.t 36)⟩])
      (.seq (.reg [⟨(some 37), none, .mov (.t 4)⟩,
        ⟨(some 38), none, .bin .neq .no (.t 37) (.c (.raw (.int .i64 0)))⟩])
      (.cond (.t 38)
       (.seq (.reg [⟨(some 39), none, .mov (.t 4)⟩,
         ⟨(some 2), none, .mov (.t 39)⟩])
       .ret)
       .skip)))
      (.seq (.draw [⟨(some 40), none, .faddr 0 (.t 1)⟩,
        ⟨(some 41), none, .load none (.t 40)⟩,
        ⟨(some 42), none, .faddr 1 (.t 1)⟩,
        ⟨(some 43), none, .faddr 12 (.t 42)⟩,
        ⟨(some 44), none, .load none (.t 43)⟩,
        ⟨(some 45), none, .call 88 [(.t 41), (.t 44)]⟩,
        ⟨(some 46), none, .faddr 1 (.t 1)⟩,
        ⟨(some 47), none, .faddr 17 (.t 46)⟩,
        ⟨(some 48), none, .load none (.t 47)⟩,
        ⟨(some 49), none, .bin .lss .no (.t 45) (.t 48)⟩]
        (.fl 0 (.fr 1 (.fl 2 (.fl 3 (.fr 4 (.fl 6 (.fl 7 (.fr 8 (.st 5 [8] (.fl 9 .done)))))))))))
      (.cond (.t 49)
       (.seq (.reg [⟨(some 2), none, .mov (.c (.raw (.int .i64 11)))⟩])
       .ret)
       .skip)))
      (.seq (.reg [⟨(some 51), none, .bin .eql .no (.t 7) (.c (.raw (.int .i64 7)))⟩,
        ⟨(some 50), none, .mov (.t 51)⟩])
      (.cond (.t 50)
       (.seq (.reg [⟨(some 52), none, .load (some 20) (.t 1)⟩,
         ⟨(some 53), none, .faddr 1 (.t 1)⟩,
         ⟨(some 54), none, .faddr 13 (.t 53)⟩,
         ⟨(some 55), none, .load (some 2) (.t 54)⟩,
         ⟨(some 56), none, .call 85 [(.t 52), (.t 55)]⟩,
         ⟨(some 2), none, .mov (.t 56)⟩])
       .ret)
       .skip))))))))))))))
 (.seq (.reg [⟨(some 2), none, .mov (.c (.raw (.int .i64 0)))⟩])
 .ret)))
theorem i_gen_maker_refused : Is Tryz.prog 52 57 [.t 2] c_gen_maker_refused := ⟨Tryz.f52, _, p_gen_maker_refused, rfl, rfl, by kernel_rfl, by kernel_rfl, rfl⟩
def p_vec_Le : List (Nat × Pl) := [(4, (.fl 0 (.fr 1 (.fr 2 (.fl 3 (.fr 4 (.fr 5 (.fl 6 .done))))))))]
def c_vec_Le : VCode :=
 (.seq (.reg [⟨(some 2), none, .box 25 (.t 0)⟩,
   ⟨(some 3), none, .box 25 (.t 1)⟩,
   ⟨(some 4), none, .mov (.c (.kb false))⟩])
 (.seq (.seq (.reg [⟨(some 6), none, .mov (.c (.raw (.int .i64 0)))⟩])
 (.block 0 (.loop (.seq (.reg [⟨(some 7), none, .bin .lss .no (.t 6) (.c (.raw (.int .i64 7)))⟩])
  (.seq (.cond (.t 7)
   .skip
   (.exit 0))
  (.seq (.block 1 (.seq (.reg [⟨(some 8), none, .mov (.t 6)⟩,
    ⟨(some 5), none, .mov (.t 8)⟩])
  (.seq (.draw [⟨(some 9), none, .mov (.t 5)⟩,
    ⟨(some 10), none, .iaddr 1 (some 7) (.t 2) (.t 9)⟩,
    ⟨(some 11), none, .load none (.t 10)⟩,
    ⟨(some 12), none, .mov (.t 5)⟩,
    ⟨(some 13), none, .iaddr 1 (some 7) (.t 3) (.t 12)⟩,
    ⟨(some 14), none, .load none (.t 13)⟩,
    ⟨(some 15), none, .bin .gtr .no (.t 11) (.t 14)⟩]
    (.fl 0 (.fr 1 (.fr 2 (.fl 3 (.fr 4 (.fr 5 (.fl 6 .done))))))))
  (.cond (.t 15)
   (.seq (.reg [⟨(some 4), none, .mov (.c (.kb false))⟩])
   .ret)
   .skip))))
  (.reg [⟨(some 16), none, .bin .add .no (.t 6) (.c (.raw (.int .i64 1)))⟩,
    ⟨(some 6), none, .mov (.t 16)⟩])))))))
 (.seq (.reg [⟨(some 4), none, .mov (.c (.kb true))⟩])
 .ret)))
theorem i_vec_Le : Is Tryz.prog 53 17 [.t 4] c_vec_Le := ⟨Tryz.f53, _, p_vec_Le, rfl, rfl, by kernel_rfl, by kernel_rfl, rfl⟩
def p_name_Fold : List (Nat × Pl) := []
def c_name_Fold : VCode :=
 (.seq (.reg [⟨(some 2), none, .mov (.c (.raw (.string (ByteArray.mk #[]))))⟩])
 (.seq (.reg [⟨(some 3), none, .new 139 [(.pointer none), (.slice none 0 0)]⟩])
 (.seq (.seq (.reg [⟨(some 6), none, .mov (.t 0)⟩,
   ⟨(some 7), none, .range true (.t 6)⟩])
 (.block 0 (.loop (.seq (.reg [⟨(some 8), none, .next true (.t 7)⟩,
    ⟨(some 9), none, .extr (.t 8) 0⟩])
  (.seq (.cond (.t 9)
   .skip
   (.exit 0))
  (.block 1 (.seq (.reg [⟨(some 10), none, .extr (.t 8) 2⟩,
    ⟨(some 5), none, .mov (.t 10)⟩])
  (.reg [⟨(some 11), none, .mov (.t 5)⟩,
    ⟨(some 12), none, .call 90 [(.t 11)]⟩,
    ⟨(some 13), none, .call 89 [(.t 3), (.t 12)]⟩]))))))))
 (.seq (.reg [⟨(some 14), none, .call 91 [(.t 3)]⟩,
   ⟨(some 2), none, .mov (.t 14)⟩])
 .ret))))
theorem i_name_Fold : Is Tryz.prog 54 15 [.t 2] c_name_Fold := ⟨Tryz.f54, _, p_name_Fold, rfl, rfl, by kernel_rfl, by kernel_rfl, rfl⟩
def p_vec_Has : List (Nat × Pl) := [(1, (.fl 0 (.fr 1 (.st 2 [] (.fl 3 (.fl 4 (.fr 5 (.fl 6 (.fl 7 (.fl 8 (.fl 9 (.fr 10 (.fl 11 (.fr 12 (.fr 13 (.fr 14 (.fl 15 (.fl 16 (.fl 17 .done)))))))))))))))))))]
def c_vec_Has : VCode :=
 (.seq (.reg [⟨(some 2), none, .box 25 (.t 0)⟩,
   ⟨(some 3), none, .box 23 (.t 1)⟩,
   ⟨(some 4), none, .mov (.c (.kb false))⟩])
 (.seq (.draw [⟨(some 5), none, .faddr 0 (.t 3)⟩,
   ⟨(some 6), none, .load none (.t 5)⟩,
   ⟨(some 7), none, .call 83 [(.t 6)]⟩,
   ⟨(some 8), none, .mov (.t 7)⟩,
   ⟨(some 9), (some (8, true)), .faddr 1 (.t 3)⟩,
   ⟨(some 10), (some (8, true)), .load none (.t 9)⟩,
   ⟨(some 11), (some (8, true)), .bin .geq .no (.t 10) (.c (.raw (.int .i64 1)))⟩,
   ⟨(some 12), none, .pick (.t 8) (.t 11) (.c (.kb false))⟩,
   ⟨(some 13), none, .mov (.t 12)⟩,
   ⟨(some 14), (some (13, true)), .faddr 1 (.t 3)⟩,
   ⟨(some 15), (some (13, true)), .load none (.t 14)⟩,
   ⟨(some 16), (some (13, true)), .faddr 0 (.t 3)⟩,
   ⟨(some 17), (some (13, true)), .load none (.t 16)⟩,
   ⟨(some 18), (some (13, true)), .iaddr 1 (some 7) (.t 2) (.t 17)⟩,
   ⟨(some 19), (some (13, true)), .load none (.t 18)⟩,
   ⟨(some 20), (some (13, true)), .bin .leq .no (.t 15) (.t 19)⟩,
   ⟨(some 21), none, .pick (.t 13) (.t 20) (.c (.kb false))⟩,
   ⟨(some 4), none, .mov (.t 21)⟩]
   (.fl 0 (.fr 1 (.st 2 [] (.fl 3 (.fl 4 (.fr 5 (.fl 6 (.fl 7 (.fl 8 (.fl 9 (.fr 10 (.fl 11 (.fr 12 (.fr 13 (.fr 14 (.fl 15 (.fl 16 (.fl 17 .done)))))))))))))))))))
 .ret))
theorem i_vec_Has : Is Tryz.prog 55 22 [.t 4] c_vec_Has := ⟨Tryz.f55, _, p_vec_Has, rfl, rfl, by kernel_rfl, by kernel_rfl, rfl⟩
def p_auct_House_ends : List (Nat × Pl) := [(5, (.fr 0 (.fr 1 (.fr 2 (.fl 3 (.fr 4 (.fr 5 (.fr 6 (.fl 7 (.fr 8 (.fr 9 (.fl 10 (.fr 11 (.fr 12 (.fr 13 (.fl 14 (.fr 15 (.st 16 [] .done))))))))))))))))))]
def c_auct_House_ends : VCode :=
 (.seq (.reg [⟨(some 2), none, .box 43 (.t 0)⟩,
   ⟨(some 3), none, .box 27 (.t 1)⟩,
   ⟨(some 4), none, .new 107 [(.int .i64 0), (.int .i64 0), (.string (ByteArray.mk #[])), (.int .i64 0)]⟩])
 (.seq (.reg [⟨(some 8), none, .load none (.t 2)⟩,
   ⟨(some 9), none, .faddr 13 (.t 3)⟩,
   ⟨(some 10), none, .load (some 2) (.t 9)⟩,
   ⟨(some 11), none, .faddr 3 (.t 3)⟩,
   ⟨(some 12), none, .load (some 7) (.t 11)⟩,
   ⟨(some 13), none, .call 93 [(.t 8), (.t 10), (.t 12)]⟩,
   ⟨(some 14), none, .mkfn 94 [(.t 2)]⟩,
   ⟨(some 15), none, .call 92 [(.t 13), (.t 14)]⟩,
   ⟨(some 5), none, .mov (.t 15)⟩])
 (.seq (.reg [⟨(some 17), none, .load none (.t 2)⟩,
   ⟨(some 18), none, .mov (.t 5)⟩,
   ⟨(some 19), none, .call 95 [(.t 17), (.t 18)]⟩,
   ⟨(some 16), none, .mov (.t 19)⟩,
   ⟨(some 20), none, .extr (.t 16) 0⟩,
   ⟨(some 21), none, .extr (.t 16) 1⟩,
   ⟨(some 6), none, .new 23 [(.int .i64 0), (.int .i64 0)]⟩,
   ⟨none, none, .store (some 2) (.t 6) (.t 20)⟩,
   ⟨(some 7), none, .mov (.t 21)⟩])
 (.seq (.seq (.reg [⟨(some 22), none, .mov (.t 7)⟩,
   ⟨(some 23), none, .un .not (.t 22)⟩])
 (.cond (.t 23)
  (.seq (.reg [⟨(some 24), none, .build [(.int .i64 0), (.int .i64 0), (.string (ByteArray.mk #[])), (.int .i64 0)] []⟩,
    ⟨none, none, .store (some 4) (.t 4) (.t 24)⟩])
  .ret)
  .skip))
 (.seq (.draw [⟨(some 25), none, .load (some 2) (.t 6)⟩,
   ⟨(some 26), none, .load none (.t 2)⟩,
   ⟨(some 27), none, .nilck (.t 26)⟩,
   ⟨(some 28), none, .faddr 7 (.t 27)⟩,
   ⟨(some 29), none, .load none (.t 28)⟩,
   ⟨(some 30), none, .load (some 2) (.t 6)⟩,
   ⟨(some 31), none, .lookup 94 false (.t 29) (.t 30)⟩,
   ⟨(some 32), none, .field 12 none (.t 31)⟩,
   ⟨(some 33), none, .load none (.t 2)⟩,
   ⟨(some 34), none, .nilck (.t 33)⟩,
   ⟨(some 35), none, .faddr 7 (.t 34)⟩,
   ⟨(some 36), none, .load none (.t 35)⟩,
   ⟨(some 37), none, .load (some 2) (.t 6)⟩,
   ⟨(some 38), none, .lookup 94 false (.t 36) (.t 37)⟩,
   ⟨(some 39), none, .field 17 none (.t 38)⟩,
   ⟨(some 40), none, .build [(.int .i64 0), (.int .i64 0), (.string (ByteArray.mk #[])), (.int .i64 0)] [(0, 2, (.t 25)), (2, 1, (.t 32)), (3, 1, (.t 39))]⟩,
   ⟨none, none, .store (some 4) (.t 4) (.t 40)⟩]
   (.fr 0 (.fr 1 (.fr 2 (.fl 3 (.fr 4 (.fr 5 (.fr 6 (.fl 7 (.fr 8 (.fr 9 (.fl 10 (.fr 11 (.fr 12 (.fr 13 (.fl 14 (.fr 15 (.st 16 [] .done))))))))))))))))))
 .ret)))))
theorem i_auct_House_ends : Is Tryz.prog 56 41 [.cell 4 (some 4)] c_auct_House_ends := ⟨Tryz.f56, _, p_auct_House_ends, rfl, rfl, by kernel_rfl, by kernel_rfl, rfl⟩
def p_rostrumref7_Le : List (Nat × Pl) := [(4, (.fl 0 (.fr 1 (.fr 2 (.fl 3 (.fr 4 (.fr 5 (.fl 6 .done))))))))]
def c_rostrumref7_Le : VCode :=
 (.seq (.reg [⟨(some 2), none, .box 34 (.t 0)⟩,
   ⟨(some 3), none, .box 34 (.t 1)⟩,
   ⟨(some 4), none, .mov (.c (.kb false))⟩])
 (.seq (.seq (.reg [⟨(some 5), none, .mov (.c (.raw (.int .i64 0)))⟩])
 (.block 0 (.loop (.seq (.seq (.reg [⟨(some 6), none, .mov (.t 5)⟩,
    ⟨(some 7), none, .bin .lss .no (.t 6) (.c (.raw (.int .i64 7)))⟩])
  (.cond (.t 7)
   .skip
   (.exit 0)))
  (.seq (.block 1 (.seq (.draw [⟨(some 10), none, .mov (.t 5)⟩,
    ⟨(some 11), none, .iaddr 1 (some 7) (.t 2) (.t 10)⟩,
    ⟨(some 12), none, .load none (.t 11)⟩,
    ⟨(some 13), none, .mov (.t 5)⟩,
    ⟨(some 14), none, .iaddr 1 (some 7) (.t 3) (.t 13)⟩,
    ⟨(some 15), none, .load none (.t 14)⟩,
    ⟨(some 16), none, .bin .gtr .no (.t 12) (.t 15)⟩]
    (.fl 0 (.fr 1 (.fr 2 (.fl 3 (.fr 4 (.fr 5 (.fl 6 .done))))))))
  (.cond (.t 16)
   (.seq (.reg [⟨(some 4), none, .mov (.c (.kb false))⟩])
   .ret)
   .skip)))
  (.reg [⟨(some 8), none, .mov (.t 5)⟩,
    ⟨(some 9), none, .bin .add .no (.t 8) (.c (.raw (.int .i64 1)))⟩,
    ⟨(some 5), none, .mov (.t 9)⟩]))))))
 (.seq (.reg [⟨(some 4), none, .mov (.c (.kb true))⟩])
 .ret)))
theorem i_rostrumref7_Le : Is Tryz.prog 57 17 [.t 4] c_rostrumref7_Le := ⟨Tryz.f57, _, p_rostrumref7_Le, rfl, rfl, by kernel_rfl, by kernel_rfl, rfl⟩
def p_rostrumref24_House_Registered : List (Nat × Pl) := []
def c_rostrumref24_House_Registered : VCode :=
 (.seq (.reg [⟨(some 4), none, .mov (.c (.kb false))⟩])
 (.seq (.reg [⟨(some 7), none, .mov (.t 1)⟩,
   ⟨(some 8), none, .call 59 [(.t 7)]⟩,
   ⟨(some 5), none, .mov (.t 8)⟩])
 (.seq (.seq (.reg [⟨(some 6), none, .mov (.c (.raw (.int .i64 0)))⟩])
 (.block 0 (.loop (.seq (.seq (.reg [⟨(some 9), none, .mov (.t 6)⟩,
    ⟨(some 10), none, .mov (.t 0)⟩,
    ⟨(some 11), none, .nilck (.t 10)⟩,
    ⟨(some 12), none, .faddr 9 (.t 11)⟩,
    ⟨(some 13), none, .load none (.t 12)⟩,
    ⟨(some 14), none, .len .sl (.t 13)⟩,
    ⟨(some 15), none, .bin .lss .no (.t 9) (.t 14)⟩])
  (.cond (.t 15)
   .skip
   (.exit 0)))
  (.seq (.block 1 (.seq (.reg [⟨(some 18), none, .mov (.t 0)⟩,
    ⟨(some 19), none, .nilck (.t 18)⟩,
    ⟨(some 20), none, .faddr 9 (.t 19)⟩,
    ⟨(some 21), none, .load none (.t 20)⟩,
    ⟨(some 22), none, .mov (.t 6)⟩,
    ⟨(some 23), none, .iaddr 1 none (.t 21) (.t 22)⟩,
    ⟨(some 24), none, .load none (.t 23)⟩,
    ⟨(some 25), none, .mov (.t 5)⟩,
    ⟨(some 26), none, .bin .eql .no (.t 24) (.t 25)⟩])
  (.cond (.t 26)
   (.seq (.reg [⟨(some 4), none, .mov (.c (.kb true))⟩])
   .ret)
   .skip)))
  (.reg [⟨(some 16), none, .mov (.t 6)⟩,
    ⟨(some 17), none, .bin .add .no (.t 16) (.c (.raw (.int .i64 1)))⟩,
    ⟨(some 6), none, .mov (.t 17)⟩]))))))
 (.seq (.reg [⟨(some 4), none, .mov (.c (.kb false))⟩])
 .ret))))
theorem i_rostrumref24_House_Registered : Is Tryz.prog 58 27 [.t 4] c_rostrumref24_House_Registered := ⟨Tryz.f58, _, p_rostrumref24_House_Registered, rfl, rfl, by kernel_rfl, by kernel_rfl, rfl⟩
def p_rostrumref1_Fold : List (Nat × Pl) := []
def c_rostrumref1_Fold : VCode :=
 (.seq (.reg [⟨(some 2), none, .mov (.c (.raw (.string (ByteArray.mk #[]))))⟩])
 (.seq (.reg [⟨(some 7), none, .mov (.t 0)⟩,
   ⟨(some 8), none, .call 96 [(.t 7)]⟩,
   ⟨(some 6), none, .mov (.t 8)⟩,
   ⟨(some 9), none, .extr (.t 6) 0⟩,
   ⟨(some 10), none, .extr (.t 6) 1⟩,
   ⟨(some 3), none, .mov (.t 9)⟩,
   ⟨(some 4), none, .mov (.t 10)⟩])
 (.seq (.seq (.reg [⟨(some 5), none, .mov (.c (.raw (.int .i64 0)))⟩])
 (.block 0 (.loop (.seq (.seq (.reg [⟨(some 11), none, .mov (.t 5)⟩,
    ⟨(some 12), none, .mov (.t 3)⟩,
    ⟨(some 13), none, .len .sl (.t 12)⟩,
    ⟨(some 14), none, .bin .lss .no (.t 11) (.t 13)⟩])
  (.cond (.t 14)
   .skip
   (.exit 0)))
  (.seq (.block 1 (.reg [⟨(some 17), none, .mov (.t 3)⟩,
    ⟨(some 18), none, .mov (.t 5)⟩,
    ⟨(some 19), none, .mov (.t 3)⟩,
    ⟨(some 20), none, .mov (.t 5)⟩,
    ⟨(some 21), none, .iaddr 1 none (.t 19) (.t 20)⟩,
    ⟨(some 22), none, .load none (.t 21)⟩,
    ⟨(some 23), none, .call 90 [(.t 22)]⟩,
    ⟨(some 24), none, .iaddr 1 none (.t 17) (.t 18)⟩,
    ⟨none, none, .store none (.t 24) (.t 23)⟩]))
  (.reg [⟨(some 15), none, .mov (.t 5)⟩,
    ⟨(some 16), none, .bin .add .no (.t 15) (.c (.raw (.int .i64 1)))⟩,
    ⟨(some 5), none, .mov (.t 16)⟩]))))))
 (.seq (.reg [⟨(some 25), none, .mov (.t 3)⟩,
   ⟨(some 26), none, .conv .r2s (.t 25)⟩,
   ⟨(some 2), none, .mov (.t 26)⟩])
 .ret))))
theorem i_rostrumref1_Fold : Is Tryz.prog 59 27 [.t 2] c_rostrumref1_Fold := ⟨Tryz.f59, _, p_rostrumref1_Fold, rfl, rfl, by kernel_rfl, by kernel_rfl, rfl⟩
def p_rostrumref24_House_withdrawn : List (Nat × Pl) := [(5, (.fl 0 (.fr 1 (.fl 2 (.fr 3 (.fl 4 (.fr 5 (.fr 6 (.fl 7 (.st 8 [1, 3, 5, 6] (.fl 9 .done)))))))))))]
def c_rostrumref24_House_withdrawn : VCode :=
 (.seq (.reg [⟨(some 4), none, .mov (.c (.raw (.int .i64 0)))⟩])
 (.seq (.reg [⟨(some 5), none, .mov (.c (.raw (.int .i64 0)))⟩])
 (.seq (.seq (.reg [⟨(some 6), none, .mov (.c (.raw (.int .i64 0)))⟩])
 (.block 0 (.loop (.seq (.seq (.reg [⟨(some 7), none, .mov (.t 6)⟩,
    ⟨(some 8), none, .mov (.t 0)⟩,
    ⟨(some 9), none, .nilck (.t 8)⟩,
    ⟨(some 10), none, .faddr 10 (.t 9)⟩,
    ⟨(some 11), none, .load none (.t 10)⟩,
    ⟨(some 12), none, .len .sl (.t 11)⟩,
    ⟨(some 13), none, .bin .lss .no (.t 7) (.t 12)⟩])
  (.cond (.t 13)
   .skip
   (.exit 0)))
  (.seq (.block 1 (.seq (.draw [⟨(some 16), none, .mov (.t 0)⟩,
    ⟨(some 17), none, .nilck (.t 16)⟩,
    ⟨(some 18), none, .faddr 10 (.t 17)⟩,
    ⟨(some 19), none, .load none (.t 18)⟩,
    ⟨(some 20), none, .mov (.t 6)⟩,
    ⟨(some 21), none, .iaddr 1 none (.t 19) (.t 20)⟩,
    ⟨(some 22), none, .load none (.t 21)⟩,
    ⟨(some 23), none, .mov (.t 1)⟩,
    ⟨(some 24), none, .call 59 [(.t 23)]⟩,
    ⟨(some 25), none, .bin .eql .no (.t 22) (.t 24)⟩]
    (.fl 0 (.fr 1 (.fl 2 (.fr 3 (.fl 4 (.fr 5 (.fr 6 (.fl 7 (.st 8 [1, 3, 5, 6] (.fl 9 .done)))))))))))
  (.cond (.t 25)
   (.reg [⟨(some 26), none, .mov (.t 5)⟩,
     ⟨(some 27), none, .mov (.t 0)⟩,
     ⟨(some 28), none, .nilck (.t 27)⟩,
     ⟨(some 29), none, .faddr 11 (.t 28)⟩,
     ⟨(some 30), none, .load none (.t 29)⟩,
     ⟨(some 31), none, .mov (.t 6)⟩,
     ⟨(some 32), none, .iaddr 1 none (.t 30) (.t 31)⟩,
     ⟨(some 33), none, .load none (.t 32)⟩,
     ⟨(some 34), none, .bin .add .no (.t 26) (.t 33)⟩,
     ⟨(some 5), none, .mov (.t 34)⟩])
   .skip)))
  (.reg [⟨(some 14), none, .mov (.t 6)⟩,
    ⟨(some 15), none, .bin .add .no (.t 14) (.c (.raw (.int .i64 1)))⟩,
    ⟨(some 6), none, .mov (.t 15)⟩]))))))
 (.seq (.reg [⟨(some 35), none, .mov (.t 5)⟩,
   ⟨(some 4), none, .mov (.t 35)⟩])
 .ret))))
theorem i_rostrumref24_House_withdrawn : Is Tryz.prog 60 36 [.t 4] c_rostrumref24_House_withdrawn := ⟨Tryz.f60, _, p_rostrumref24_House_withdrawn, rfl, rfl, by kernel_rfl, by kernel_rfl, rfl⟩
def p_rostrumref24_House_find : List (Nat × Pl) := [(4, (.fl 0 (.fr 1 (.fl 2 (.fr 3 (.fl 4 (.fr 5 (.fl 6 (.fr 7 (.fr 8 (.fl 9 (.fl 10 (.fl 11 (.fr 12 (.fl 13 (.fr 14 (.fl 15 (.fr 16 (.fl 17 (.fr 18 (.fl 19 (.fl 20 (.fl 21 .done)))))))))))))))))))))))]
def c_rostrumref24_House_find : VCode :=
 (.seq (.reg [⟨(some 5), none, .box 23 (.t 2)⟩,
   ⟨(some 6), none, .new 36 [(.int .i64 0), (.int .i64 0), (.int .i64 0), (.int .i64 0), (.int .i64 0), (.int .i64 0), (.int .i64 0), (.int .i64 0), (.int .i64 0), (.int .i64 0), (.int .i64 0), (.string (ByteArray.mk #[])), (.string (ByteArray.mk #[])), (.int .i64 0), (.int .i64 0), (.int .i64 0), (.int .i64 0), (.int .i64 0), (.int .i64 0)]⟩,
   ⟨(some 7), none, .mov (.c (.kb false))⟩])
 (.seq (.seq (.reg [⟨(some 8), none, .mov (.c (.raw (.int .i64 0)))⟩])
 (.block 0 (.loop (.seq (.seq (.reg [⟨(some 9), none, .mov (.t 8)⟩,
    ⟨(some 10), none, .mov (.t 0)⟩,
    ⟨(some 11), none, .nilck (.t 10)⟩,
    ⟨(some 12), none, .faddr 7 (.t 11)⟩,
    ⟨(some 13), none, .load none (.t 12)⟩,
    ⟨(some 14), none, .len .sl (.t 13)⟩,
    ⟨(some 15), none, .bin .lss .no (.t 9) (.t 14)⟩])
  (.cond (.t 15)
   .skip
   (.exit 0)))
  (.seq (.block 1 (.seq (.draw [⟨(some 18), none, .mov (.t 0)⟩,
    ⟨(some 19), none, .nilck (.t 18)⟩,
    ⟨(some 20), none, .faddr 7 (.t 19)⟩,
    ⟨(some 21), none, .load none (.t 20)⟩,
    ⟨(some 22), none, .mov (.t 8)⟩,
    ⟨(some 23), none, .iaddr 19 none (.t 21) (.t 22)⟩,
    ⟨(some 24), none, .faddr 1 (.t 23)⟩,
    ⟨(some 25), none, .load (some 2) (.t 24)⟩,
    ⟨(some 26), none, .load (some 2) (.t 5)⟩,
    ⟨(some 27), none, .bin .eql (.agg [.i, .i]) (.t 25) (.t 26)⟩,
    ⟨(some 28), none, .mov (.t 27)⟩,
    ⟨(some 29), (some (28, true)), .mov (.t 0)⟩,
    ⟨(some 30), (some (28, true)), .nilck (.t 29)⟩,
    ⟨(some 31), (some (28, true)), .faddr 7 (.t 30)⟩,
    ⟨(some 32), (some (28, true)), .load none (.t 31)⟩,
    ⟨(some 33), (some (28, true)), .mov (.t 8)⟩,
    ⟨(some 34), (some (28, true)), .iaddr 19 none (.t 32) (.t 33)⟩,
    ⟨(some 35), (some (28, true)), .faddr 0 (.t 34)⟩,
    ⟨(some 36), (some (28, true)), .load none (.t 35)⟩,
    ⟨(some 37), (some (28, true)), .mov (.t 1)⟩,
    ⟨(some 38), (some (28, true)), .bin .eql .no (.t 36) (.t 37)⟩,
    ⟨(some 39), none, .pick (.t 28) (.t 38) (.c (.kb false))⟩]
    (.fl 0 (.fr 1 (.fl 2 (.fr 3 (.fl 4 (.fr 5 (.fl 6 (.fr 7 (.fr 8 (.fl 9 (.fl 10 (.fl 11 (.fr 12 (.fl 13 (.fr 14 (.fl 15 (.fr 16 (.fl 17 (.fr 18 (.fl 19 (.fl 20 (.fl 21 .done)))))))))))))))))))))))
  (.cond (.t 39)
   (.seq (.reg [⟨(some 40), none, .mov (.t 0)⟩,
     ⟨(some 41), none, .nilck (.t 40)⟩,
     ⟨(some 42), none, .faddr 7 (.t 41)⟩,
     ⟨(some 43), none, .load none (.t 42)⟩,
     ⟨(some 44), none, .mov (.t 8)⟩,
     ⟨(some 45), none, .iaddr 19 none (.t 43) (.t 44)⟩,
     ⟨(some 46), none, .load (some 19) (.t 45)⟩,
     ⟨none, none, .store (some 19) (.t 6) (.t 46)⟩,
     ⟨(some 7), none, .mov (.c (.kb true))⟩])
   .ret)
   .skip)))
  (.reg [⟨(some 16), none, .mov (.t 8)⟩,
    ⟨(some 17), none, .bin .add .no (.t 16) (.c (.raw (.int .i64 1)))⟩,
    ⟨(some 8), none, .mov (.t 17)⟩]))))))
 (.seq (.reg [⟨(some 47), none, .build [(.int .i64 0), (.int .i64 0), (.int .i64 0), (.int .i64 0), (.int .i64 0), (.int .i64 0), (.int .i64 0), (.int .i64 0), (.int .i64 0), (.int .i64 0), (.int .i64 0), (.string (ByteArray.mk #[])), (.string (ByteArray.mk #[])), (.int .i64 0), (.int .i64 0), (.int .i64 0), (.int .i64 0), (.int .i64 0), (.int .i64 0)] []⟩,
   ⟨none, none, .store (some 19) (.t 6) (.t 47)⟩,
   ⟨(some 7), none, .mov (.c (.kb false))⟩])
 .ret)))
theorem i_rostrumref24_House_find : Is Tryz.prog 61 48 [.cell 6 (some 19), .t 7] c_rostrumref24_House_find := ⟨Tryz.f61, _, p_rostrumref24_House_find, rfl, rfl, by kernel_rfl, by kernel_rfl, rfl⟩
def p_rostrumref24_House_Winner : List (Nat × Pl) := [(4, (.fl 0 (.fr 1 (.fl 2 (.fr 3 (.fl 4 (.fr 5 (.fl 6 (.fr 7 (.fr 8 (.fl 9 .done))))))))))), (5, (.fl 0 (.fr 1 (.fl 2 (.fr 3 (.fl 4 (.fr 5 (.fl 6 (.fr 7 (.fl 8 (.fr 9 (.fl 10 (.fr 11 (.fl 12 (.fr 13 (.fl 14 (.fr 15 (.fl 16 (.fr 17 (.fl 18 (.fr 19 (.fl 20 (.fr 21 (.fl 22 (.fr 23 (.st 24 [9, 11, 13, 15, 17, 19, 21, 23] (.fl 25 (.fl 26 (.fl 27 .done)))))))))))))))))))))))))))))]
def c_rostrumref24_House_Winner : VCode :=
 (.seq (.reg [⟨(some 3), none, .box 23 (.t 1)⟩,
   ⟨(some 4), none, .new 23 [(.int .i64 0), (.int .i64 0)]⟩,
   ⟨(some 5), none, .mov (.c (.raw (.string (ByteArray.mk #[]))))⟩,
   ⟨(some 6), none, .mov (.c (.raw (.int .i64 0)))⟩,
   ⟨(some 7), none, .mov (.c (.kb false))⟩])
 (.seq (.seq (.reg [⟨(some 8), none, .mov (.c (.raw (.int .i64 0)))⟩])
 (.block 0 (.loop (.seq (.seq (.reg [⟨(some 9), none, .mov (.t 8)⟩,
    ⟨(some 10), none, .mov (.t 0)⟩,
    ⟨(some 11), none, .nilck (.t 10)⟩,
    ⟨(some 12), none, .faddr 12 (.t 11)⟩,
    ⟨(some 13), none, .load none (.t 12)⟩,
    ⟨(some 14), none, .len .sl (.t 13)⟩,
    ⟨(some 15), none, .bin .lss .no (.t 9) (.t 14)⟩])
  (.cond (.t 15)
   .skip
   (.exit 0)))
  (.seq (.block 1 (.seq (.draw [⟨(some 18), none, .mov (.t 0)⟩,
    ⟨(some 19), none, .nilck (.t 18)⟩,
    ⟨(some 20), none, .faddr 12 (.t 19)⟩,
    ⟨(some 21), none, .load none (.t 20)⟩,
    ⟨(some 22), none, .mov (.t 8)⟩,
    ⟨(some 23), none, .iaddr 6 none (.t 21) (.t 22)⟩,
    ⟨(some 24), none, .faddr 0 (.t 23)⟩,
    ⟨(some 25), none, .load (some 2) (.t 24)⟩,
    ⟨(some 26), none, .load (some 2) (.t 3)⟩,
    ⟨(some 27), none, .bin .eql (.agg [.i, .i]) (.t 25) (.t 26)⟩]
    (.fl 0 (.fr 1 (.fl 2 (.fr 3 (.fl 4 (.fr 5 (.fl 6 (.fr 7 (.fr 8 (.fl 9 .done)))))))))))
  (.cond (.t 27)
   (.seq (.draw [⟨(some 28), none, .mov (.t 0)⟩,
     ⟨(some 29), none, .nilck (.t 28)⟩,
     ⟨(some 30), none, .faddr 12 (.t 29)⟩,
     ⟨(some 31), none, .load none (.t 30)⟩,
     ⟨(some 32), none, .mov (.t 8)⟩,
     ⟨(some 33), none, .iaddr 6 none (.t 31) (.t 32)⟩,
     ⟨(some 34), none, .faddr 2 (.t 33)⟩,
     ⟨(some 35), none, .load (some 2) (.t 34)⟩,
     ⟨(some 36), none, .mov (.t 0)⟩,
     ⟨(some 37), none, .nilck (.t 36)⟩,
     ⟨(some 38), none, .faddr 12 (.t 37)⟩,
     ⟨(some 39), none, .load none (.t 38)⟩,
     ⟨(some 40), none, .mov (.t 8)⟩,
     ⟨(some 41), none, .iaddr 6 none (.t 39) (.t 40)⟩,
     ⟨(some 42), none, .faddr 4 (.t 41)⟩,
     ⟨(some 43), none, .load none (.t 42)⟩,
     ⟨(some 44), none, .mov (.t 0)⟩,
     ⟨(some 45), none, .nilck (.t 44)⟩,
     ⟨(some 46), none, .faddr 12 (.t 45)⟩,
     ⟨(some 47), none, .load none (.t 46)⟩,
     ⟨(some 48), none, .mov (.t 8)⟩,
     ⟨(some 49), none, .iaddr 6 none (.t 47) (.t 48)⟩,
     ⟨(some 50), none, .faddr 5 (.t 49)⟩,
     ⟨(some 51), none, .load none (.t 50)⟩,
     ⟨none, none, .store (some 2) (.t 4) (.t 35)⟩,
     ⟨(some 5), none, .mov (.t 43)⟩,
     ⟨(some 6), none, .mov (.t 51)⟩,
     ⟨(some 7), none, .mov (.c (.kb true))⟩]
     (.fl 0 (.fr 1 (.fl 2 (.fr 3 (.fl 4 (.fr 5 (.fl 6 (.fr 7 (.fl 8 (.fr 9 (.fl 10 (.fr 11 (.fl 12 (.fr 13 (.fl 14 (.fr 15 (.fl 16 (.fr 17 (.fl 18 (.fr 19 (.fl 20 (.fr 21 (.fl 22 (.fr 23 (.st 24 [9, 11, 13, 15, 17, 19, 21, 23] (.fl 25 (.fl 26 (.fl 27 .done)))))))))))))))))))))))))))))
   .ret)
   .skip)))
  (.reg [⟨(some 16), none, .mov (.t 8)⟩,
    ⟨(some 17), none, .bin .add .no (.t 16) (.c (.raw (.int .i64 1)))⟩,
    ⟨(some 8), none, .mov (.t 17)⟩]))))))
 (.seq (.reg [⟨(some 52), none, .build [(.int .i64 0), (.int .i64 0)] []⟩,
   ⟨none, none, .store (some 2) (.t 4) (.t 52)⟩,
   ⟨(some 5), none, .mov (.c (.raw (.string (ByteArray.mk #[]))))⟩,
   ⟨(some 6), none, .mov (.c (.raw (.int .i64 0)))⟩,
   ⟨(some 7), none, .mov (.c (.kb false))⟩])
 .ret)))
theorem i_rostrumref24_House_Winner : Is Tryz.prog 62 53 [.cell 4 (some 2), .t 5, .t 6, .t 7] c_rostrumref24_House_Winner := ⟨Tryz.f62, _, p_rostrumref24_House_Winner, rfl, rfl, by kernel_rfl, by kernel_rfl, rfl⟩
def p_rostrumref7_Has : List (Nat × Pl) := [(1, (.fl 0 (.fr 1 (.fl 2 (.fl 3 (.fl 4 (.fr 5 (.fl 6 (.fl 7 (.fl 8 (.fl 9 (.fr 10 (.fl 11 (.fl 12 (.fl 13 (.fl 14 (.fr 15 (.fl 16 (.fr 17 (.fr 18 (.fr 19 (.fl 20 (.fl 21 (.fl 22 .done))))))))))))))))))))))))]
def c_rostrumref7_Has : VCode :=
 (.seq (.reg [⟨(some 2), none, .box 34 (.t 0)⟩,
   ⟨(some 3), none, .box 23 (.t 1)⟩,
   ⟨(some 4), none, .mov (.c (.kb false))⟩])
 (.seq (.draw [⟨(some 5), none, .faddr 0 (.t 3)⟩,
   ⟨(some 6), none, .load none (.t 5)⟩,
   ⟨(some 7), none, .bin .geq .no (.t 6) (.c (.raw (.int .i64 0)))⟩,
   ⟨(some 8), none, .mov (.t 7)⟩,
   ⟨(some 9), (some (8, true)), .faddr 0 (.t 3)⟩,
   ⟨(some 10), (some (8, true)), .load none (.t 9)⟩,
   ⟨(some 11), (some (8, true)), .bin .lss .no (.t 10) (.c (.raw (.int .i64 7)))⟩,
   ⟨(some 12), none, .pick (.t 8) (.t 11) (.c (.kb false))⟩,
   ⟨(some 13), none, .mov (.t 12)⟩,
   ⟨(some 14), (some (13, true)), .faddr 1 (.t 3)⟩,
   ⟨(some 15), (some (13, true)), .load none (.t 14)⟩,
   ⟨(some 16), (some (13, true)), .bin .geq .no (.t 15) (.c (.raw (.int .i64 1)))⟩,
   ⟨(some 17), none, .pick (.t 13) (.t 16) (.c (.kb false))⟩,
   ⟨(some 18), none, .mov (.t 17)⟩,
   ⟨(some 19), (some (18, true)), .faddr 1 (.t 3)⟩,
   ⟨(some 20), (some (18, true)), .load none (.t 19)⟩,
   ⟨(some 21), (some (18, true)), .faddr 0 (.t 3)⟩,
   ⟨(some 22), (some (18, true)), .load none (.t 21)⟩,
   ⟨(some 23), (some (18, true)), .iaddr 1 (some 7) (.t 2) (.t 22)⟩,
   ⟨(some 24), (some (18, true)), .load none (.t 23)⟩,
   ⟨(some 25), (some (18, true)), .bin .leq .no (.t 20) (.t 24)⟩,
   ⟨(some 26), none, .pick (.t 18) (.t 25) (.c (.kb false))⟩,
   ⟨(some 4), none, .mov (.t 26)⟩]
   (.fl 0 (.fr 1 (.fl 2 (.fl 3 (.fl 4 (.fr 5 (.fl 6 (.fl 7 (.fl 8 (.fl 9 (.fr 10 (.fl 11 (.fl 12 (.fl 13 (.fl 14 (.fr 15 (.fl 16 (.fr 17 (.fr 18 (.fr 19 (.fl 20 (.fl 21 (.fl 22 .done))))))))))))))))))))))))
 .ret))
theorem i_rostrumref7_Has : Is Tryz.prog 63 27 [.t 4] c_rostrumref7_Has := ⟨Tryz.f63, _, p_rostrumref7_Has, rfl, rfl, by kernel_rfl, by kernel_rfl, rfl⟩
def p_rostrumref24_House_bids : List (Nat × Pl) := [(11, (.fl 0 (.fl 1 (.fl 2 (.fr 3 (.fl 4 (.fr 5 (.fl 6 (.fr 7 (.fl 8 (.fr 9 (.fl 10 (.fl 11 (.fl 12 (.fr 13 (.fl 14 (.fr 15 (.fl 16 (.fr 17 (.fl 18 (.fr 19 (.fl 20 (.fr 21 (.fl 22 (.fl 23 (.fl 24 (.fr 25 (.fl 26 (.fr 27 (.fl 28 (.fr 29 (.fl 30 (.fr 31 (.fl 32 (.fr 33 (.st 34 [] (.fl 35 (.fl 36 (.fl 37 .done)))))))))))))))))))))))))))))))))))))))]
def c_rostrumref24_House_bids : VCode :=
 (.seq (.reg [⟨(some 4), none, .box 23 (.t 1)⟩,
   ⟨(some 5), none, .box 34 (.t 2)⟩,
   ⟨(some 6), none, .mov (.c (.raw (.slice none 0 0)))⟩])
 (.seq (.reg [⟨(some 7), none, .mov (.c (.raw (.slice none 0 0)))⟩])
 (.seq (.seq (.reg [⟨(some 8), none, .mov (.c (.raw (.int .i64 0)))⟩])
 (.block 0 (.loop (.seq (.seq (.reg [⟨(some 12), none, .mov (.t 8)⟩,
    ⟨(some 13), none, .mov (.t 0)⟩,
    ⟨(some 14), none, .nilck (.t 13)⟩,
    ⟨(some 15), none, .faddr 7 (.t 14)⟩,
    ⟨(some 16), none, .load none (.t 15)⟩,
    ⟨(some 17), none, .len .sl (.t 16)⟩,
    ⟨(some 18), none, .bin .lss .no (.t 12) (.t 17)⟩])
  (.cond (.t 18)
   .skip
   (.exit 0)))
  (.seq (.block 1 (.seq (.reg [⟨(some 21), none, .mov (.t 0)⟩,
    ⟨(some 22), none, .nilck (.t 21)⟩,
    ⟨(some 23), none, .faddr 7 (.t 22)⟩,
    ⟨(some 24), none, .load none (.t 23)⟩,
    ⟨(some 25), none, .mov (.t 8)⟩,
    ⟨(some 26), none, .iaddr 19 none (.t 24) (.t 25)⟩,
    ⟨(some 27), none, .load (some 19) (.t 26)⟩,
    ⟨(some 9), none, .new 36 [(.int .i64 0), (.int .i64 0), (.int .i64 0), (.int .i64 0), (.int .i64 0), (.int .i64 0), (.int .i64 0), (.int .i64 0), (.int .i64 0), (.int .i64 0), (.int .i64 0), (.string (ByteArray.mk #[])), (.string (ByteArray.mk #[])), (.int .i64 0), (.int .i64 0), (.int .i64 0), (.int .i64 0), (.int .i64 0), (.int .i64 0)]⟩,
    ⟨none, none, .store (some 19) (.t 9) (.t 27)⟩])
  (.seq (.seq (.reg [⟨(some 28), none, .faddr 0 (.t 9)⟩,
    ⟨(some 29), none, .load none (.t 28)⟩,
    ⟨(some 30), none, .bin .neq .no (.t 29) (.c (.raw (.int .i64 2)))⟩,
    ⟨(some 31), none, .mov (.t 30)⟩,
    ⟨(some 32), (some (31, false)), .faddr 13 (.t 9)⟩,
    ⟨(some 33), (some (31, false)), .load (some 2) (.t 32)⟩,
    ⟨(some 34), (some (31, false)), .load (some 2) (.t 4)⟩,
    ⟨(some 35), (some (31, false)), .bin .neq (.agg [.i, .i]) (.t 33) (.t 34)⟩,
    ⟨(some 36), none, .pick (.t 31) (.c (.kb true)) (.t 35)⟩,
    ⟨(some 37), none, .mov (.t 36)⟩,
    ⟨(some 38), (some (37, false)), .load (some 7) (.t 5)⟩,
    ⟨(some 39), (some (37, false)), .faddr 1 (.t 9)⟩,
    ⟨(some 40), (some (37, false)), .load (some 2) (.t 39)⟩,
    ⟨(some 41), (some (37, false)), .call 63 [(.t 38), (.t 40)]⟩,
    ⟨(some 42), (some (37, false)), .un .not (.t 41)⟩,
    ⟨(some 43), none, .pick (.t 37) (.c (.kb true)) (.t 42)⟩])
  (.cond (.t 43)
   (.exit 1)
   .skip))
  (.seq (.reg [⟨(some 10), none, .mov (.c (.kb false))⟩])
  (.seq (.seq (.reg [⟨(some 11), none, .mov (.c (.raw (.int .i64 0)))⟩])
  (.block 2 (.loop (.seq (.seq (.reg [⟨(some 44), none, .mov (.t 11)⟩,
     ⟨(some 45), none, .mov (.t 0)⟩,
     ⟨(some 46), none, .nilck (.t 45)⟩,
     ⟨(some 47), none, .faddr 7 (.t 46)⟩,
     ⟨(some 48), none, .load none (.t 47)⟩,
     ⟨(some 49), none, .len .sl (.t 48)⟩,
     ⟨(some 50), none, .bin .lss .no (.t 44) (.t 49)⟩])
   (.cond (.t 50)
    .skip
    (.exit 2)))
   (.seq (.block 3 (.draw [⟨(some 53), none, .mov (.t 10)⟩,
     ⟨(some 54), none, .mov (.t 53)⟩,
     ⟨(some 55), (some (54, false)), .mov (.t 0)⟩,
     ⟨(some 56), (some (54, false)), .nilck (.t 55)⟩,
     ⟨(some 57), (some (54, false)), .faddr 7 (.t 56)⟩,
     ⟨(some 58), (some (54, false)), .load none (.t 57)⟩,
     ⟨(some 59), (some (54, false)), .mov (.t 11)⟩,
     ⟨(some 60), (some (54, false)), .iaddr 19 none (.t 58) (.t 59)⟩,
     ⟨(some 61), (some (54, false)), .faddr 0 (.t 60)⟩,
     ⟨(some 62), (some (54, false)), .load none (.t 61)⟩,
     ⟨(some 63), (some (54, false)), .bin .eql .no (.t 62) (.c (.raw (.int .i64 3)))⟩,
     ⟨(some 64), (some (54, false)), .mov (.t 63)⟩,
     ⟨(some 65), (some (64, true)), .mov (.t 0)⟩,
     ⟨(some 66), (some (64, true)), .nilck (.t 65)⟩,
     ⟨(some 67), (some (64, true)), .faddr 7 (.t 66)⟩,
     ⟨(some 68), (some (64, true)), .load none (.t 67)⟩,
     ⟨(some 69), (some (64, true)), .mov (.t 11)⟩,
     ⟨(some 70), (some (64, true)), .iaddr 19 none (.t 68) (.t 69)⟩,
     ⟨(some 71), (some (64, true)), .faddr 15 (.t 70)⟩,
     ⟨(some 72), (some (64, true)), .load (some 2) (.t 71)⟩,
     ⟨(some 73), (some (64, true)), .faddr 1 (.t 9)⟩,
     ⟨(some 74), (some (64, true)), .load (some 2) (.t 73)⟩,
     ⟨(some 75), (some (64, true)), .bin .eql (.agg [.i, .i]) (.t 72) (.t 74)⟩,
     ⟨(some 76), (some (54, false)), .pick (.t 64) (.t 75) (.c (.kb false))⟩,
     ⟨(some 77), (some (54, false)), .mov (.t 76)⟩,
     ⟨(some 78), (some (77, true)), .load (some 7) (.t 5)⟩,
     ⟨(some 79), (some (77, true)), .mov (.t 0)⟩,
     ⟨(some 80), (some (77, true)), .nilck (.t 79)⟩,
     ⟨(some 81), (some (77, true)), .faddr 7 (.t 80)⟩,
     ⟨(some 82), (some (77, true)), .load none (.t 81)⟩,
     ⟨(some 83), (some (77, true)), .mov (.t 11)⟩,
     ⟨(some 84), (some (77, true)), .iaddr 19 none (.t 82) (.t 83)⟩,
     ⟨(some 85), (some (77, true)), .faddr 1 (.t 84)⟩,
     ⟨(some 86), (some (77, true)), .load (some 2) (.t 85)⟩,
     ⟨(some 87), (some (77, true)), .call 63 [(.t 78), (.t 86)]⟩,
     ⟨(some 88), (some (54, false)), .pick (.t 77) (.t 87) (.c (.kb false))⟩,
     ⟨(some 89), none, .pick (.t 54) (.c (.kb true)) (.t 88)⟩,
     ⟨(some 10), none, .mov (.t 89)⟩]
     (.fl 0 (.fl 1 (.fl 2 (.fr 3 (.fl 4 (.fr 5 (.fl 6 (.fr 7 (.fl 8 (.fr 9 (.fl 10 (.fl 11 (.fl 12 (.fr 13 (.fl 14 (.fr 15 (.fl 16 (.fr 17 (.fl 18 (.fr 19 (.fl 20 (.fr 21 (.fl 22 (.fl 23 (.fl 24 (.fr 25 (.fl 26 (.fr 27 (.fl 28 (.fr 29 (.fl 30 (.fr 31 (.fl 32 (.fr 33 (.st 34 [] (.fl 35 (.fl 36 (.fl 37 .done))))))))))))))))))))))))))))))))))))))))
   (.reg [⟨(some 51), none, .mov (.t 11)⟩,
     ⟨(some 52), none, .bin .add .no (.t 51) (.c (.raw (.int .i64 1)))⟩,
     ⟨(some 11), none, .mov (.t 52)⟩]))))))
  (.seq (.reg [⟨(some 90), none, .mov (.t 10)⟩,
    ⟨(some 91), none, .un .not (.t 90)⟩])
  (.cond (.t 91)
   (.reg [⟨(some 92), none, .mov (.t 7)⟩,
     ⟨(some 93), none, .load (some 19) (.t 9)⟩,
     ⟨(some 94), none, .bslice 36 1 [(.int .i64 0), (.int .i64 0), (.int .i64 0), (.int .i64 0), (.int .i64 0), (.int .i64 0), (.int .i64 0), (.int .i64 0), (.int .i64 0), (.int .i64 0), (.int .i64 0), (.string (ByteArray.mk #[])), (.string (ByteArray.mk #[])), (.int .i64 0), (.int .i64 0), (.int .i64 0), (.int .i64 0), (.int .i64 0), (.int .i64 0)] [(0, 19, (.t 93))]⟩,
     ⟨(some 95), none, .append 36 19 168 [(.int .i64 0), (.int .i64 0), (.int .i64 0), (.int .i64 0), (.int .i64 0), (.int .i64 0), (.int .i64 0), (.int .i64 0), (.int .i64 0), (.int .i64 0), (.int .i64 0), (.string (ByteArray.mk #[])), (.string (ByteArray.mk #[])), (.int .i64 0), (.int .i64 0), (.int .i64 0), (.int .i64 0), (.int .i64 0), (.int .i64 0)] (.t 92) (.t 94)⟩,
     ⟨(some 7), none, .mov (.t 95)⟩])
   .skip)))))))
  (.reg [⟨(some 19), none, .mov (.t 8)⟩,
    ⟨(some 20), none, .bin .add .no (.t 19) (.c (.raw (.int .i64 1)))⟩,
    ⟨(some 8), none, .mov (.t 20)⟩]))))))
 (.seq (.reg [⟨(some 96), none, .mov (.t 7)⟩,
   ⟨(some 6), none, .mov (.t 96)⟩])
 .ret))))
theorem i_rostrumref24_House_bids : Is Tryz.prog 64 97 [.t 6] c_rostrumref24_House_bids := ⟨Tryz.f64, _, p_rostrumref24_House_bids, rfl, rfl, by kernel_rfl, by kernel_rfl, rfl⟩
def p_rostrumref24_best : List (Nat × Pl) := [(5, (.fl 0 (.fl 1 (.fl 2 (.fl 3 (.fl 4 (.fr 5 (.fl 6 (.fr 7 (.fl 8 (.fl 9 (.fr 10 (.fl 11 (.fr 12 (.fl 13 (.fl 14 .done))))))))))))))))]
def c_rostrumref24_best : VCode :=
 (.seq (.reg [⟨(some 2), none, .mov (.c (.raw (.int .i64 0)))⟩])
 (.seq (.reg [⟨(some 3), none, .mov (.c (.raw (.int .i64 (-1))))⟩])
 (.seq (.seq (.reg [⟨(some 4), none, .mov (.c (.raw (.int .i64 0)))⟩])
 (.block 0 (.loop (.seq (.seq (.reg [⟨(some 5), none, .mov (.t 4)⟩,
    ⟨(some 6), none, .mov (.t 0)⟩,
    ⟨(some 7), none, .len .sl (.t 6)⟩,
    ⟨(some 8), none, .bin .lss .no (.t 5) (.t 7)⟩])
  (.cond (.t 8)
   .skip
   (.exit 0)))
  (.seq (.block 1 (.seq (.draw [⟨(some 11), none, .mov (.t 3)⟩,
    ⟨(some 12), none, .bin .lss .no (.t 11) (.c (.raw (.int .i64 0)))⟩,
    ⟨(some 13), none, .mov (.t 12)⟩,
    ⟨(some 14), (some (13, false)), .mov (.t 0)⟩,
    ⟨(some 15), (some (13, false)), .mov (.t 4)⟩,
    ⟨(some 16), (some (13, false)), .iaddr 19 none (.t 14) (.t 15)⟩,
    ⟨(some 17), (some (13, false)), .faddr 17 (.t 16)⟩,
    ⟨(some 18), (some (13, false)), .load none (.t 17)⟩,
    ⟨(some 19), (some (13, false)), .mov (.t 0)⟩,
    ⟨(some 20), (some (13, false)), .mov (.t 3)⟩,
    ⟨(some 21), (some (13, false)), .iaddr 19 none (.t 19) (.t 20)⟩,
    ⟨(some 22), (some (13, false)), .faddr 17 (.t 21)⟩,
    ⟨(some 23), (some (13, false)), .load none (.t 22)⟩,
    ⟨(some 24), (some (13, false)), .bin .gtr .no (.t 18) (.t 23)⟩,
    ⟨(some 25), none, .pick (.t 13) (.c (.kb true)) (.t 24)⟩]
    (.fl 0 (.fl 1 (.fl 2 (.fl 3 (.fl 4 (.fr 5 (.fl 6 (.fr 7 (.fl 8 (.fl 9 (.fr 10 (.fl 11 (.fr 12 (.fl 13 (.fl 14 .done))))))))))))))))
  (.cond (.t 25)
   (.reg [⟨(some 26), none, .mov (.t 4)⟩,
     ⟨(some 3), none, .mov (.t 26)⟩])
   .skip)))
  (.reg [⟨(some 9), none, .mov (.t 4)⟩,
    ⟨(some 10), none, .bin .add .no (.t 9) (.c (.raw (.int .i64 1)))⟩,
    ⟨(some 4), none, .mov (.t 10)⟩]))))))
 (.seq (.reg [⟨(some 27), none, .mov (.t 3)⟩,
   ⟨(some 2), none, .mov (.t 27)⟩])
 .ret))))
theorem i_rostrumref24_best : Is Tryz.prog 65 28 [.t 2] c_rostrumref24_best := ⟨Tryz.f65, _, p_rostrumref24_best, rfl, rfl, by kernel_rfl, by kernel_rfl, rfl⟩
def p_rostrumref7_Less : List (Nat × Pl) := []
def c_rostrumref7_Less : VCode :=
 (.seq (.reg [⟨(some 2), none, .box 23 (.t 0)⟩,
   ⟨(some 3), none, .box 23 (.t 1)⟩,
   ⟨(some 4), none, .mov (.c (.kb false))⟩])
 (.seq (.reg [⟨(some 5), none, .faddr 0 (.t 2)⟩,
   ⟨(some 6), none, .load none (.t 5)⟩,
   ⟨(some 7), none, .faddr 0 (.t 3)⟩,
   ⟨(some 8), none, .load none (.t 7)⟩,
   ⟨(some 9), none, .bin .lss .no (.t 6) (.t 8)⟩,
   ⟨(some 10), none, .mov (.t 9)⟩,
   ⟨(some 11), (some (10, false)), .faddr 0 (.t 2)⟩,
   ⟨(some 12), (some (10, false)), .load none (.t 11)⟩,
   ⟨(some 13), (some (10, false)), .faddr 0 (.t 3)⟩,
   ⟨(some 14), (some (10, false)), .load none (.t 13)⟩,
   ⟨(some 15), (some (10, false)), .bin .eql .no (.t 12) (.t 14)⟩,
   ⟨(some 16), (some (10, false)), .mov (.t 15)⟩,
   ⟨(some 17), (some (16, true)), .faddr 1 (.t 2)⟩,
   ⟨(some 18), (some (16, true)), .load none (.t 17)⟩,
   ⟨(some 19), (some (16, true)), .faddr 1 (.t 3)⟩,
   ⟨(some 20), (some (16, true)), .load none (.t 19)⟩,
   ⟨(some 21), (some (16, true)), .bin .lss .no (.t 18) (.t 20)⟩,
   ⟨(some 22), (some (10, false)), .pick (.t 16) (.t 21) (.c (.kb false))⟩,
   ⟨(some 23), none, .pick (.t 10) (.c (.kb true)) (.t 22)⟩,
   ⟨(some 4), none, .mov (.t 23)⟩])
 .ret))
theorem i_rostrumref7_Less : Is Tryz.prog 66 24 [.t 4] c_rostrumref7_Less := ⟨Tryz.f66, _, p_rostrumref7_Less, rfl, rfl, by kernel_rfl, by kernel_rfl, rfl⟩
def p_rostrumref24_House_Deposited : List (Nat × Pl) := []
def c_rostrumref24_House_Deposited : VCode :=
 (.seq (.reg [⟨(some 4), none, .mov (.c (.raw (.int .i64 0)))⟩])
 (.seq (.reg [⟨(some 5), none, .mov (.c (.raw (.int .i64 0)))⟩])
 (.seq (.seq (.reg [⟨(some 6), none, .mov (.c (.raw (.int .i64 0)))⟩])
 (.block 0 (.loop (.seq (.seq (.reg [⟨(some 7), none, .mov (.t 6)⟩,
    ⟨(some 8), none, .mov (.t 0)⟩,
    ⟨(some 9), none, .nilck (.t 8)⟩,
    ⟨(some 10), none, .faddr 7 (.t 9)⟩,
    ⟨(some 11), none, .load none (.t 10)⟩,
    ⟨(some 12), none, .len .sl (.t 11)⟩,
    ⟨(some 13), none, .bin .lss .no (.t 7) (.t 12)⟩])
  (.cond (.t 13)
   .skip
   (.exit 0)))
  (.seq (.block 1 (.seq (.reg [⟨(some 16), none, .mov (.t 0)⟩,
    ⟨(some 17), none, .nilck (.t 16)⟩,
    ⟨(some 18), none, .faddr 7 (.t 17)⟩,
    ⟨(some 19), none, .load none (.t 18)⟩,
    ⟨(some 20), none, .mov (.t 6)⟩,
    ⟨(some 21), none, .iaddr 19 none (.t 19) (.t 20)⟩,
    ⟨(some 22), none, .faddr 0 (.t 21)⟩,
    ⟨(some 23), none, .load none (.t 22)⟩,
    ⟨(some 24), none, .bin .eql .no (.t 23) (.c (.raw (.int .i64 4)))⟩,
    ⟨(some 25), none, .mov (.t 24)⟩,
    ⟨(some 26), (some (25, true)), .mov (.t 0)⟩,
    ⟨(some 27), (some (25, true)), .nilck (.t 26)⟩,
    ⟨(some 28), (some (25, true)), .faddr 7 (.t 27)⟩,
    ⟨(some 29), (some (25, true)), .load none (.t 28)⟩,
    ⟨(some 30), (some (25, true)), .mov (.t 6)⟩,
    ⟨(some 31), (some (25, true)), .iaddr 19 none (.t 29) (.t 30)⟩,
    ⟨(some 32), (some (25, true)), .faddr 12 (.t 31)⟩,
    ⟨(some 33), (some (25, true)), .load none (.t 32)⟩,
    ⟨(some 34), (some (25, true)), .call 59 [(.t 33)]⟩,
    ⟨(some 35), (some (25, true)), .mov (.t 1)⟩,
    ⟨(some 36), (some (25, true)), .call 59 [(.t 35)]⟩,
    ⟨(some 37), (some (25, true)), .bin .eql .no (.t 34) (.t 36)⟩,
    ⟨(some 38), none, .pick (.t 25) (.t 37) (.c (.kb false))⟩])
  (.cond (.t 38)
   (.reg [⟨(some 39), none, .mov (.t 5)⟩,
     ⟨(some 40), none, .mov (.t 0)⟩,
     ⟨(some 41), none, .nilck (.t 40)⟩,
     ⟨(some 42), none, .faddr 7 (.t 41)⟩,
     ⟨(some 43), none, .load none (.t 42)⟩,
     ⟨(some 44), none, .mov (.t 6)⟩,
     ⟨(some 45), none, .iaddr 19 none (.t 43) (.t 44)⟩,
     ⟨(some 46), none, .faddr 17 (.t 45)⟩,
     ⟨(some 47), none, .load none (.t 46)⟩,
     ⟨(some 48), none, .bin .add .no (.t 39) (.t 47)⟩,
     ⟨(some 5), none, .mov (.t 48)⟩])
   .skip)))
  (.reg [⟨(some 14), none, .mov (.t 6)⟩,
    ⟨(some 15), none, .bin .add .no (.t 14) (.c (.raw (.int .i64 1)))⟩,
    ⟨(some 6), none, .mov (.t 15)⟩]))))))
 (.seq (.seq (.reg [⟨(some 49), none, .mov (.t 5)⟩,
   ⟨(some 50), none, .bin .gtr .no (.t 49) (.c (.raw (.int .i64 1125899906842624)))⟩])
 (.cond (.t 50)
  (.reg [⟨(some 5), none, .mov (.c (.raw (.int .i64 1125899906842624)))⟩])
  .skip))
 (.seq (.reg [⟨(some 51), none, .mov (.t 5)⟩,
   ⟨(some 4), none, .mov (.t 51)⟩])
 .ret)))))
theorem i_rostrumref24_House_Deposited : Is Tryz.prog 67 52 [.t 4] c_rostrumref24_House_Deposited := ⟨Tryz.f67, _, p_rostrumref24_House_Deposited, rfl, rfl, by kernel_rfl, by kernel_rfl, rfl⟩
def p_rostrumref24_House_Open : List (Nat × Pl) := []
def c_rostrumref24_House_Open : VCode :=
 (.seq (.reg [⟨(some 3), none, .box 23 (.t 1)⟩,
   ⟨(some 4), none, .mov (.c (.kb false))⟩])
 (.seq (.reg [⟨(some 12), none, .mov (.t 0)⟩,
   ⟨(some 13), none, .load (some 2) (.t 3)⟩,
   ⟨(some 14), none, .call 61 [(.t 12), (.c (.raw (.int .i64 1))), (.t 13)]⟩,
   ⟨(some 11), none, .mov (.t 14)⟩,
   ⟨(some 15), none, .extr (.t 11) 0⟩,
   ⟨(some 16), none, .extr (.t 11) 1⟩,
   ⟨(some 5), none, .new 36 [(.int .i64 0), (.int .i64 0), (.int .i64 0), (.int .i64 0), (.int .i64 0), (.int .i64 0), (.int .i64 0), (.int .i64 0), (.int .i64 0), (.int .i64 0), (.int .i64 0), (.string (ByteArray.mk #[])), (.string (ByteArray.mk #[])), (.int .i64 0), (.int .i64 0), (.int .i64 0), (.int .i64 0), (.int .i64 0), (.int .i64 0)]⟩,
   ⟨none, none, .store (some 19) (.t 5) (.t 15)⟩,
   ⟨(some 6), none, .mov (.t 16)⟩])
 (.seq (.reg [⟨(some 18), none, .mov (.t 0)⟩,
   ⟨(some 19), none, .load (some 2) (.t 3)⟩,
   ⟨(some 20), none, .call 62 [(.t 18), (.t 19)]⟩,
   ⟨(some 17), none, .mov (.t 20)⟩,
   ⟨(some 21), none, .extr (.t 17) 0⟩,
   ⟨(some 22), none, .extr (.t 17) 1⟩,
   ⟨(some 23), none, .extr (.t 17) 2⟩,
   ⟨(some 24), none, .extr (.t 17) 3⟩,
   ⟨(some 7), none, .new 23 [(.int .i64 0), (.int .i64 0)]⟩,
   ⟨none, none, .store (some 2) (.t 7) (.t 21)⟩,
   ⟨(some 8), none, .mov (.t 22)⟩,
   ⟨(some 9), none, .mov (.t 23)⟩,
   ⟨(some 10), none, .mov (.t 24)⟩])
 (.seq (.reg [⟨(some 25), none, .mov (.t 6)⟩,
   ⟨(some 26), none, .mov (.t 25)⟩,
   ⟨(some 27), (some (26, true)), .mov (.t 10)⟩,
   ⟨(some 28), (some (26, true)), .un .not (.t 27)⟩,
   ⟨(some 29), none, .pick (.t 26) (.t 28) (.c (.kb false))⟩,
   ⟨(some 4), none, .mov (.t 29)⟩])
 .ret))))
theorem i_rostrumref24_House_Open : Is Tryz.prog 68 30 [.t 4] c_rostrumref24_House_Open := ⟨Tryz.f68, _, p_rostrumref24_House_Open, rfl, rfl, by kernel_rfl, by kernel_rfl, rfl⟩
def p_rostrumref24_House_Bids : List (Nat × Pl) := [(2, (.fl 0 (.fr 1 (.fl 2 (.fr 3 (.fl 4 (.fr 5 (.st 6 [] (.fl 7 .done)))))))))]
def c_rostrumref24_House_Bids : VCode :=
 (.seq (.reg [⟨(some 3), none, .box 23 (.t 1)⟩,
   ⟨(some 4), none, .mov (.c (.raw (.slice none 0 0)))⟩])
 (.seq (.reg [⟨(some 5), none, .mov (.c (.raw (.slice none 0 0)))⟩])
 (.seq (.draw [⟨(some 8), none, .mov (.t 0)⟩,
   ⟨(some 9), none, .load (some 2) (.t 3)⟩,
   ⟨(some 10), none, .mov (.t 0)⟩,
   ⟨(some 11), none, .nilck (.t 10)⟩,
   ⟨(some 12), none, .faddr 0 (.t 11)⟩,
   ⟨(some 13), none, .load (some 7) (.t 12)⟩,
   ⟨(some 14), none, .call 64 [(.t 8), (.t 9), (.t 13)]⟩,
   ⟨(some 6), none, .mov (.t 14)⟩]
   (.fl 0 (.fr 1 (.fl 2 (.fr 3 (.fl 4 (.fr 5 (.st 6 [] (.fl 7 .done)))))))))
 (.seq (.seq (.reg [⟨(some 7), none, .mov (.c (.raw (.int .i64 0)))⟩])
 (.block 0 (.loop (.seq (.seq (.reg [⟨(some 15), none, .mov (.t 7)⟩,
    ⟨(some 16), none, .mov (.t 6)⟩,
    ⟨(some 17), none, .len .sl (.t 16)⟩,
    ⟨(some 18), none, .bin .lss .no (.t 15) (.t 17)⟩])
  (.cond (.t 18)
   .skip
   (.exit 0)))
  (.seq (.block 1 (.reg [⟨(some 21), none, .mov (.t 5)⟩,
    ⟨(some 22), none, .mov (.t 6)⟩,
    ⟨(some 23), none, .mov (.t 7)⟩,
    ⟨(some 24), none, .iaddr 19 none (.t 22) (.t 23)⟩,
    ⟨(some 25), none, .faddr 1 (.t 24)⟩,
    ⟨(some 26), none, .load (some 2) (.t 25)⟩,
    ⟨(some 27), none, .bslice 23 1 [(.int .i64 0), (.int .i64 0)] [(0, 2, (.t 26))]⟩,
    ⟨(some 28), none, .append 23 2 16 [(.int .i64 0), (.int .i64 0)] (.t 21) (.t 27)⟩,
    ⟨(some 5), none, .mov (.t 28)⟩]))
  (.reg [⟨(some 19), none, .mov (.t 7)⟩,
    ⟨(some 20), none, .bin .add .no (.t 19) (.c (.raw (.int .i64 1)))⟩,
    ⟨(some 7), none, .mov (.t 20)⟩]))))))
 (.seq (.reg [⟨(some 29), none, .mov (.t 5)⟩,
   ⟨(some 4), none, .mov (.t 29)⟩])
 .ret)))))
theorem i_rostrumref24_House_Bids : Is Tryz.prog 69 30 [.t 4] c_rostrumref24_House_Bids := ⟨Tryz.f69, _, p_rostrumref24_House_Bids, rfl, rfl, by kernel_rfl, by kernel_rfl, rfl⟩
def p_rostrumref24_House_Balance : List (Nat × Pl) := []
def c_rostrumref24_House_Balance : VCode :=
 (.seq (.reg [⟨(some 4), none, .mov (.c (.raw (.int .i64 0)))⟩])
 (.seq (.reg [⟨(some 5), none, .mov (.t 0)⟩,
   ⟨(some 6), none, .mov (.t 1)⟩,
   ⟨(some 7), none, .call 67 [(.t 5), (.t 6)]⟩,
   ⟨(some 8), none, .mov (.t 0)⟩,
   ⟨(some 9), none, .mov (.t 1)⟩,
   ⟨(some 10), none, .call 60 [(.t 8), (.t 9)]⟩,
   ⟨(some 11), none, .bin .sub .no (.t 7) (.t 10)⟩,
   ⟨(some 4), none, .mov (.t 11)⟩])
 .ret))
theorem i_rostrumref24_House_Balance : Is Tryz.prog 70 12 [.t 4] c_rostrumref24_House_Balance := ⟨Tryz.f70, _, p_rostrumref24_House_Balance, rfl, rfl, by kernel_rfl, by kernel_rfl, rfl⟩
def p_dots_Order : List (Nat × Pl) := [(1, (.fl 0 (.fr 1 (.fl 2 (.fr 3 (.fl 5 (.fr 6 (.fl 7 (.fr 8 (.st 4 [6, 8] (.st 9 [] (.st 10 [] (.st 11 [] (.fl 12 .done))))))))))))))]
def c_dots_Order : VCode :=
 (.seq (.reg [⟨(some 2), none, .box 23 (.t 0)⟩,
   ⟨(some 3), none, .box 23 (.t 1)⟩,
   ⟨(some 4), none, .mov (.c (.raw (.int .i64 0)))⟩])
 (.seq (.draw [⟨(some 5), none, .faddr 0 (.t 2)⟩,
   ⟨(some 6), none, .load none (.t 5)⟩,
   ⟨(some 7), none, .faddr 0 (.t 3)⟩,
   ⟨(some 8), none, .load none (.t 7)⟩,
   ⟨(some 9), none, .call 100 [(.t 6), (.t 8)]⟩,
   ⟨(some 10), none, .faddr 1 (.t 2)⟩,
   ⟨(some 11), none, .load none (.t 10)⟩,
   ⟨(some 12), none, .faddr 1 (.t 3)⟩,
   ⟨(some 13), none, .load none (.t 12)⟩,
   ⟨(some 14), none, .call 101 [(.t 11), (.t 13)]⟩,
   ⟨(some 15), none, .bslice 3 2 [(.int .i64 0), (.int .i64 0)] [(0, 1, (.t 9)), (1, 1, (.t 14))]⟩,
   ⟨(some 16), none, .call 99 [(.t 15)]⟩,
   ⟨(some 4), none, .mov (.t 16)⟩]
   (.fl 0 (.fr 1 (.fl 2 (.fr 3 (.fl 5 (.fr 6 (.fl 7 (.fr 8 (.st 4 [6, 8] (.st 9 [] (.st 10 [] (.st 11 [] (.fl 12 .done))))))))))))))
 .ret))
theorem i_dots_Order : Is Tryz.prog 72 17 [.t 4] c_dots_Order := ⟨Tryz.f72, _, p_dots_Order, rfl, rfl, by kernel_rfl, by kernel_rfl, rfl⟩
def p_bytes_Clone : List (Nat × Pl) := []
def c_bytes_Clone : VCode :=
 (.seq (.reg [⟨(some 2), none, .mov (.c (.raw (.slice none 0 0)))⟩])
 (.seq (.seq (.reg [⟨(some 3), none, .mov (.t 0)⟩,
   ⟨(some 4), none, .bin .eql .sl (.t 3) (.c (.raw (.slice none 0 0)))⟩])
 (.cond (.t 4)
  (.seq (.reg [⟨(some 2), none, .mov (.c (.raw (.slice none 0 0)))⟩])
  .ret)
  .skip))
 (.seq (.reg [⟨(some 5), none, .bslice 5 0 [] []⟩,
   ⟨(some 6), none, .mov (.t 0)⟩,
   ⟨(some 7), none, .append 5 1 1 [(.int .u8 0)] (.t 5) (.t 6)⟩,
   ⟨(some 2), none, .mov (.t 7)⟩])
 .ret)))
theorem i_bytes_Clone : Is Tryz.prog 74 8 [.t 2] c_bytes_Clone := ⟨Tryz.f74, _, p_bytes_Clone, rfl, rfl, by kernel_rfl, by kernel_rfl, rfl⟩
def p_pack_Reader_fail : List (Nat × Pl) := []
def c_pack_Reader_fail : VCode :=
 (.seq (.reg [⟨(some 2), none, .mov (.c (.raw (.int .i64 0)))⟩])
 (.seq (.reg [⟨(some 3), none, .mov (.t 0)⟩,
   ⟨(some 4), none, .mov (.t 0)⟩,
   ⟨(some 5), none, .nilck (.t 3)⟩,
   ⟨(some 6), none, .faddr 0 (.t 5)⟩,
   ⟨none, none, .store none (.t 6) (.c (.raw (.slice none 0 0)))⟩,
   ⟨(some 7), none, .nilck (.t 4)⟩,
   ⟨(some 8), none, .faddr 1 (.t 7)⟩,
   ⟨none, none, .store none (.t 8) (.c (.kb true))⟩])
 (.seq (.reg [⟨(some 2), none, .mov (.c (.raw (.int .i64 0)))⟩])
 .ret)))
theorem i_pack_Reader_fail : Is Tryz.prog 75 9 [.t 2] c_pack_Reader_fail := ⟨Tryz.f75, _, p_pack_Reader_fail, rfl, rfl, by kernel_rfl, by kernel_rfl, rfl⟩
def p_pack_Reader_Bad : List (Nat × Pl) := []
def c_pack_Reader_Bad : VCode :=
 (.seq (.reg [⟨(some 2), none, .mov (.c (.kb false))⟩])
 (.seq (.reg [⟨(some 3), none, .mov (.t 0)⟩,
   ⟨(some 4), none, .nilck (.t 3)⟩,
   ⟨(some 5), none, .faddr 1 (.t 4)⟩,
   ⟨(some 6), none, .load none (.t 5)⟩,
   ⟨(some 2), none, .mov (.t 6)⟩])
 .ret))
theorem i_pack_Reader_Bad : Is Tryz.prog 76 7 [.t 2] c_pack_Reader_Bad := ⟨Tryz.f76, _, p_pack_Reader_Bad, rfl, rfl, by kernel_rfl, by kernel_rfl, rfl⟩
def p_pack_Reader_Bytes : List (Nat × Pl) := []
def c_pack_Reader_Bytes : VCode :=
 (.seq (.reg [⟨(some 4), none, .mov (.c (.raw (.slice none 0 0)))⟩])
 (.seq (.reg [⟨(some 7), none, .mov (.t 0)⟩,
   ⟨(some 8), none, .mov (.t 1)⟩,
   ⟨(some 9), none, .call 29 [(.t 7), (.c (.raw (.int .i64 0))), (.t 8)]⟩,
   ⟨(some 5), none, .mov (.t 9)⟩])
 (.seq (.seq (.reg [⟨(some 10), none, .mov (.t 5)⟩,
   ⟨(some 11), none, .mov (.t 0)⟩,
   ⟨(some 12), none, .nilck (.t 11)⟩,
   ⟨(some 13), none, .faddr 0 (.t 12)⟩,
   ⟨(some 14), none, .load none (.t 13)⟩,
   ⟨(some 15), none, .len .sl (.t 14)⟩,
   ⟨(some 16), none, .bin .gtr .no (.t 10) (.t 15)⟩])
 (.cond (.t 16)
  (.seq (.reg [⟨(some 17), none, .mov (.t 0)⟩,
    ⟨(some 18), none, .call 75 [(.t 17)]⟩])
  (.seq (.reg [⟨(some 4), none, .mov (.c (.raw (.slice none 0 0)))⟩])
  .ret))
  .skip))
 (.seq (.reg [⟨(some 19), none, .mov (.t 0)⟩,
   ⟨(some 20), none, .nilck (.t 19)⟩,
   ⟨(some 21), none, .faddr 0 (.t 20)⟩,
   ⟨(some 22), none, .load none (.t 21)⟩,
   ⟨(some 23), none, .mov (.t 5)⟩,
   ⟨(some 24), none, .slice (some 1) (.t 22) none (some (.t 23))⟩,
   ⟨(some 25), none, .call 74 [(.t 24)]⟩,
   ⟨(some 6), none, .mov (.t 25)⟩])
 (.seq (.reg [⟨(some 26), none, .mov (.t 0)⟩,
   ⟨(some 27), none, .mov (.t 0)⟩,
   ⟨(some 28), none, .nilck (.t 27)⟩,
   ⟨(some 29), none, .faddr 0 (.t 28)⟩,
   ⟨(some 30), none, .load none (.t 29)⟩,
   ⟨(some 31), none, .mov (.t 5)⟩,
   ⟨(some 32), none, .slice (some 1) (.t 30) (some (.t 31)) none⟩,
   ⟨(some 33), none, .nilck (.t 26)⟩,
   ⟨(some 34), none, .faddr 0 (.t 33)⟩,
   ⟨none, none, .store none (.t 34) (.t 32)⟩])
 (.seq (.reg [⟨(some 35), none, .mov (.t 6)⟩,
   ⟨(some 4), none, .mov (.t 35)⟩])
 .ret))))))
theorem i_pack_Reader_Bytes : Is Tryz.prog 77 36 [.t 4] c_pack_Reader_Bytes := ⟨Tryz.f77, _, p_pack_Reader_Bytes, rfl, rfl, by kernel_rfl, by kernel_rfl, rfl⟩
def p_rostrumref7_May : List (Nat × Pl) := []
def c_rostrumref7_May : VCode :=
 (.seq (.reg [⟨(some 1), none, .box 23 (.t 0)⟩,
   ⟨(some 2), none, .mov (.c (.kb false))⟩])
 (.seq (.reg [⟨(some 3), none, .faddr 0 (.t 1)⟩,
   ⟨(some 4), none, .load none (.t 3)⟩,
   ⟨(some 5), none, .bin .geq .no (.t 4) (.c (.raw (.int .i64 0)))⟩,
   ⟨(some 6), none, .mov (.t 5)⟩,
   ⟨(some 7), (some (6, true)), .faddr 0 (.t 1)⟩,
   ⟨(some 8), (some (6, true)), .load none (.t 7)⟩,
   ⟨(some 9), (some (6, true)), .bin .lss .no (.t 8) (.c (.raw (.int .i64 7)))⟩,
   ⟨(some 10), none, .pick (.t 6) (.t 9) (.c (.kb false))⟩,
   ⟨(some 11), none, .mov (.t 10)⟩,
   ⟨(some 12), (some (11, true)), .faddr 1 (.t 1)⟩,
   ⟨(some 13), (some (11, true)), .load none (.t 12)⟩,
   ⟨(some 14), (some (11, true)), .bin .geq .no (.t 13) (.c (.raw (.int .i64 1)))⟩,
   ⟨(some 15), none, .pick (.t 11) (.t 14) (.c (.kb false))⟩,
   ⟨(some 16), none, .mov (.t 15)⟩,
   ⟨(some 17), (some (16, true)), .faddr 1 (.t 1)⟩,
   ⟨(some 18), (some (16, true)), .load none (.t 17)⟩,
   ⟨(some 19), (some (16, true)), .bin .leq .no (.t 18) (.c (.raw (.int .i64 1099511627776)))⟩,
   ⟨(some 20), none, .pick (.t 16) (.t 19) (.c (.kb false))⟩,
   ⟨(some 2), none, .mov (.t 20)⟩])
 .ret))
theorem i_rostrumref7_May : Is Tryz.prog 79 21 [.t 2] c_rostrumref7_May := ⟨Tryz.f79, _, p_rostrumref7_May, rfl, rfl, by kernel_rfl, by kernel_rfl, rfl⟩
def p_rostrumref7_Good : List (Nat × Pl) := []
def c_rostrumref7_Good : VCode :=
 (.seq (.reg [⟨(some 1), none, .box 34 (.t 0)⟩,
   ⟨(some 2), none, .mov (.c (.kb false))⟩])
 (.seq (.seq (.reg [⟨(some 3), none, .mov (.c (.raw (.int .i64 0)))⟩])
 (.block 0 (.loop (.seq (.seq (.reg [⟨(some 4), none, .mov (.t 3)⟩,
    ⟨(some 5), none, .bin .lss .no (.t 4) (.c (.raw (.int .i64 7)))⟩])
  (.cond (.t 5)
   .skip
   (.exit 0)))
  (.seq (.block 1 (.seq (.reg [⟨(some 8), none, .mov (.t 3)⟩,
    ⟨(some 9), none, .iaddr 1 (some 7) (.t 1) (.t 8)⟩,
    ⟨(some 10), none, .load none (.t 9)⟩,
    ⟨(some 11), none, .bin .lss .no (.t 10) (.c (.raw (.int .i64 0)))⟩,
    ⟨(some 12), none, .mov (.t 11)⟩,
    ⟨(some 13), (some (12, false)), .mov (.t 3)⟩,
    ⟨(some 14), (some (12, false)), .iaddr 1 (some 7) (.t 1) (.t 13)⟩,
    ⟨(some 15), (some (12, false)), .load none (.t 14)⟩,
    ⟨(some 16), (some (12, false)), .bin .gtr .no (.t 15) (.c (.raw (.int .i64 1099511627776)))⟩,
    ⟨(some 17), none, .pick (.t 12) (.c (.kb true)) (.t 16)⟩])
  (.cond (.t 17)
   (.seq (.reg [⟨(some 2), none, .mov (.c (.kb false))⟩])
   .ret)
   .skip)))
  (.reg [⟨(some 6), none, .mov (.t 3)⟩,
    ⟨(some 7), none, .bin .add .no (.t 6) (.c (.raw (.int .i64 1)))⟩,
    ⟨(some 3), none, .mov (.t 7)⟩]))))))
 (.seq (.reg [⟨(some 2), none, .mov (.c (.kb true))⟩])
 .ret)))
theorem i_rostrumref7_Good : Is Tryz.prog 80 18 [.t 2] c_rostrumref7_Good := ⟨Tryz.f80, _, p_rostrumref7_Good, rfl, rfl, by kernel_rfl, by kernel_rfl, rfl⟩
def p_rostrumref1_GoodName : List (Nat × Pl) := []
def c_rostrumref1_GoodName : VCode :=
 (.seq (.reg [⟨(some 2), none, .mov (.c (.kb false))⟩])
 (.seq (.reg [⟨(some 7), none, .mov (.t 0)⟩,
   ⟨(some 8), none, .call 96 [(.t 7)]⟩,
   ⟨(some 6), none, .mov (.t 8)⟩,
   ⟨(some 9), none, .extr (.t 6) 0⟩,
   ⟨(some 10), none, .extr (.t 6) 1⟩,
   ⟨(some 3), none, .mov (.t 9)⟩,
   ⟨(some 4), none, .mov (.t 10)⟩])
 (.seq (.seq (.reg [⟨(some 11), none, .mov (.t 3)⟩,
   ⟨(some 12), none, .len .sl (.t 11)⟩,
   ⟨(some 13), none, .bin .lss .no (.t 12) (.c (.raw (.int .i64 1)))⟩,
   ⟨(some 14), none, .mov (.t 13)⟩,
   ⟨(some 15), (some (14, false)), .mov (.t 3)⟩,
   ⟨(some 16), (some (14, false)), .len .sl (.t 15)⟩,
   ⟨(some 17), (some (14, false)), .bin .gtr .no (.t 16) (.c (.raw (.int .i64 20)))⟩,
   ⟨(some 18), none, .pick (.t 14) (.c (.kb true)) (.t 17)⟩,
   ⟨(some 19), none, .mov (.t 18)⟩,
   ⟨(some 20), (some (19, false)), .mov (.t 3)⟩,
   ⟨(some 21), (some (19, false)), .iaddr 1 none (.t 20) (.c (.raw (.int .i64 0)))⟩,
   ⟨(some 22), (some (19, false)), .load none (.t 21)⟩,
   ⟨(some 23), (some (19, false)), .call 102 [(.t 22)]⟩,
   ⟨(some 24), (some (19, false)), .un .not (.t 23)⟩,
   ⟨(some 25), none, .pick (.t 19) (.c (.kb true)) (.t 24)⟩])
 (.cond (.t 25)
  (.seq (.reg [⟨(some 2), none, .mov (.c (.kb false))⟩])
  .ret)
  .skip))
 (.seq (.seq (.reg [⟨(some 5), none, .mov (.c (.raw (.int .i64 0)))⟩])
 (.block 0 (.loop (.seq (.seq (.reg [⟨(some 26), none, .mov (.t 5)⟩,
    ⟨(some 27), none, .mov (.t 3)⟩,
    ⟨(some 28), none, .len .sl (.t 27)⟩,
    ⟨(some 29), none, .bin .lss .no (.t 26) (.t 28)⟩])
  (.cond (.t 29)
   .skip
   (.exit 0)))
  (.seq (.block 1 (.seq (.reg [⟨(some 32), none, .mov (.t 0)⟩,
    ⟨(some 33), none, .mov (.t 3)⟩,
    ⟨(some 34), none, .mov (.t 4)⟩,
    ⟨(some 35), none, .mov (.t 5)⟩,
    ⟨(some 36), none, .call 103 [(.t 32), (.t 33), (.t 34), (.t 35)]⟩,
    ⟨(some 37), none, .mov (.t 36)⟩,
    ⟨(some 38), (some (37, false)), .mov (.t 3)⟩,
    ⟨(some 39), (some (37, false)), .mov (.t 5)⟩,
    ⟨(some 40), (some (37, false)), .iaddr 1 none (.t 38) (.t 39)⟩,
    ⟨(some 41), (some (37, false)), .load none (.t 40)⟩,
    ⟨(some 42), (some (37, false)), .call 102 [(.t 41)]⟩,
    ⟨(some 43), (some (37, false)), .un .not (.t 42)⟩,
    ⟨(some 44), (some (37, false)), .mov (.t 43)⟩,
    ⟨(some 45), (some (44, true)), .mov (.t 3)⟩,
    ⟨(some 46), (some (44, true)), .mov (.t 5)⟩,
    ⟨(some 47), (some (44, true)), .iaddr 1 none (.t 45) (.t 46)⟩,
    ⟨(some 48), (some (44, true)), .load none (.t 47)⟩,
    ⟨(some 49), (some (44, true)), .call 104 [(.t 48)]⟩,
    ⟨(some 50), (some (44, true)), .un .not (.t 49)⟩,
    ⟨(some 51), (some (37, false)), .pick (.t 44) (.t 50) (.c (.kb false))⟩,
    ⟨(some 52), (some (37, false)), .mov (.t 51)⟩,
    ⟨(some 53), (some (52, true)), .mov (.t 3)⟩,
    ⟨(some 54), (some (52, true)), .mov (.t 5)⟩,
    ⟨(some 55), (some (52, true)), .iaddr 1 none (.t 53) (.t 54)⟩,
    ⟨(some 56), (some (52, true)), .load none (.t 55)⟩,
    ⟨(some 57), (some (52, true)), .bin .neq .no (.t 56) (.c (.raw (.int .i32 45)))⟩,
    ⟨(some 58), (some (37, false)), .pick (.t 52) (.t 57) (.c (.kb false))⟩,
    ⟨(some 59), none, .pick (.t 37) (.c (.kb true)) (.t 58)⟩])
  (.cond (.t 59)
   (.seq (.reg [⟨(some 2), none, .mov (.c (.kb false))⟩])
   .ret)
   .skip)))
  (.reg [⟨(some 30), none, .mov (.t 5)⟩,
    ⟨(some 31), none, .bin .add .no (.t 30) (.c (.raw (.int .i64 1)))⟩,
    ⟨(some 5), none, .mov (.t 31)⟩]))))))
 (.seq (.reg [⟨(some 2), none, .mov (.c (.kb true))⟩])
 .ret)))))
theorem i_rostrumref1_GoodName : Is Tryz.prog 81 60 [.t 2] c_rostrumref1_GoodName := ⟨Tryz.f81, _, p_rostrumref1_GoodName, rfl, rfl, by kernel_rfl, by kernel_rfl, rfl⟩
def p_pack_Bytes : List (Nat × Pl) := []
def c_pack_Bytes : VCode :=
 (.seq (.reg [⟨(some 4), none, .mov (.c (.raw (.slice none 0 0)))⟩])
 (.seq (.reg [⟨(some 5), none, .mov (.t 0)⟩,
   ⟨(some 6), none, .mov (.t 1)⟩,
   ⟨(some 7), none, .len .sl (.t 6)⟩,
   ⟨(some 8), none, .call 39 [(.t 5), (.t 7)]⟩,
   ⟨(some 9), none, .mov (.t 1)⟩,
   ⟨(some 10), none, .append 5 1 1 [(.int .u8 0)] (.t 8) (.t 9)⟩,
   ⟨(some 4), none, .mov (.t 10)⟩])
 .ret))
theorem i_pack_Bytes : Is Tryz.prog 82 11 [.t 4] c_pack_Bytes := ⟨Tryz.f82, _, p_pack_Bytes, rfl, rfl, by kernel_rfl, by kernel_rfl, rfl⟩
def p_vec_Rep : List (Nat × Pl) := []
def c_vec_Rep : VCode :=
 (.seq (.reg [⟨(some 2), none, .mov (.c (.kb false))⟩])
 (.seq (.reg [⟨(some 3), none, .mov (.t 0)⟩,
   ⟨(some 4), none, .bin .geq .no (.t 3) (.c (.raw (.int .i64 0)))⟩,
   ⟨(some 5), none, .mov (.t 4)⟩,
   ⟨(some 6), (some (5, true)), .mov (.t 0)⟩,
   ⟨(some 7), (some (5, true)), .bin .lss .no (.t 6) (.c (.raw (.int .i64 7)))⟩,
   ⟨(some 8), none, .pick (.t 5) (.t 7) (.c (.kb false))⟩,
   ⟨(some 2), none, .mov (.t 8)⟩])
 .ret))
theorem i_vec_Rep : Is Tryz.prog 83 9 [.t 2] c_vec_Rep := ⟨Tryz.f83, _, p_vec_Rep, rfl, rfl, by kernel_rfl, by kernel_rfl, rfl⟩
def p_name_Good : List (Nat × Pl) := []
def c_name_Good : VCode :=
 (.seq (.reg [⟨(some 2), none, .mov (.c (.kb false))⟩])
 (.seq (.reg [⟨(some 3), none, .mov (.c (.raw (.int .i64 0)))⟩])
 (.seq (.seq (.reg [⟨(some 6), none, .mov (.t 0)⟩,
   ⟨(some 7), none, .range true (.t 6)⟩])
 (.block 0 (.loop (.seq (.reg [⟨(some 8), none, .next true (.t 7)⟩,
    ⟨(some 9), none, .extr (.t 8) 0⟩])
  (.seq (.cond (.t 9)
   .skip
   (.exit 0))
  (.block 1 (.seq (.reg [⟨(some 10), none, .extr (.t 8) 1⟩,
    ⟨(some 11), none, .extr (.t 8) 2⟩,
    ⟨(some 4), none, .mov (.t 10)⟩,
    ⟨(some 5), none, .mov (.t 11)⟩])
  (.seq (.seq (.reg [⟨(some 12), none, .mov (.t 5)⟩,
    ⟨(some 13), none, .mov (.t 4)⟩,
    ⟨(some 14), none, .bin .eql .no (.t 13) (.c (.raw (.int .i64 0)))⟩,
    ⟨(some 15), none, .call 105 [(.t 12), (.t 14)]⟩,
    ⟨(some 16), none, .un .not (.t 15)⟩])
  (.cond (.t 16)
   (.seq (.reg [⟨(some 2), none, .mov (.c (.kb false))⟩])
   .ret)
   .skip))
  (.reg [⟨(some 17), none, .mov (.t 3)⟩,
    ⟨(some 18), none, .bin .add .no (.t 17) (.c (.raw (.int .i64 1)))⟩,
    ⟨(some 3), none, .mov (.t 18)⟩])))))))))
 (.seq (.reg [⟨(some 19), none, .mov (.t 3)⟩,
   ⟨(some 20), none, .bin .geq .no (.t 19) (.c (.raw (.int .i64 1)))⟩,
   ⟨(some 21), none, .mov (.t 20)⟩,
   ⟨(some 22), (some (21, true)), .mov (.t 3)⟩,
   ⟨(some 23), (some (21, true)), .bin .leq .no (.t 22) (.c (.raw (.int .i64 20)))⟩,
   ⟨(some 24), none, .pick (.t 21) (.t 23) (.c (.kb false))⟩,
   ⟨(some 2), none, .mov (.t 24)⟩])
 .ret))))
theorem i_name_Good : Is Tryz.prog 84 25 [.t 2] c_name_Good := ⟨Tryz.f84, _, p_name_Good, rfl, rfl, by kernel_rfl, by kernel_rfl, rfl⟩
def p_gen_maker_auction : List (Nat × Pl) := [(1, (.fl 0 (.fr 1 (.fr 3 (.st 2 [3] (.st 4 [] (.fl 5 (.fl 6 .done))))))))]
def c_gen_maker_auction : VCode :=
 (.seq (.reg [⟨(some 2), none, .box 102 (.t 0)⟩,
   ⟨(some 3), none, .box 23 (.t 1)⟩,
   ⟨(some 4), none, .mov (.c (.raw (.int .i64 0)))⟩])
 (.seq (.block 0 (.seq (.draw [⟨(some 6), none, .faddr 0 (.t 2)⟩,
   ⟨(some 7), none, .load none (.t 6)⟩,
   ⟨(some 8), none, .call 107 [(.t 7)]⟩,
   ⟨(some 9), none, .load (some 2) (.t 3)⟩,
   ⟨(some 10), none, .call 106 [(.t 8), (.t 9)]⟩,
   ⟨(some 11), none, .un .not (.t 10)⟩,
   ⟨(some 5), none, .mov (.t 11)⟩]
   (.fl 0 (.fr 1 (.fr 3 (.st 2 [3] (.st 4 [] (.fl 5 (.fl 6 .done))))))))
 (.cond (.t 5)
  (.seq (.reg [⟨(some 4), none, .mov (.c (.raw (.int .i64 4)))⟩])
  .ret)
  (.seq (.reg [⟨(some 13), none, .faddr 0 (.t 2)⟩,
    ⟨(some 14), none, .load none (.t 13)⟩,
    ⟨(some 15), none, .load (some 2) (.t 3)⟩,
    ⟨(some 16), none, .call 108 [(.t 14), (.t 15)]⟩,
    ⟨(some 17), none, .un .not (.t 16)⟩,
    ⟨(some 12), none, .mov (.t 17)⟩])
  (.cond (.t 12)
   (.seq (.reg [⟨(some 4), none, .mov (.c (.raw (.int .i64 12)))⟩])
   .ret)
   .skip)))))
 (.seq (.reg [⟨(some 4), none, .mov (.c (.raw (.int .i64 0)))⟩])
 .ret)))
theorem i_gen_maker_auction : Is Tryz.prog 85 18 [.t 4] c_gen_maker_auction := ⟨Tryz.f85, _, p_gen_maker_auction, rfl, rfl, by kernel_rfl, by kernel_rfl, rfl⟩
def p_gen_maker_user : List (Nat × Pl) := [(1, (.fl 0 (.fr 1 (.fl 3 (.fl 4 (.fr 5 (.st 2 [5] (.st 6 [] (.st 7 [] (.fl 8 .done))))))))))]
def c_gen_maker_user : VCode :=
 (.seq (.reg [⟨(some 1), none, .box 102 (.t 0)⟩,
   ⟨(some 2), none, .mov (.c (.raw (.int .i64 0)))⟩])
 (.seq (.seq (.draw [⟨(some 3), none, .faddr 0 (.t 1)⟩,
   ⟨(some 4), none, .load none (.t 3)⟩,
   ⟨(some 5), none, .call 110 [(.t 4)]⟩,
   ⟨(some 6), none, .faddr 1 (.t 1)⟩,
   ⟨(some 7), none, .faddr 12 (.t 6)⟩,
   ⟨(some 8), none, .load none (.t 7)⟩,
   ⟨(some 9), none, .call 54 [(.t 8)]⟩,
   ⟨(some 10), none, .call 109 [(.t 5), (.t 9)]⟩,
   ⟨(some 11), none, .un .not (.t 10)⟩]
   (.fl 0 (.fr 1 (.fl 3 (.fl 4 (.fr 5 (.st 2 [5] (.st 6 [] (.st 7 [] (.fl 8 .done))))))))))
 (.cond (.t 11)
  (.seq (.reg [⟨(some 2), none, .mov (.c (.raw (.int .i64 4)))⟩])
  .ret)
  .skip))
 (.seq (.reg [⟨(some 2), none, .mov (.c (.raw (.int .i64 0)))⟩])
 .ret)))
theorem i_gen_maker_user : Is Tryz.prog 86 12 [.t 2] c_gen_maker_user := ⟨Tryz.f86, _, p_gen_maker_user, rfl, rfl, by kernel_rfl, by kernel_rfl, rfl⟩
def p_gen_maker_cancel : List (Nat × Pl) := [(4, (.fl 0 (.fr 1 (.fr 2 (.fl 4 (.fl 5 (.fr 6 (.st 3 [6] (.st 7 [] .done)))))))))]
def c_gen_maker_cancel : VCode :=
 (.seq (.reg [⟨(some 1), none, .box 102 (.t 0)⟩,
   ⟨(some 2), none, .mov (.c (.raw (.int .i64 0)))⟩])
 (.seq (.seq (.reg [⟨(some 5), none, .faddr 0 (.t 1)⟩,
   ⟨(some 6), none, .load none (.t 5)⟩,
   ⟨(some 7), none, .call 107 [(.t 6)]⟩,
   ⟨(some 8), none, .len .sl (.t 7)⟩,
   ⟨(some 9), none, .mov (.c (.raw (.int .i64 0)))⟩])
 (.block 0 (.loop (.seq (.reg [⟨(some 10), none, .bin .lss .no (.t 9) (.t 8)⟩])
  (.seq (.cond (.t 10)
   .skip
   (.exit 0))
  (.seq (.block 1 (.seq (.reg [⟨(some 11), none, .iaddr 2 none (.t 7) (.t 9)⟩,
    ⟨(some 12), none, .load (some 2) (.t 11)⟩,
    ⟨(some 4), none, .new 23 [(.int .i64 0), (.int .i64 0)]⟩,
    ⟨none, none, .store (some 2) (.t 4) (.t 12)⟩])
  (.seq (.draw [⟨(some 13), none, .faddr 0 (.t 1)⟩,
    ⟨(some 14), none, .load none (.t 13)⟩,
    ⟨(some 15), none, .load (some 2) (.t 4)⟩,
    ⟨(some 16), none, .call 111 [(.t 14), (.t 15)]⟩,
    ⟨(some 17), none, .faddr 1 (.t 1)⟩,
    ⟨(some 18), none, .faddr 15 (.t 17)⟩,
    ⟨(some 19), none, .load (some 2) (.t 18)⟩,
    ⟨(some 20), none, .call 106 [(.t 16), (.t 19)]⟩]
    (.fl 0 (.fr 1 (.fr 2 (.fl 4 (.fl 5 (.fr 6 (.st 3 [6] (.st 7 [] .done)))))))))
  (.cond (.t 20)
   (.seq (.reg [⟨(some 21), none, .load (some 20) (.t 1)⟩,
     ⟨(some 22), none, .load (some 2) (.t 4)⟩,
     ⟨(some 23), none, .call 85 [(.t 21), (.t 22)]⟩,
     ⟨(some 2), none, .mov (.t 23)⟩])
   .ret)
   .skip))))
  (.reg [⟨(some 24), none, .bin .add .no (.t 9) (.c (.raw (.int .i64 1)))⟩,
    ⟨(some 9), none, .mov (.t 24)⟩])))))))
 (.seq (.reg [⟨(some 2), none, .mov (.c (.raw (.int .i64 4)))⟩])
 .ret)))
theorem i_gen_maker_cancel : Is Tryz.prog 87 25 [.t 2] c_gen_maker_cancel := ⟨Tryz.f87, _, p_gen_maker_cancel, rfl, rfl, by kernel_rfl, by kernel_rfl, rfl⟩
def p_auct_House_Balance : List (Nat × Pl) := [(1, (.fl 0 (.fl 1 (.fl 3 (.fr 4 (.fl 5 (.fr 6 (.fl 7 (.st 2 [4, 6] (.st 8 [4, 6] (.fr 9 (.fl 10 (.fl 11 .done)))))))))))))]
def c_auct_House_Balance : VCode :=
 (.seq (.reg [⟨(some 4), none, .mov (.c (.raw (.int .i64 0)))⟩])
 (.seq (.draw [⟨(some 5), none, .mov (.t 0)⟩,
   ⟨(some 6), none, .mov (.t 1)⟩,
   ⟨(some 7), none, .call 51 [(.t 5), (.t 6)]⟩,
   ⟨(some 8), none, .mov (.t 0)⟩,
   ⟨(some 9), none, .nilck (.t 8)⟩,
   ⟨(some 10), none, .faddr 10 (.t 9)⟩,
   ⟨(some 11), none, .load none (.t 10)⟩,
   ⟨(some 12), none, .mov (.t 1)⟩,
   ⟨(some 13), none, .call 54 [(.t 12)]⟩,
   ⟨(some 14), none, .lookup 96 false (.t 11) (.t 13)⟩,
   ⟨(some 15), none, .bin .sub .no (.t 7) (.t 14)⟩,
   ⟨(some 4), none, .mov (.t 15)⟩]
   (.fl 0 (.fl 1 (.fl 3 (.fr 4 (.fl 5 (.fr 6 (.fl 7 (.st 2 [4, 6] (.st 8 [4, 6] (.fr 9 (.fl 10 (.fl 11 .done)))))))))))))
 .ret))
theorem i_auct_House_Balance : Is Tryz.prog 88 16 [.t 4] c_auct_House_Balance := ⟨Tryz.f88, _, p_auct_House_Balance, rfl, rfl, by kernel_rfl, by kernel_rfl, rfl⟩
def p_strings_Builder_WriteRune : List (Nat × Pl) := []
def c_strings_Builder_WriteRune : VCode :=
 (.seq (.reg [⟨(some 4), none, .mov (.c (.raw (.int .i64 0)))⟩,
   ⟨(some 5), none, .mov (.c (.raw .nilIface))⟩])
 (.seq (.reg [⟨(some 7), none, .mov (.t 0)⟩,
   ⟨(some 8), none, .call 112 [(.t 7)]⟩])
 (.seq (.reg [⟨(some 9), none, .mov (.t 0)⟩,
   ⟨(some 10), none, .nilck (.t 9)⟩,
   ⟨(some 11), none, .faddr 1 (.t 10)⟩,
   ⟨(some 12), none, .load none (.t 11)⟩,
   ⟨(some 13), none, .len .sl (.t 12)⟩,
   ⟨(some 6), none, .mov (.t 13)⟩])
 (.seq (.reg [⟨(some 14), none, .mov (.t 0)⟩,
   ⟨(some 15), none, .mov (.t 0)⟩,
   ⟨(some 16), none, .nilck (.t 15)⟩,
   ⟨(some 17), none, .faddr 1 (.t 16)⟩,
   ⟨(some 18), none, .load none (.t 17)⟩,
   ⟨(some 19), none, .mov (.t 1)⟩,
   ⟨(some 20), none, .call 113 [(.t 18), (.t 19)]⟩,
   ⟨(some 21), none, .nilck (.t 14)⟩,
   ⟨(some 22), none, .faddr 1 (.t 21)⟩,
   ⟨none, none, .store none (.t 22) (.t 20)⟩])
 (.seq (.reg [⟨(some 23), none, .mov (.t 0)⟩,
   ⟨(some 24), none, .nilck (.t 23)⟩,
   ⟨(some 25), none, .faddr 1 (.t 24)⟩,
   ⟨(some 26), none, .load none (.t 25)⟩,
   ⟨(some 27), none, .len .sl (.t 26)⟩,
   ⟨(some 28), none, .mov (.t 6)⟩,
   ⟨(some 29), none, .bin .sub .no (.t 27) (.t 28)⟩,
   ⟨(some 4), none, .mov (.t 29)⟩,
   ⟨(some 5), none, .mov (.c (.raw .nilIface))⟩])
 .ret)))))
theorem i_strings_Builder_WriteRune : Is Tryz.prog 89 30 [.t 4, .t 5] c_strings_Builder_WriteRune := ⟨Tryz.f89, _, p_strings_Builder_WriteRune, rfl, rfl, by kernel_rfl, by kernel_rfl, rfl⟩
def p_slices_DeleteFunc_sl_api_Dot_api_Dot : List (Nat × Pl) := []
def c_slices_DeleteFunc_sl_api_Dot_api_Dot : VCode :=
 (.seq (.reg [⟨(some 4), none, .mov (.c (.raw (.slice none 0 0)))⟩])
 (.seq (.reg [⟨(some 8), none, .mov (.t 0)⟩,
   ⟨(some 9), none, .mov (.t 1)⟩,
   ⟨(some 10), none, .call 115 [(.t 8), (.t 9)]⟩,
   ⟨(some 5), none, .mov (.t 10)⟩])
 (.seq (.seq (.reg [⟨(some 11), none, .mov (.t 5)⟩,
   ⟨(some 12), none, .bin .eql .no (.t 11) (.c (.raw (.int .i64 (-1))))⟩])
 (.cond (.t 12)
  (.seq (.reg [⟨(some 13), none, .mov (.t 0)⟩,
    ⟨(some 4), none, .mov (.t 13)⟩])
  .ret)
  .skip))
 (.seq (.seq (.reg [⟨(some 14), none, .mov (.t 5)⟩,
   ⟨(some 15), none, .bin .add .no (.t 14) (.c (.raw (.int .i64 1)))⟩,
   ⟨(some 6), none, .mov (.t 15)⟩])
 (.block 0 (.loop (.seq (.seq (.reg [⟨(some 16), none, .mov (.t 6)⟩,
    ⟨(some 17), none, .mov (.t 0)⟩,
    ⟨(some 18), none, .len .sl (.t 17)⟩,
    ⟨(some 19), none, .bin .lss .no (.t 16) (.t 18)⟩])
  (.cond (.t 19)
   .skip
   (.exit 0)))
  (.seq (.block 1 (.seq (.reg [⟨(some 22), none, .mov (.t 0)⟩,
    ⟨(some 23), none, .mov (.t 6)⟩,
    ⟨(some 24), none, .iaddr 2 none (.t 22) (.t 23)⟩,
    ⟨(some 25), none, .load (some 2) (.t 24)⟩,
    ⟨(some 7), none, .new 23 [(.int .i64 0), (.int .i64 0)]⟩,
    ⟨none, none, .store (some 2) (.t 7) (.t 25)⟩])
  (.seq (.reg [⟨(some 26), none, .mov (.t 1)⟩,
    ⟨(some 27), none, .load (some 2) (.t 7)⟩,
    ⟨(some 28), none, .callv (.t 26) [(.t 27)]⟩,
    ⟨(some 29), none, .un .not (.t 28)⟩])
  (.cond (.t 29)
   (.seq (.reg [⟨(some 30), none, .mov (.t 0)⟩,
     ⟨(some 31), none, .mov (.t 5)⟩,
     ⟨(some 32), none, .load (some 2) (.t 7)⟩,
     ⟨(some 33), none, .iaddr 2 none (.t 30) (.t 31)⟩,
     ⟨none, none, .store (some 2) (.t 33) (.t 32)⟩])
   (.reg [⟨(some 34), none, .mov (.t 5)⟩,
     ⟨(some 35), none, .bin .add .no (.t 34) (.c (.raw (.int .i64 1)))⟩,
     ⟨(some 5), none, .mov (.t 35)⟩]))
   .skip))))
  (.reg [⟨(some 20), none, .mov (.t 6)⟩,
    ⟨(some 21), none, .bin .add .no (.t 20) (.c (.raw (.int .i64 1)))⟩,
    ⟨(some 6), none, .mov (.t 21)⟩]))))))
 (.seq (.reg [⟨(some 36), none, .mov (.t 0)⟩,
   ⟨(some 37), none, .mov (.t 5)⟩,
   ⟨(some 38), none, .slice (some 2) (.t 36) (some (.t 37)) none⟩,
   ⟨none, none, .clear 2 [(.int .i64 0), (.int .i64 0)] (.t 38)⟩])
 (.seq (.reg [⟨(some 39), none, .mov (.t 0)⟩,
   ⟨(some 40), none, .mov (.t 5)⟩,
   ⟨(some 41), none, .slice (some 2) (.t 39) none (some (.t 40))⟩,
   ⟨(some 4), none, .mov (.t 41)⟩])
 .ret))))))
theorem i_slices_DeleteFunc_sl_api_Dot_api_Dot : Is Tryz.prog 92 42 [.t 4] c_slices_DeleteFunc_sl_api_Dot_api_Dot := ⟨Tryz.f92, _, p_slices_DeleteFunc_sl_api_Dot_api_Dot, rfl, rfl, by kernel_rfl, by kernel_rfl, rfl⟩
def p_auct_House_bids : List (Nat × Pl) := []
def c_auct_House_bids : VCode :=
 (.seq (.reg [⟨(some 4), none, .box 23 (.t 1)⟩,
   ⟨(some 5), none, .box 25 (.t 2)⟩,
   ⟨(some 6), none, .mov (.c (.raw (.slice none 0 0)))⟩])
 (.seq (.reg [⟨(some 11), none, .mkmap⟩,
   ⟨(some 7), none, .new 170 [(.map none)]⟩,
   ⟨none, none, .store none (.t 7) (.t 11)⟩])
 (.seq (.reg [⟨(some 8), none, .mov (.c (.raw (.slice none 0 0)))⟩])
 (.seq (.seq (.reg [⟨(some 12), none, .mov (.t 0)⟩,
   ⟨(some 13), none, .nilck (.t 12)⟩,
   ⟨(some 14), none, .faddr 7 (.t 13)⟩,
   ⟨(some 15), none, .load none (.t 14)⟩,
   ⟨(some 16), none, .range false (.t 15)⟩])
 (.block 0 (.loop (.seq (.reg [⟨(some 17), none, .next false (.t 16)⟩,
    ⟨(some 18), none, .extr (.t 17) 0⟩])
  (.seq (.cond (.t 18)
   .skip
   (.exit 0))
  (.block 1 (.seq (.reg [⟨(some 19), none, .entry (.t 16)⟩,
    ⟨(some 20), none, .extr (.t 19) 0⟩,
    ⟨(some 21), none, .extr (.t 19) 1⟩,
    ⟨(some 9), none, .new 23 [(.int .i64 0), (.int .i64 0)]⟩,
    ⟨(some 10), none, .new 27 [(.int .i64 0), (.int .i64 0), (.int .i64 0), (.int .i64 0), (.int .i64 0), (.int .i64 0), (.int .i64 0), (.int .i64 0), (.int .i64 0), (.int .i64 0), (.int .i64 0), (.string (ByteArray.mk #[])), (.string (ByteArray.mk #[])), (.int .i64 0), (.int .i64 0), (.int .i64 0), (.int .i64 0), (.int .i64 0), (.int .i64 0)]⟩,
    ⟨none, none, .store (some 2) (.t 9) (.t 20)⟩,
    ⟨none, none, .store (some 19) (.t 10) (.t 21)⟩])
  (.block 2 (.seq (.reg [⟨(some 23), none, .load (some 7) (.t 5)⟩,
    ⟨(some 24), none, .load (some 2) (.t 9)⟩,
    ⟨(some 25), none, .call 55 [(.t 23), (.t 24)]⟩,
    ⟨(some 26), none, .un .not (.t 25)⟩,
    ⟨(some 22), none, .mov (.t 26)⟩])
  (.cond (.t 22)
   .skip
   (.seq (.reg [⟨(some 28), none, .faddr 0 (.t 10)⟩,
     ⟨(some 29), none, .load none (.t 28)⟩,
     ⟨(some 30), none, .bin .eql .no (.t 29) (.c (.raw (.int .i64 3)))⟩,
     ⟨(some 27), none, .mov (.t 30)⟩])
   (.cond (.t 27)
    (.reg [⟨(some 31), none, .load none (.t 7)⟩,
      ⟨(some 32), none, .faddr 15 (.t 10)⟩,
      ⟨(some 33), none, .load (some 2) (.t 32)⟩,
      ⟨none, none, .mapup 170 (.t 31) (.t 33) (.c (.kb true))⟩])
    (.seq (.reg [⟨(some 35), none, .faddr 0 (.t 10)⟩,
      ⟨(some 36), none, .load none (.t 35)⟩,
      ⟨(some 37), none, .bin .eql .no (.t 36) (.c (.raw (.int .i64 2)))⟩,
      ⟨(some 38), none, .mov (.t 37)⟩,
      ⟨(some 39), (some (38, true)), .faddr 13 (.t 10)⟩,
      ⟨(some 40), (some (38, true)), .load (some 2) (.t 39)⟩,
      ⟨(some 41), (some (38, true)), .load (some 2) (.t 4)⟩,
      ⟨(some 42), (some (38, true)), .bin .eql (.agg [.i, .i]) (.t 40) (.t 41)⟩,
      ⟨(some 43), none, .pick (.t 38) (.t 42) (.c (.kb false))⟩,
      ⟨(some 34), none, .mov (.t 43)⟩])
    (.cond (.t 34)
     (.reg [⟨(some 44), none, .mov (.t 8)⟩,
       ⟨(some 45), none, .load (some 2) (.t 9)⟩,
       ⟨(some 46), none, .bslice 23 1 [(.int .i64 0), (.int .i64 0)] [(0, 2, (.t 45))]⟩,
       ⟨(some 47), none, .append 23 2 16 [(.int .i64 0), (.int .i64 0)] (.t 44) (.t 46)⟩,
       ⟨(some 8), none, .mov (.t 47)⟩])
     .skip))))))))))))))
 (.seq (.reg [⟨(some 48), none, .mov (.t 8)⟩,
   ⟨(some 49), none, .call 71 [(.t 48), (.c (.fn 72 []))]⟩])
 (.seq (.reg [⟨(some 50), none, .mov (.t 8)⟩,
   ⟨(some 51), none, .mkfn 116 [(.t 7)]⟩,
   ⟨(some 52), none, .call 92 [(.t 50), (.t 51)]⟩,
   ⟨(some 6), none, .mov (.t 52)⟩])
 .ret))))))
theorem i_auct_House_bids : Is Tryz.prog 93 53 [.t 6] c_auct_House_bids := ⟨Tryz.f93, _, p_auct_House_bids, rfl, rfl, by kernel_rfl, by kernel_rfl, rfl⟩
def p_auct_House_ends_1 : List (Nat × Pl) := [(1, (.fr 0 (.fr 1 (.fl 2 (.fr 3 (.fr 4 (.fr 5 (.fl 6 (.fr 7 (.fr 8 (.fr 9 (.fl 10 (.st 11 [0, 1, 3] (.fr 12 (.fl 13 (.fl 14 .done))))))))))))))))]
def c_auct_House_ends_1 : VCode :=
 (.seq (.reg [⟨(some 2), none, .box 23 (.t 0)⟩,
   ⟨(some 3), none, .mov (.c (.kb false))⟩])
 (.seq (.draw [⟨(some 4), none, .load none (.t 1)⟩,
   ⟨(some 5), none, .nilck (.t 4)⟩,
   ⟨(some 6), none, .faddr 9 (.t 5)⟩,
   ⟨(some 7), none, .load none (.t 6)⟩,
   ⟨(some 8), none, .load none (.t 1)⟩,
   ⟨(some 9), none, .nilck (.t 8)⟩,
   ⟨(some 10), none, .faddr 7 (.t 9)⟩,
   ⟨(some 11), none, .load none (.t 10)⟩,
   ⟨(some 12), none, .load (some 2) (.t 2)⟩,
   ⟨(some 13), none, .lookup 94 false (.t 11) (.t 12)⟩,
   ⟨(some 14), none, .field 12 none (.t 13)⟩,
   ⟨(some 15), none, .call 54 [(.t 14)]⟩,
   ⟨(some 16), none, .lookup 95 false (.t 7) (.t 15)⟩,
   ⟨(some 17), none, .un .not (.t 16)⟩,
   ⟨(some 3), none, .mov (.t 17)⟩]
   (.fr 0 (.fr 1 (.fl 2 (.fr 3 (.fr 4 (.fr 5 (.fl 6 (.fr 7 (.fr 8 (.fr 9 (.fl 10 (.st 11 [0, 1, 3] (.fr 12 (.fl 13 (.fl 14 .done))))))))))))))))
 .ret))
theorem i_auct_House_ends_1 : Is Tryz.prog 94 18 [.t 3] c_auct_House_ends_1 := ⟨Tryz.f94, _, p_auct_House_ends_1, rfl, rfl, by kernel_rfl, by kernel_rfl, rfl⟩
def p_auct_House_best : List (Nat × Pl) := []
def c_auct_House_best : VCode :=
 (.seq (.reg [⟨(some 2), none, .box 43 (.t 0)⟩,
   ⟨(some 4), none, .new 23 [(.int .i64 0), (.int .i64 0)]⟩,
   ⟨(some 5), none, .mov (.c (.kb false))⟩])
 (.seq (.seq (.reg [⟨(some 6), none, .mov (.t 1)⟩,
   ⟨(some 7), none, .len .sl (.t 6)⟩,
   ⟨(some 8), none, .bin .eql .no (.t 7) (.c (.raw (.int .i64 0)))⟩])
 (.cond (.t 8)
  (.seq (.reg [⟨(some 9), none, .build [(.int .i64 0), (.int .i64 0)] []⟩,
    ⟨none, none, .store (some 2) (.t 4) (.t 9)⟩,
    ⟨(some 5), none, .mov (.c (.kb false))⟩])
  .ret)
  .skip))
 (.seq (.reg [⟨(some 10), none, .mov (.t 1)⟩,
   ⟨(some 11), none, .mkfn 118 [(.t 2)]⟩,
   ⟨(some 12), none, .call 117 [(.t 10), (.t 11)]⟩,
   ⟨none, none, .store (some 2) (.t 4) (.t 12)⟩,
   ⟨(some 5), none, .mov (.c (.kb true))⟩])
 .ret)))
theorem i_auct_House_best : Is Tryz.prog 95 13 [.cell 4 (some 2), .t 5] c_auct_House_best := ⟨Tryz.f95, _, p_auct_House_best, rfl, rfl, by kernel_rfl, by kernel_rfl, rfl⟩
def p_rostrumref1_Runes : List (Nat × Pl) := []
def c_rostrumref1_Runes : VCode :=
 (.seq (.reg [⟨(some 2), none, .mov (.c (.raw (.slice none 0 0)))⟩,
   ⟨(some 3), none, .mov (.c (.raw (.slice none 0 0)))⟩])
 (.seq (.reg [⟨(some 4), none, .mov (.c (.raw (.slice none 0 0)))⟩])
 (.seq (.reg [⟨(some 5), none, .mov (.c (.raw (.slice none 0 0)))⟩])
 (.seq (.seq (.reg [⟨(some 8), none, .mov (.t 0)⟩,
   ⟨(some 9), none, .range true (.t 8)⟩])
 (.block 0 (.loop (.seq (.reg [⟨(some 10), none, .next true (.t 9)⟩,
    ⟨(some 11), none, .extr (.t 10) 0⟩])
  (.seq (.cond (.t 11)
   .skip
   (.exit 0))
  (.block 1 (.seq (.reg [⟨(some 12), none, .extr (.t 10) 1⟩,
    ⟨(some 13), none, .extr (.t 10) 2⟩,
    ⟨(some 6), none, .mov (.t 12)⟩,
    ⟨(some 7), none, .mov (.t 13)⟩])
  (.seq (.reg [⟨(some 14), none, .mov (.t 4)⟩,
    ⟨(some 15), none, .mov (.t 7)⟩,
    ⟨(some 16), none, .bslice 21 1 [(.int .i32 0)] [(0, 1, (.t 15))]⟩,
    ⟨(some 17), none, .append 21 1 4 [(.int .i32 0)] (.t 14) (.t 16)⟩,
    ⟨(some 4), none, .mov (.t 17)⟩])
  (.reg [⟨(some 18), none, .mov (.t 5)⟩,
    ⟨(some 19), none, .mov (.t 6)⟩,
    ⟨(some 20), none, .bslice 3 1 [(.int .i64 0)] [(0, 1, (.t 19))]⟩,
    ⟨(some 21), none, .append 3 1 8 [(.int .i64 0)] (.t 18) (.t 20)⟩,
    ⟨(some 5), none, .mov (.t 21)⟩])))))))))
 (.seq (.reg [⟨(some 22), none, .mov (.t 4)⟩,
   ⟨(some 23), none, .mov (.t 5)⟩,
   ⟨(some 24), none, .mov (.t 0)⟩,
   ⟨(some 25), none, .len .str (.t 24)⟩,
   ⟨(some 26), none, .bslice 3 1 [(.int .i64 0)] [(0, 1, (.t 25))]⟩,
   ⟨(some 27), none, .append 3 1 8 [(.int .i64 0)] (.t 23) (.t 26)⟩,
   ⟨(some 2), none, .mov (.t 22)⟩,
   ⟨(some 3), none, .mov (.t 27)⟩])
 .ret)))))
theorem i_rostrumref1_Runes : Is Tryz.prog 96 28 [.t 2, .t 3] c_rostrumref1_Runes := ⟨Tryz.f96, _, p_rostrumref1_Runes, rfl, rfl, by kernel_rfl, by kernel_rfl, rfl⟩
def p_cmp_Or_int : List (Nat × Pl) := []
def c_cmp_Or_int : VCode :=
 (.seq (.reg [⟨(some 2), none, .mov (.c (.raw (.int .i64 0)))⟩])
 (.seq (.reg [⟨(some 3), none, .mov (.c (.raw (.int .i64 0)))⟩])
 (.seq (.seq (.reg [⟨(some 6), none, .mov (.t 0)⟩,
   ⟨(some 7), none, .len .sl (.t 6)⟩,
   ⟨(some 8), none, .mov (.c (.raw (.int .i64 0)))⟩])
 (.block 0 (.loop (.seq (.reg [⟨(some 9), none, .bin .lss .no (.t 8) (.t 7)⟩])
  (.seq (.cond (.t 9)
   .skip
   (.exit 0))
  (.seq (.block 1 (.seq (.reg [⟨(some 10), none, .iaddr 1 none (.t 6) (.t 8)⟩,
    ⟨(some 11), none, .load none (.t 10)⟩,
    ⟨(some 5), none, .mov (.t 11)⟩])
  (.seq (.reg [⟨(some 12), none, .mov (.t 5)⟩,
    ⟨(some 13), none, .mov (.t 3)⟩,
    ⟨(some 14), none, .bin .neq .no (.t 12) (.t 13)⟩])
  (.cond (.t 14)
   (.seq (.reg [⟨(some 15), none, .mov (.t 5)⟩,
     ⟨(some 2), none, .mov (.t 15)⟩])
   .ret)
   .skip))))
  (.reg [⟨(some 16), none, .bin .add .no (.t 8) (.c (.raw (.int .i64 1)))⟩,
    ⟨(some 8), none, .mov (.t 16)⟩])))))))
 (.seq (.reg [⟨(some 17), none, .mov (.t 3)⟩,
   ⟨(some 2), none, .mov (.t 17)⟩])
 .ret))))
theorem i_cmp_Or_int : Is Tryz.prog 99 18 [.t 2] c_cmp_Or_int := ⟨Tryz.f99, _, p_cmp_Or_int, rfl, rfl, by kernel_rfl, by kernel_rfl, rfl⟩
def p_cmp_Compare_int : List (Nat × Pl) := []
def c_cmp_Compare_int : VCode :=
 (.seq (.reg [⟨(some 4), none, .mov (.c (.raw (.int .i64 0)))⟩])
 (.seq (.reg [⟨(some 7), none, .mov (.t 0)⟩,
   ⟨(some 8), none, .call 129 [(.t 7)]⟩,
   ⟨(some 5), none, .mov (.t 8)⟩])
 (.seq (.reg [⟨(some 9), none, .mov (.t 1)⟩,
   ⟨(some 10), none, .call 129 [(.t 9)]⟩,
   ⟨(some 6), none, .mov (.t 10)⟩])
 (.seq (.seq (.reg [⟨(some 11), none, .mov (.t 5)⟩])
 (.cond (.t 11)
  (.seq (.seq (.reg [⟨(some 12), none, .mov (.t 6)⟩])
  (.cond (.t 12)
   (.seq (.reg [⟨(some 4), none, .mov (.c (.raw (.int .i64 0)))⟩])
   .ret)
   .skip))
  (.seq (.reg [⟨(some 4), none, .mov (.c (.raw (.int .i64 (-1))))⟩])
  .ret))
  .skip))
 (.seq (.seq (.reg [⟨(some 13), none, .mov (.t 6)⟩])
 (.cond (.t 13)
  (.seq (.reg [⟨(some 4), none, .mov (.c (.raw (.int .i64 1)))⟩])
  .ret)
  .skip))
 (.seq (.seq (.reg [⟨(some 14), none, .mov (.t 0)⟩,
   ⟨(some 15), none, .mov (.t 1)⟩,
   ⟨(some 16), none, .bin .lss .no (.t 14) (.t 15)⟩])
 (.cond (.t 16)
  (.seq (.reg [⟨(some 4), none, .mov (.c (.raw (.int .i64 (-1))))⟩])
  .ret)
  .skip))
 (.seq (.seq (.reg [⟨(some 17), none, .mov (.t 0)⟩,
   ⟨(some 18), none, .mov (.t 1)⟩,
   ⟨(some 19), none, .bin .gtr .no (.t 17) (.t 18)⟩])
 (.cond (.t 19)
  (.seq (.reg [⟨(some 4), none, .mov (.c (.raw (.int .i64 1)))⟩])
  .ret)
  .skip))
 (.seq (.reg [⟨(some 4), none, .mov (.c (.raw (.int .i64 0)))⟩])
 .ret))))))))
theorem i_cmp_Compare_int : Is Tryz.prog 100 20 [.t 4] c_cmp_Compare_int := ⟨Tryz.f100, _, p_cmp_Compare_int, rfl, rfl, by kernel_rfl, by kernel_rfl, rfl⟩
def p_cmp_Compare_int64 : List (Nat × Pl) := []
def c_cmp_Compare_int64 : VCode :=
 (.seq (.reg [⟨(some 4), none, .mov (.c (.raw (.int .i64 0)))⟩])
 (.seq (.reg [⟨(some 7), none, .mov (.t 0)⟩,
   ⟨(some 8), none, .call 130 [(.t 7)]⟩,
   ⟨(some 5), none, .mov (.t 8)⟩])
 (.seq (.reg [⟨(some 9), none, .mov (.t 1)⟩,
   ⟨(some 10), none, .call 130 [(.t 9)]⟩,
   ⟨(some 6), none, .mov (.t 10)⟩])
 (.seq (.seq (.reg [⟨(some 11), none, .mov (.t 5)⟩])
 (.cond (.t 11)
  (.seq (.seq (.reg [⟨(some 12), none, .mov (.t 6)⟩])
  (.cond (.t 12)
   (.seq (.reg [⟨(some 4), none, .mov (.c (.raw (.int .i64 0)))⟩])
   .ret)
   .skip))
  (.seq (.reg [⟨(some 4), none, .mov (.c (.raw (.int .i64 (-1))))⟩])
  .ret))
  .skip))
 (.seq (.seq (.reg [⟨(some 13), none, .mov (.t 6)⟩])
 (.cond (.t 13)
  (.seq (.reg [⟨(some 4), none, .mov (.c (.raw (.int .i64 1)))⟩])
  .ret)
  .skip))
 (.seq (.seq (.reg [⟨(some 14), none, .mov (.t 0)⟩,
   ⟨(some 15), none, .mov (.t 1)⟩,
   ⟨(some 16), none, .bin .lss .no (.t 14) (.t 15)⟩])
 (.cond (.t 16)
  (.seq (.reg [⟨(some 4), none, .mov (.c (.raw (.int .i64 (-1))))⟩])
  .ret)
  .skip))
 (.seq (.seq (.reg [⟨(some 17), none, .mov (.t 0)⟩,
   ⟨(some 18), none, .mov (.t 1)⟩,
   ⟨(some 19), none, .bin .gtr .no (.t 17) (.t 18)⟩])
 (.cond (.t 19)
  (.seq (.reg [⟨(some 4), none, .mov (.c (.raw (.int .i64 1)))⟩])
  .ret)
  .skip))
 (.seq (.reg [⟨(some 4), none, .mov (.c (.raw (.int .i64 0)))⟩])
 .ret))))))))
theorem i_cmp_Compare_int64 : Is Tryz.prog 101 20 [.t 4] c_cmp_Compare_int64 := ⟨Tryz.f101, _, p_cmp_Compare_int64, rfl, rfl, by kernel_rfl, by kernel_rfl, rfl⟩
def p_rostrumref1_bad : List (Nat × Pl) := [(1, (.fl 0 (.fl 1 (.fr 2 (.fr 3 (.fl 4 (.fl 5 (.fl 6 (.fl 7 (.fl 8 (.fr 9 (.fr 10 (.fl 11 (.fl 12 (.fr 13 (.fr 14 (.fl 15 (.fl 16 (.fl 17 (.fl 18 .done))))))))))))))))))))]
def c_rostrumref1_bad : VCode :=
 (.seq (.reg [⟨(some 8), none, .mov (.c (.kb false))⟩])
 (.seq (.draw [⟨(some 9), none, .mov (.t 1)⟩,
   ⟨(some 10), none, .mov (.t 3)⟩,
   ⟨(some 11), none, .iaddr 1 none (.t 9) (.t 10)⟩,
   ⟨(some 12), none, .load none (.t 11)⟩,
   ⟨(some 13), none, .bin .eql .no (.t 12) (.c (.raw (.int .i32 65533)))⟩,
   ⟨(some 14), none, .mov (.t 13)⟩,
   ⟨(some 15), (some (14, true)), .mov (.t 2)⟩,
   ⟨(some 16), (some (14, true)), .mov (.t 3)⟩,
   ⟨(some 17), (some (14, true)), .bin .add .no (.t 16) (.c (.raw (.int .i64 1)))⟩,
   ⟨(some 18), (some (14, true)), .iaddr 1 none (.t 15) (.t 17)⟩,
   ⟨(some 19), (some (14, true)), .load none (.t 18)⟩,
   ⟨(some 20), (some (14, true)), .mov (.t 2)⟩,
   ⟨(some 21), (some (14, true)), .mov (.t 3)⟩,
   ⟨(some 22), (some (14, true)), .iaddr 1 none (.t 20) (.t 21)⟩,
   ⟨(some 23), (some (14, true)), .load none (.t 22)⟩,
   ⟨(some 24), (some (14, true)), .bin .sub .no (.t 19) (.t 23)⟩,
   ⟨(some 25), (some (14, true)), .bin .eql .no (.t 24) (.c (.raw (.int .i64 1)))⟩,
   ⟨(some 26), none, .pick (.t 14) (.t 25) (.c (.kb false))⟩,
   ⟨(some 8), none, .mov (.t 26)⟩]
   (.fl 0 (.fl 1 (.fr 2 (.fr 3 (.fl 4 (.fl 5 (.fl 6 (.fl 7 (.fl 8 (.fr 9 (.fr 10 (.fl 11 (.fl 12 (.fr 13 (.fr 14 (.fl 15 (.fl 16 (.fl 17 (.fl 18 .done))))))))))))))))))))
 .ret))
theorem i_rostrumref1_bad : Is Tryz.prog 103 27 [.t 8] c_rostrumref1_bad := ⟨Tryz.f103, _, p_rostrumref1_bad, rfl, rfl, by kernel_rfl, by kernel_rfl, rfl⟩
def p_name_other : List (Nat × Pl) := []
def c_name_other : VCode :=
 (.seq (.reg [⟨(some 4), none, .mov (.c (.kb false))⟩])
 (.seq (.reg [⟨(some 5), none, .mov (.t 0)⟩,
   ⟨(some 6), none, .call 102 [(.t 5)]⟩,
   ⟨(some 7), none, .mov (.t 6)⟩,
   ⟨(some 8), (some (7, false)), .mov (.t 1)⟩,
   ⟨(some 9), (some (7, false)), .un .not (.t 8)⟩,
   ⟨(some 10), (some (7, false)), .mov (.t 9)⟩,
   ⟨(some 11), (some (10, true)), .mov (.t 0)⟩,
   ⟨(some 12), (some (10, true)), .call 104 [(.t 11)]⟩,
   ⟨(some 13), (some (10, true)), .mov (.t 12)⟩,
   ⟨(some 14), (some (13, false)), .mov (.t 0)⟩,
   ⟨(some 15), (some (13, false)), .bin .eql .no (.t 14) (.c (.raw (.int .i32 45)))⟩,
   ⟨(some 16), (some (10, true)), .pick (.t 13) (.c (.kb true)) (.t 15)⟩,
   ⟨(some 17), (some (7, false)), .pick (.t 10) (.t 16) (.c (.kb false))⟩,
   ⟨(some 18), none, .pick (.t 7) (.c (.kb true)) (.t 17)⟩,
   ⟨(some 4), none, .mov (.t 18)⟩])
 .ret))
theorem i_name_other : Is Tryz.prog 105 19 [.t 4] c_name_other := ⟨Tryz.f105, _, p_name_other, rfl, rfl, by kernel_rfl, by kernel_rfl, rfl⟩
def p_slices_Contains_sl_api_Dot_api_Dot : List (Nat × Pl) := []
def c_slices_Contains_sl_api_Dot_api_Dot : VCode :=
 (.seq (.reg [⟨(some 3), none, .box 23 (.t 1)⟩,
   ⟨(some 4), none, .mov (.c (.kb false))⟩])
 (.seq (.reg [⟨(some 5), none, .mov (.t 0)⟩,
   ⟨(some 6), none, .load (some 2) (.t 3)⟩,
   ⟨(some 7), none, .call 132 [(.t 5), (.t 6)]⟩,
   ⟨(some 8), none, .bin .geq .no (.t 7) (.c (.raw (.int .i64 0)))⟩,
   ⟨(some 4), none, .mov (.t 8)⟩])
 .ret))
theorem i_slices_Contains_sl_api_Dot_api_Dot : Is Tryz.prog 106 9 [.t 4] c_slices_Contains_sl_api_Dot_api_Dot := ⟨Tryz.f106, _, p_slices_Contains_sl_api_Dot_api_Dot, rfl, rfl, by kernel_rfl, by kernel_rfl, rfl⟩
def p_auct_House_Auctions : List (Nat × Pl) := []
def c_auct_House_Auctions : VCode :=
 (.seq (.reg [⟨(some 2), none, .mov (.c (.raw (.slice none 0 0)))⟩])
 (.seq (.reg [⟨(some 3), none, .mov (.c (.raw (.slice none 0 0)))⟩])
 (.seq (.seq (.reg [⟨(some 6), none, .mov (.t 0)⟩,
   ⟨(some 7), none, .nilck (.t 6)⟩,
   ⟨(some 8), none, .faddr 7 (.t 7)⟩,
   ⟨(some 9), none, .load none (.t 8)⟩,
   ⟨(some 10), none, .range false (.t 9)⟩])
 (.block 0 (.loop (.seq (.reg [⟨(some 11), none, .next false (.t 10)⟩,
    ⟨(some 12), none, .extr (.t 11) 0⟩])
  (.seq (.cond (.t 12)
   .skip
   (.exit 0))
  (.block 1 (.seq (.reg [⟨(some 13), none, .entry (.t 10)⟩,
    ⟨(some 14), none, .extr (.t 13) 0⟩,
    ⟨(some 15), none, .extr (.t 13) 1⟩,
    ⟨(some 4), none, .new 23 [(.int .i64 0), (.int .i64 0)]⟩,
    ⟨(some 5), none, .new 27 [(.int .i64 0), (.int .i64 0), (.int .i64 0), (.int .i64 0), (.int .i64 0), (.int .i64 0), (.int .i64 0), (.int .i64 0), (.int .i64 0), (.int .i64 0), (.int .i64 0), (.string (ByteArray.mk #[])), (.string (ByteArray.mk #[])), (.int .i64 0), (.int .i64 0), (.int .i64 0), (.int .i64 0), (.int .i64 0), (.int .i64 0)]⟩,
    ⟨none, none, .store (some 2) (.t 4) (.t 14)⟩,
    ⟨none, none, .store (some 19) (.t 5) (.t 15)⟩])
  (.seq (.reg [⟨(some 16), none, .faddr 0 (.t 5)⟩,
    ⟨(some 17), none, .load none (.t 16)⟩,
    ⟨(some 18), none, .bin .eql .no (.t 17) (.c (.raw (.int .i64 1)))⟩])
  (.cond (.t 18)
   (.reg [⟨(some 19), none, .mov (.t 3)⟩,
     ⟨(some 20), none, .load (some 2) (.t 4)⟩,
     ⟨(some 21), none, .bslice 23 1 [(.int .i64 0), (.int .i64 0)] [(0, 2, (.t 20))]⟩,
     ⟨(some 22), none, .append 23 2 16 [(.int .i64 0), (.int .i64 0)] (.t 19) (.t 21)⟩,
     ⟨(some 3), none, .mov (.t 22)⟩])
   .skip)))))))))
 (.seq (.reg [⟨(some 23), none, .mov (.t 3)⟩,
   ⟨(some 24), none, .call 71 [(.t 23), (.c (.fn 72 []))]⟩])
 (.seq (.reg [⟨(some 25), none, .mov (.t 3)⟩,
   ⟨(some 2), none, .mov (.t 25)⟩])
 .ret)))))
theorem i_auct_House_Auctions : Is Tryz.prog 107 26 [.t 2] c_auct_House_Auctions := ⟨Tryz.f107, _, p_auct_House_Auctions, rfl, rfl, by kernel_rfl, by kernel_rfl, rfl⟩
def p_auct_House_Open : List (Nat × Pl) := [(1, (.fl 0 (.fr 1 (.fl 2 (.fr 3 (.fr 4 (.fr 5 (.fl 6 (.fl 7 (.fl 8 (.st 9 [1, 3, 4, 5] (.st 10 [] (.fl 11 .done))))))))))))), (2, (.fl 0 (.fr 1 (.fl 2 (.fr 3 (.fr 4 (.fr 5 (.fl 6 (.fl 7 (.fl 8 (.fl 9 (.fl 10 (.fl 11 (.fl 12 .done))))))))))))))]
def c_auct_House_Open : VCode :=
 (.seq (.reg [⟨(some 3), none, .box 23 (.t 1)⟩,
   ⟨(some 4), none, .mov (.c (.kb false))⟩])
 (.seq (.draw [⟨(some 8), none, .mov (.t 0)⟩,
   ⟨(some 9), none, .nilck (.t 8)⟩,
   ⟨(some 10), none, .faddr 11 (.t 9)⟩,
   ⟨(some 11), none, .load none (.t 10)⟩,
   ⟨(some 12), none, .load (some 2) (.t 3)⟩,
   ⟨(some 13), none, .lookup 97 true (.t 11) (.t 12)⟩,
   ⟨(some 7), none, .mov (.t 13)⟩,
   ⟨(some 14), none, .extr (.t 7) 0⟩,
   ⟨(some 15), none, .extr (.t 7) 1⟩,
   ⟨(some 5), none, .new 107 [(.int .i64 0), (.int .i64 0), (.string (ByteArray.mk #[])), (.int .i64 0)]⟩,
   ⟨none, none, .store (some 4) (.t 5) (.t 14)⟩,
   ⟨(some 6), none, .mov (.t 15)⟩]
   (.fl 0 (.fr 1 (.fl 2 (.fr 3 (.fr 4 (.fr 5 (.fl 6 (.fl 7 (.fl 8 (.st 9 [1, 3, 4, 5] (.st 10 [] (.fl 11 .done)))))))))))))
 (.seq (.draw [⟨(some 16), none, .mov (.t 0)⟩,
   ⟨(some 17), none, .nilck (.t 16)⟩,
   ⟨(some 18), none, .faddr 7 (.t 17)⟩,
   ⟨(some 19), none, .load none (.t 18)⟩,
   ⟨(some 20), none, .load (some 2) (.t 3)⟩,
   ⟨(some 21), none, .lookup 94 false (.t 19) (.t 20)⟩,
   ⟨(some 22), none, .field 0 none (.t 21)⟩,
   ⟨(some 23), none, .bin .eql .no (.t 22) (.c (.raw (.int .i64 1)))⟩,
   ⟨(some 24), none, .mov (.t 23)⟩,
   ⟨(some 25), (some (24, true)), .mov (.t 6)⟩,
   ⟨(some 26), (some (24, true)), .un .not (.t 25)⟩,
   ⟨(some 27), none, .pick (.t 24) (.t 26) (.c (.kb false))⟩,
   ⟨(some 4), none, .mov (.t 27)⟩]
   (.fl 0 (.fr 1 (.fl 2 (.fr 3 (.fr 4 (.fr 5 (.fl 6 (.fl 7 (.fl 8 (.fl 9 (.fl 10 (.fl 11 (.fl 12 .done))))))))))))))
 .ret)))
theorem i_auct_House_Open : Is Tryz.prog 108 28 [.t 4] c_auct_House_Open := ⟨Tryz.f108, _, p_auct_House_Open, rfl, rfl, by kernel_rfl, by kernel_rfl, rfl⟩
def p_slices_Contains_sl_string_string : List (Nat × Pl) := []
def c_slices_Contains_sl_string_string : VCode :=
 (.seq (.reg [⟨(some 4), none, .mov (.c (.kb false))⟩])
 (.seq (.reg [⟨(some 5), none, .mov (.t 0)⟩,
   ⟨(some 6), none, .mov (.t 1)⟩,
   ⟨(some 7), none, .call 133 [(.t 5), (.t 6)]⟩,
   ⟨(some 8), none, .bin .geq .no (.t 7) (.c (.raw (.int .i64 0)))⟩,
   ⟨(some 4), none, .mov (.t 8)⟩])
 .ret))
theorem i_slices_Contains_sl_string_string : Is Tryz.prog 109 9 [.t 4] c_slices_Contains_sl_string_string := ⟨Tryz.f109, _, p_slices_Contains_sl_string_string, rfl, rfl, by kernel_rfl, by kernel_rfl, rfl⟩
def p_auct_House_Users : List (Nat × Pl) := []
def c_auct_House_Users : VCode :=
 (.seq (.reg [⟨(some 2), none, .mov (.c (.raw (.slice none 0 0)))⟩])
 (.seq (.reg [⟨(some 3), none, .mov (.c (.raw (.slice none 0 0)))⟩])
 (.seq (.seq (.reg [⟨(some 5), none, .mov (.t 0)⟩,
   ⟨(some 6), none, .nilck (.t 5)⟩,
   ⟨(some 7), none, .faddr 9 (.t 6)⟩,
   ⟨(some 8), none, .load none (.t 7)⟩,
   ⟨(some 9), none, .range false (.t 8)⟩])
 (.block 0 (.loop (.seq (.reg [⟨(some 10), none, .next false (.t 9)⟩,
    ⟨(some 11), none, .extr (.t 10) 0⟩])
  (.seq (.cond (.t 11)
   .skip
   (.exit 0))
  (.block 1 (.seq (.reg [⟨(some 12), none, .entry (.t 9)⟩,
    ⟨(some 13), none, .extr (.t 12) 0⟩,
    ⟨(some 4), none, .mov (.t 13)⟩])
  (.reg [⟨(some 14), none, .mov (.t 3)⟩,
    ⟨(some 15), none, .mov (.t 4)⟩,
    ⟨(some 16), none, .bslice 9 1 [(.string (ByteArray.mk #[]))] [(0, 1, (.t 15))]⟩,
    ⟨(some 17), none, .append 9 1 16 [(.string (ByteArray.mk #[]))] (.t 14) (.t 16)⟩,
    ⟨(some 3), none, .mov (.t 17)⟩]))))))))
 (.seq (.reg [⟨(some 18), none, .mov (.t 3)⟩,
   ⟨(some 19), none, .call 134 [(.t 18)]⟩])
 (.seq (.reg [⟨(some 20), none, .mov (.t 3)⟩,
   ⟨(some 2), none, .mov (.t 20)⟩])
 .ret)))))
theorem i_auct_House_Users : Is Tryz.prog 110 21 [.t 2] c_auct_House_Users := ⟨Tryz.f110, _, p_auct_House_Users, rfl, rfl, by kernel_rfl, by kernel_rfl, rfl⟩
def p_auct_House_Bids : List (Nat × Pl) := [(1, (.fl 0 (.fr 1 (.fl 2 (.fr 3 (.fl 4 (.fr 5 (.st 6 [] (.fl 7 .done)))))))))]
def c_auct_House_Bids : VCode :=
 (.seq (.reg [⟨(some 3), none, .box 23 (.t 1)⟩,
   ⟨(some 4), none, .mov (.c (.raw (.slice none 0 0)))⟩])
 (.seq (.draw [⟨(some 5), none, .mov (.t 0)⟩,
   ⟨(some 6), none, .load (some 2) (.t 3)⟩,
   ⟨(some 7), none, .mov (.t 0)⟩,
   ⟨(some 8), none, .nilck (.t 7)⟩,
   ⟨(some 9), none, .faddr 0 (.t 8)⟩,
   ⟨(some 10), none, .load (some 7) (.t 9)⟩,
   ⟨(some 11), none, .call 93 [(.t 5), (.t 6), (.t 10)]⟩,
   ⟨(some 4), none, .mov (.t 11)⟩]
   (.fl 0 (.fr 1 (.fl 2 (.fr 3 (.fl 4 (.fr 5 (.st 6 [] (.fl 7 .done)))))))))
 .ret))
theorem i_auct_House_Bids : Is Tryz.prog 111 12 [.t 4] c_auct_House_Bids := ⟨Tryz.f111, _, p_auct_House_Bids, rfl, rfl, by kernel_rfl, by kernel_rfl, rfl⟩
def p_unicode_utf8_AppendRune : List (Nat × Pl) := []
def c_unicode_utf8_AppendRune : VCode :=
 (.seq (.reg [⟨(some 4), none, .mov (.c (.raw (.slice none 0 0)))⟩])
 (.seq (.seq (.reg [⟨(some 5), none, .mov (.t 1)⟩,
   ⟨(some 6), none, .conv (.int .u32) (.t 5)⟩,
   ⟨(some 7), none, .bin .leq .no (.t 6) (.c (.raw (.int .u32 127)))⟩])
 (.cond (.t 7)
  (.seq (.reg [⟨(some 8), none, .mov (.t 0)⟩,
    ⟨(some 9), none, .mov (.t 1)⟩,
    ⟨(some 10), none, .conv (.int .u8) (.t 9)⟩,
    ⟨(some 11), none, .bslice 5 1 [(.int .u8 0)] [(0, 1, (.t 10))]⟩,
    ⟨(some 12), none, .append 5 1 1 [(.int .u8 0)] (.t 8) (.t 11)⟩,
    ⟨(some 4), none, .mov (.t 12)⟩])
  .ret)
  .skip))
 (.seq (.reg [⟨(some 13), none, .mov (.t 0)⟩,
   ⟨(some 14), none, .mov (.t 1)⟩,
   ⟨(some 15), none, .call 136 [(.t 13), (.t 14)]⟩,
   ⟨(some 4), none, .mov (.t 15)⟩])
 .ret)))
theorem i_unicode_utf8_AppendRune : Is Tryz.prog 113 16 [.t 4] c_unicode_utf8_AppendRune := ⟨Tryz.f113, _, p_unicode_utf8_AppendRune, rfl, rfl, by kernel_rfl, by kernel_rfl, rfl⟩
def p_slices_IndexFunc_sl_api_Dot_api_Dot : List (Nat × Pl) := []
def c_slices_IndexFunc_sl_api_Dot_api_Dot : VCode :=
 (.seq (.reg [⟨(some 4), none, .mov (.c (.raw (.int .i64 0)))⟩])
 (.seq (.seq (.reg [⟨(some 6), none, .mov (.t 0)⟩,
   ⟨(some 7), none, .len .sl (.t 6)⟩,
   ⟨(some 8), none, .mov (.c (.raw (.int .i64 0)))⟩])
 (.block 0 (.loop (.seq (.reg [⟨(some 9), none, .bin .lss .no (.t 8) (.t 7)⟩])
  (.seq (.cond (.t 9)
   .skip
   (.exit 0))
  (.seq (.block 1 (.seq (.reg [⟨(some 10), none, .mov (.t 8)⟩,
    ⟨(some 5), none, .mov (.t 10)⟩])
  (.seq (.reg [⟨(some 11), none, .mov (.t 1)⟩,
    ⟨(some 12), none, .mov (.t 0)⟩,
    ⟨(some 13), none, .mov (.t 5)⟩,
    ⟨(some 14), none, .iaddr 2 none (.t 12) (.t 13)⟩,
    ⟨(some 15), none, .load (some 2) (.t 14)⟩,
    ⟨(some 16), none, .callv (.t 11) [(.t 15)]⟩])
  (.cond (.t 16)
   (.seq (.reg [⟨(some 17), none, .mov (.t 5)⟩,
     ⟨(some 4), none, .mov (.t 17)⟩])
   .ret)
   .skip))))
  (.reg [⟨(some 18), none, .bin .add .no (.t 8) (.c (.raw (.int .i64 1)))⟩,
    ⟨(some 8), none, .mov (.t 18)⟩])))))))
 (.seq (.reg [⟨(some 4), none, .mov (.c (.raw (.int .i64 (-1))))⟩])
 .ret)))
theorem i_slices_IndexFunc_sl_api_Dot_api_Dot : Is Tryz.prog 115 19 [.t 4] c_slices_IndexFunc_sl_api_Dot_api_Dot := ⟨Tryz.f115, _, p_slices_IndexFunc_sl_api_Dot_api_Dot, rfl, rfl, by kernel_rfl, by kernel_rfl, rfl⟩
def p_auct_House_bids_1 : List (Nat × Pl) := []
def c_auct_House_bids_1 : VCode :=
 (.seq (.reg [⟨(some 2), none, .box 23 (.t 0)⟩,
   ⟨(some 3), none, .mov (.c (.kb false))⟩])
 (.seq (.reg [⟨(some 4), none, .load none (.t 1)⟩,
   ⟨(some 5), none, .load (some 2) (.t 2)⟩,
   ⟨(some 6), none, .lookup 170 false (.t 4) (.t 5)⟩,
   ⟨(some 3), none, .mov (.t 6)⟩])
 .ret))
theorem i_auct_House_bids_1 : Is Tryz.prog 116 7 [.t 3] c_auct_House_bids_1 := ⟨Tryz.f116, _, p_auct_House_bids_1, rfl, rfl, by kernel_rfl, by kernel_rfl, rfl⟩
def p_slices_MaxFunc_sl_api_Dot_api_Dot : List (Nat × Pl) := [(7, (.fl 0 (.fl 1 (.fl 2 (.fr 3 (.fr 4 (.fr 5 (.st 6 [] (.fl 7 .done)))))))))]
def c_slices_MaxFunc_sl_api_Dot_api_Dot : VCode :=
 (.seq (.reg [⟨(some 4), none, .new 23 [(.int .i64 0), (.int .i64 0)]⟩])
 (.seq (.seq (.reg [⟨(some 7), none, .mov (.t 0)⟩,
   ⟨(some 8), none, .len .sl (.t 7)⟩,
   ⟨(some 9), none, .bin .lss .no (.t 8) (.c (.raw (.int .i64 1)))⟩])
 (.cond (.t 9)
  .bad
  .skip))
 (.seq (.reg [⟨(some 11), none, .mov (.t 0)⟩,
   ⟨(some 12), none, .iaddr 2 none (.t 11) (.c (.raw (.int .i64 0)))⟩,
   ⟨(some 13), none, .load (some 2) (.t 12)⟩,
   ⟨(some 5), none, .new 23 [(.int .i64 0), (.int .i64 0)]⟩,
   ⟨none, none, .store (some 2) (.t 5) (.t 13)⟩])
 (.seq (.seq (.reg [⟨(some 6), none, .mov (.c (.raw (.int .i64 1)))⟩])
 (.block 0 (.loop (.seq (.seq (.reg [⟨(some 14), none, .mov (.t 6)⟩,
    ⟨(some 15), none, .mov (.t 0)⟩,
    ⟨(some 16), none, .len .sl (.t 15)⟩,
    ⟨(some 17), none, .bin .lss .no (.t 14) (.t 16)⟩])
  (.cond (.t 17)
   .skip
   (.exit 0)))
  (.seq (.block 1 (.seq (.draw [⟨(some 20), none, .mov (.t 1)⟩,
    ⟨(some 21), none, .mov (.t 0)⟩,
    ⟨(some 22), none, .mov (.t 6)⟩,
    ⟨(some 23), none, .iaddr 2 none (.t 21) (.t 22)⟩,
    ⟨(some 24), none, .load (some 2) (.t 23)⟩,
    ⟨(some 25), none, .load (some 2) (.t 5)⟩,
    ⟨(some 26), none, .callv (.t 20) [(.t 24), (.t 25)]⟩,
    ⟨(some 27), none, .bin .gtr .no (.t 26) (.c (.raw (.int .i64 0)))⟩]
    (.fl 0 (.fl 1 (.fl 2 (.fr 3 (.fr 4 (.fr 5 (.st 6 [] (.fl 7 .done)))))))))
  (.cond (.t 27)
   (.reg [⟨(some 28), none, .mov (.t 0)⟩,
     ⟨(some 29), none, .mov (.t 6)⟩,
     ⟨(some 30), none, .iaddr 2 none (.t 28) (.t 29)⟩,
     ⟨(some 31), none, .load (some 2) (.t 30)⟩,
     ⟨none, none, .store (some 2) (.t 5) (.t 31)⟩])
   .skip)))
  (.reg [⟨(some 18), none, .mov (.t 6)⟩,
    ⟨(some 19), none, .bin .add .no (.t 18) (.c (.raw (.int .i64 1)))⟩,
    ⟨(some 6), none, .mov (.t 19)⟩]))))))
 (.seq (.reg [⟨(some 32), none, .load (some 2) (.t 5)⟩,
   ⟨none, none, .store (some 2) (.t 4) (.t 32)⟩])
 .ret)))))
theorem i_slices_MaxFunc_sl_api_Dot_api_Dot : Is Tryz.prog 117 33 [.cell 4 (some 2)] c_slices_MaxFunc_sl_api_Dot_api_Dot := ⟨Tryz.f117, _, p_slices_MaxFunc_sl_api_Dot_api_Dot, rfl, rfl, by kernel_rfl, by kernel_rfl, rfl⟩
def p_auct_House_best_1 : List (Nat × Pl) := [(1, (.fr 0 (.fr 1 (.fl 2 (.fr 3 (.fr 4 (.fr 5 (.fl 6 (.fr 7 (.fr 8 (.fl 9 (.fr 10 (.fr 11 (.fr 12 (.fl 13 (.fr 15 (.fr 16 (.st 14 [15, 16] (.st 17 [] (.st 18 [] (.st 19 [] (.fl 20 .done))))))))))))))))))))))]
def c_auct_House_best_1 : VCode :=
 (.seq (.reg [⟨(some 3), none, .box 23 (.t 0)⟩,
   ⟨(some 4), none, .box 23 (.t 1)⟩,
   ⟨(some 5), none, .mov (.c (.raw (.int .i64 0)))⟩])
 (.seq (.draw [⟨(some 6), none, .load none (.t 2)⟩,
   ⟨(some 7), none, .nilck (.t 6)⟩,
   ⟨(some 8), none, .faddr 7 (.t 7)⟩,
   ⟨(some 9), none, .load none (.t 8)⟩,
   ⟨(some 10), none, .load (some 2) (.t 3)⟩,
   ⟨(some 11), none, .lookup 94 false (.t 9) (.t 10)⟩,
   ⟨(some 12), none, .field 17 none (.t 11)⟩,
   ⟨(some 13), none, .load none (.t 2)⟩,
   ⟨(some 14), none, .nilck (.t 13)⟩,
   ⟨(some 15), none, .faddr 7 (.t 14)⟩,
   ⟨(some 16), none, .load none (.t 15)⟩,
   ⟨(some 17), none, .load (some 2) (.t 4)⟩,
   ⟨(some 18), none, .lookup 94 false (.t 16) (.t 17)⟩,
   ⟨(some 19), none, .field 17 none (.t 18)⟩,
   ⟨(some 20), none, .call 101 [(.t 12), (.t 19)]⟩,
   ⟨(some 21), none, .load (some 2) (.t 4)⟩,
   ⟨(some 22), none, .load (some 2) (.t 3)⟩,
   ⟨(some 23), none, .call 72 [(.t 21), (.t 22)]⟩,
   ⟨(some 24), none, .bslice 3 2 [(.int .i64 0), (.int .i64 0)] [(0, 1, (.t 20)), (1, 1, (.t 23))]⟩,
   ⟨(some 25), none, .call 99 [(.t 24)]⟩,
   ⟨(some 5), none, .mov (.t 25)⟩]
   (.fr 0 (.fr 1 (.fl 2 (.fr 3 (.fr 4 (.fr 5 (.fl 6 (.fr 7 (.fr 8 (.fl 9 (.fr 10 (.fr 11 (.fr 12 (.fl 13 (.fr 15 (.fr 16 (.st 14 [15, 16] (.st 17 [] (.st 18 [] (.st 19 [] (.fl 20 .done))))))))))))))))))))))
 .ret))
theorem i_auct_House_best_1 : Is Tryz.prog 118 26 [.t 5] c_auct_House_best_1 := ⟨Tryz.f118, _, p_auct_House_best_1, rfl, rfl, by kernel_rfl, by kernel_rfl, rfl⟩
def p_cmp_isNaN_int : List (Nat × Pl) := []
def c_cmp_isNaN_int : VCode :=
 (.seq (.reg [⟨(some 2), none, .mov (.c (.kb false))⟩])
 (.seq (.reg [⟨(some 3), none, .mov (.t 0)⟩,
   ⟨(some 4), none, .mov (.t 0)⟩,
   ⟨(some 5), none, .bin .neq .no (.t 3) (.t 4)⟩,
   ⟨(some 2), none, .mov (.t 5)⟩])
 .ret))
theorem i_cmp_isNaN_int : Is Tryz.prog 129 6 [.t 2] c_cmp_isNaN_int := ⟨Tryz.f129, _, p_cmp_isNaN_int, rfl, rfl, by kernel_rfl, by kernel_rfl, rfl⟩
def p_cmp_isNaN_int64 : List (Nat × Pl) := []
def c_cmp_isNaN_int64 : VCode :=
 (.seq (.reg [⟨(some 2), none, .mov (.c (.kb false))⟩])
 (.seq (.reg [⟨(some 3), none, .mov (.t 0)⟩,
   ⟨(some 4), none, .mov (.t 0)⟩,
   ⟨(some 5), none, .bin .neq .no (.t 3) (.t 4)⟩,
   ⟨(some 2), none, .mov (.t 5)⟩])
 .ret))
theorem i_cmp_isNaN_int64 : Is Tryz.prog 130 6 [.t 2] c_cmp_isNaN_int64 := ⟨Tryz.f130, _, p_cmp_isNaN_int64, rfl, rfl, by kernel_rfl, by kernel_rfl, rfl⟩
def p_slices_Index_sl_api_Dot_api_Dot : List (Nat × Pl) := [(4, (.fr 0 (.fl 1 (.fl 2 (.fr 3 (.fr 4 (.fl 5 .done)))))))]
def c_slices_Index_sl_api_Dot_api_Dot : VCode :=
 (.seq (.reg [⟨(some 3), none, .box 23 (.t 1)⟩,
   ⟨(some 4), none, .mov (.c (.raw (.int .i64 0)))⟩])
 (.seq (.seq (.reg [⟨(some 6), none, .mov (.t 0)⟩,
   ⟨(some 7), none, .len .sl (.t 6)⟩,
   ⟨(some 8), none, .mov (.c (.raw (.int .i64 0)))⟩])
 (.block 0 (.loop (.seq (.reg [⟨(some 9), none, .bin .lss .no (.t 8) (.t 7)⟩])
  (.seq (.cond (.t 9)
   .skip
   (.exit 0))
  (.seq (.block 1 (.seq (.reg [⟨(some 10), none, .mov (.t 8)⟩,
    ⟨(some 5), none, .mov (.t 10)⟩])
  (.seq (.draw [⟨(some 11), none, .load (some 2) (.t 3)⟩,
    ⟨(some 12), none, .mov (.t 0)⟩,
    ⟨(some 13), none, .mov (.t 5)⟩,
    ⟨(some 14), none, .iaddr 2 none (.t 12) (.t 13)⟩,
    ⟨(some 15), none, .load (some 2) (.t 14)⟩,
    ⟨(some 16), none, .bin .eql (.agg [.i, .i]) (.t 11) (.t 15)⟩]
    (.fr 0 (.fl 1 (.fl 2 (.fr 3 (.fr 4 (.fl 5 .done)))))))
  (.cond (.t 16)
   (.seq (.reg [⟨(some 17), none, .mov (.t 5)⟩,
     ⟨(some 4), none, .mov (.t 17)⟩])
   .ret)
   .skip))))
  (.reg [⟨(some 18), none, .bin .add .no (.t 8) (.c (.raw (.int .i64 1)))⟩,
    ⟨(some 8), none, .mov (.t 18)⟩])))))))
 (.seq (.reg [⟨(some 4), none, .mov (.c (.raw (.int .i64 (-1))))⟩])
 .ret)))
theorem i_slices_Index_sl_api_Dot_api_Dot : Is Tryz.prog 132 19 [.t 4] c_slices_Index_sl_api_Dot_api_Dot := ⟨Tryz.f132, _, p_slices_Index_sl_api_Dot_api_Dot, rfl, rfl, by kernel_rfl, by kernel_rfl, rfl⟩
def p_slices_Index_sl_string_string : List (Nat × Pl) := []
def c_slices_Index_sl_string_string : VCode :=
 (.seq (.reg [⟨(some 4), none, .mov (.c (.raw (.int .i64 0)))⟩])
 (.seq (.seq (.reg [⟨(some 6), none, .mov (.t 0)⟩,
   ⟨(some 7), none, .len .sl (.t 6)⟩,
   ⟨(some 8), none, .mov (.c (.raw (.int .i64 0)))⟩])
 (.block 0 (.loop (.seq (.reg [⟨(some 9), none, .bin .lss .no (.t 8) (.t 7)⟩])
  (.seq (.cond (.t 9)
   .skip
   (.exit 0))
  (.seq (.block 1 (.seq (.reg [⟨(some 10), none, .mov (.t 8)⟩,
    ⟨(some 5), none, .mov (.t 10)⟩])
  (.seq (.reg [⟨(some 11), none, .mov (.t 1)⟩,
    ⟨(some 12), none, .mov (.t 0)⟩,
    ⟨(some 13), none, .mov (.t 5)⟩,
    ⟨(some 14), none, .iaddr 1 none (.t 12) (.t 13)⟩,
    ⟨(some 15), none, .load none (.t 14)⟩,
    ⟨(some 16), none, .bin .eql .no (.t 11) (.t 15)⟩])
  (.cond (.t 16)
   (.seq (.reg [⟨(some 17), none, .mov (.t 5)⟩,
     ⟨(some 4), none, .mov (.t 17)⟩])
   .ret)
   .skip))))
  (.reg [⟨(some 18), none, .bin .add .no (.t 8) (.c (.raw (.int .i64 1)))⟩,
    ⟨(some 8), none, .mov (.t 18)⟩])))))))
 (.seq (.reg [⟨(some 4), none, .mov (.c (.raw (.int .i64 (-1))))⟩])
 .ret)))
theorem i_slices_Index_sl_string_string : Is Tryz.prog 133 19 [.t 4] c_slices_Index_sl_string_string := ⟨Tryz.f133, _, p_slices_Index_sl_string_string, rfl, rfl, by kernel_rfl, by kernel_rfl, rfl⟩
def p_unicode_utf8_appendRuneNonASCII : List (Nat × Pl) := []
def c_unicode_utf8_appendRuneNonASCII : VCode :=
 (.seq (.reg [⟨(some 4), none, .mov (.c (.raw (.slice none 0 0)))⟩])
 (.seq (.reg [⟨(some 6), none, .mov (.t 1)⟩,
   ⟨(some 7), none, .conv (.int .u32) (.t 6)⟩,
   ⟨(some 5), none, .mov (.t 7)⟩])
 (.block 0 (.seq (.reg [⟨(some 12), none, .mov (.t 5)⟩,
   ⟨(some 13), none, .bin .leq .no (.t 12) (.c (.raw (.int .u32 2047)))⟩,
   ⟨(some 11), none, .mov (.t 13)⟩])
 (.cond (.t 11)
  (.seq (.reg [⟨(some 14), none, .mov (.t 0)⟩,
    ⟨(some 15), none, .mov (.t 1)⟩,
    ⟨(some 16), none, .bin .shr .no (.t 15) (.c (.raw (.int .u64 6)))⟩,
    ⟨(some 17), none, .conv (.int .u8) (.t 16)⟩,
    ⟨(some 18), none, .bin .or .no (.c (.raw (.int .u8 192))) (.t 17)⟩,
    ⟨(some 19), none, .mov (.t 1)⟩,
    ⟨(some 20), none, .conv (.int .u8) (.t 19)⟩,
    ⟨(some 21), none, .bin .and .no (.t 20) (.c (.raw (.int .u8 63)))⟩,
    ⟨(some 22), none, .bin .or .no (.c (.raw (.int .u8 128))) (.t 21)⟩,
    ⟨(some 23), none, .bslice 5 2 [(.int .u8 0), (.int .u8 0)] [(0, 1, (.t 18)), (1, 1, (.t 22))]⟩,
    ⟨(some 24), none, .append 5 1 1 [(.int .u8 0)] (.t 14) (.t 23)⟩,
    ⟨(some 4), none, .mov (.t 24)⟩])
  .ret)
  (.seq (.seq (.reg [⟨(some 26), none, .mov (.t 5)⟩,
    ⟨(some 27), none, .bin .lss .no (.t 26) (.c (.raw (.int .u32 55296)))⟩,
    ⟨(some 25), none, .mov (.t 27)⟩])
  (.cond (.t 25)
   .skip
   (.reg [⟨(some 28), none, .mov (.t 5)⟩,
     ⟨(some 29), none, .bin .lss .no (.c (.raw (.int .u32 57343))) (.t 28)⟩,
     ⟨(some 30), none, .mov (.t 29)⟩,
     ⟨(some 31), (some (30, true)), .mov (.t 5)⟩,
     ⟨(some 32), (some (30, true)), .bin .leq .no (.t 31) (.c (.raw (.int .u32 65535)))⟩,
     ⟨(some 33), none, .pick (.t 30) (.t 32) (.c (.kb false))⟩,
     ⟨(some 25), none, .mov (.t 33)⟩])))
  (.cond (.t 25)
   (.seq (.reg [⟨(some 34), none, .mov (.t 0)⟩,
     ⟨(some 35), none, .mov (.t 1)⟩,
     ⟨(some 36), none, .bin .shr .no (.t 35) (.c (.raw (.int .u64 12)))⟩,
     ⟨(some 37), none, .conv (.int .u8) (.t 36)⟩,
     ⟨(some 38), none, .bin .or .no (.c (.raw (.int .u8 224))) (.t 37)⟩,
     ⟨(some 39), none, .mov (.t 1)⟩,
     ⟨(some 40), none, .bin .shr .no (.t 39) (.c (.raw (.int .u64 6)))⟩,
     ⟨(some 41), none, .conv (.int .u8) (.t 40)⟩,
     ⟨(some 42), none, .bin .and .no (.t 41) (.c (.raw (.int .u8 63)))⟩,
     ⟨(some 43), none, .bin .or .no (.c (.raw (.int .u8 128))) (.t 42)⟩,
     ⟨(some 44), none, .mov (.t 1)⟩,
     ⟨(some 45), none, .conv (.int .u8) (.t 44)⟩,
     ⟨(some 46), none, .bin .and .no (.t 45) (.c (.raw (.int .u8 63)))⟩,
     ⟨(some 47), none, .bin .or .no (.c (.raw (.int .u8 128))) (.t 46)⟩,
     ⟨(some 48), none, .bslice 5 3 [(.int .u8 0), (.int .u8 0), (.int .u8 0)] [(0, 1, (.t 38)), (1, 1, (.t 43)), (2, 1, (.t 47))]⟩,
     ⟨(some 49), none, .append 5 1 1 [(.int .u8 0)] (.t 34) (.t 48)⟩,
     ⟨(some 4), none, .mov (.t 49)⟩])
   .ret)
   (.seq (.reg [⟨(some 51), none, .mov (.t 5)⟩,
     ⟨(some 52), none, .bin .gtr .no (.t 51) (.c (.raw (.int .u32 65535)))⟩,
     ⟨(some 53), none, .mov (.t 52)⟩,
     ⟨(some 54), (some (53, true)), .mov (.t 5)⟩,
     ⟨(some 55), (some (53, true)), .bin .leq .no (.t 54) (.c (.raw (.int .u32 1114111)))⟩,
     ⟨(some 56), none, .pick (.t 53) (.t 55) (.c (.kb false))⟩,
     ⟨(some 50), none, .mov (.t 56)⟩])
   (.cond (.t 50)
    (.seq (.reg [⟨(some 57), none, .mov (.t 0)⟩,
      ⟨(some 58), none, .mov (.t 1)⟩,
      ⟨(some 59), none, .bin .shr .no (.t 58) (.c (.raw (.int .u64 18)))⟩,
      ⟨(some 60), none, .conv (.int .u8) (.t 59)⟩,
      ⟨(some 61), none, .bin .or .no (.c (.raw (.int .u8 240))) (.t 60)⟩,
      ⟨(some 62), none, .mov (.t 1)⟩,
      ⟨(some 63), none, .bin .shr .no (.t 62) (.c (.raw (.int .u64 12)))⟩,
      ⟨(some 64), none, .conv (.int .u8) (.t 63)⟩,
      ⟨(some 65), none, .bin .and .no (.t 64) (.c (.raw (.int .u8 63)))⟩,
      ⟨(some 66), none, .bin .or .no (.c (.raw (.int .u8 128))) (.t 65)⟩,
      ⟨(some 67), none, .mov (.t 1)⟩,
      ⟨(some 68), none, .bin .shr .no (.t 67) (.c (.raw (.int .u64 6)))⟩,
      ⟨(some 69), none, .conv (.int .u8) (.t 68)⟩,
      ⟨(some 70), none, .bin .and .no (.t 69) (.c (.raw (.int .u8 63)))⟩,
      ⟨(some 71), none, .bin .or .no (.c (.raw (.int .u8 128))) (.t 70)⟩,
      ⟨(some 72), none, .mov (.t 1)⟩,
      ⟨(some 73), none, .conv (.int .u8) (.t 72)⟩,
      ⟨(some 74), none, .bin .and .no (.t 73) (.c (.raw (.int .u8 63)))⟩,
      ⟨(some 75), none, .bin .or .no (.c (.raw (.int .u8 128))) (.t 74)⟩,
      ⟨(some 76), none, .bslice 5 4 [(.int .u8 0), (.int .u8 0), (.int .u8 0), (.int .u8 0)] [(0, 1, (.t 61)), (1, 1, (.t 66)), (2, 1, (.t 71)), (3, 1, (.t 75))]⟩,
      ⟨(some 77), none, .append 5 1 1 [(.int .u8 0)] (.t 57) (.t 76)⟩,
      ⟨(some 4), none, .mov (.t 77)⟩])
    .ret)
    (.seq (.reg [⟨(some 8), none, .mov (.t 0)⟩,
      ⟨(some 9), none, .bslice 5 3 [(.int .u8 0), (.int .u8 0), (.int .u8 0)] [(0, 1, (.c (.raw (.int .u8 239)))), (1, 1, (.c (.raw (.int .u8 191)))), (2, 1, (.c (.raw (.int .u8 189))))]⟩,
      ⟨(some 10), none, .append 5 1 1 [(.int .u8 0)] (.t 8) (.t 9)⟩,
      ⟨(some 4), none, .mov (.t 10)⟩])
    .ret))))))))))
theorem i_unicode_utf8_appendRuneNonASCII : Is Tryz.prog 136 78 [.t 4] c_unicode_utf8_appendRuneNonASCII := ⟨Tryz.f136, _, p_unicode_utf8_appendRuneNonASCII, rfl, rfl, by kernel_rfl, by kernel_rfl, rfl⟩
theorem follows : Tryz.prog.follows .mixedOrders = true := by kernel_rfl
end Go.Proofs

