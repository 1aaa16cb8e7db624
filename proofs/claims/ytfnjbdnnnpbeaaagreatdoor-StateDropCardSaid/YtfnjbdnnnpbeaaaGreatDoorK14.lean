/- The seat's functions and types by name, and its functions' code as the framework reads it: printed by a program of the prover's own. -/
import Derived.Test.YtfnjbdnnnpbeaaaGreatDoorVC
import Derived.Test.YtfnjbdnnnpbeaaaGreatDoorProg
namespace Go.Proofs
open Go Go.V
set_option maxRecDepth 1000000
abbrev F_rostrumlaw14_StateDrop : FuncId := 6
abbrev F_rostrumlaw14_awake : FuncId := 9
abbrev F_state_New : FuncId := 10
abbrev F_rostrumlaw14_long : FuncId := 11
abbrev F_state_State_Apply : FuncId := 12
abbrev F_state_State_Bytes : FuncId := 13
abbrev F_vec_Has : FuncId := 14
abbrev F_state_State_Have : FuncId := 15
abbrev F_shadow_Good : FuncId := 16
abbrev F_shadow_Ready : FuncId := 17
abbrev F_state_Same : FuncId := 18
abbrev F_state_State_Drop : FuncId := 19
abbrev F_vec_Le : FuncId := 20
abbrev F_state_State_Show : FuncId := 25
abbrev F_value_Show : FuncId := 26
abbrev F_rostrumlaw14_texts : FuncId := 27
abbrev F_state_State_Keys : FuncId := 28
abbrev F_value_AsSet : FuncId := 31
abbrev F_orset_Set_Add : FuncId := 32
abbrev F_state_kindOf : FuncId := 33
abbrev F_value_New : FuncId := 34
abbrev F_state_put : FuncId := 35
abbrev F_vec_Put : FuncId := 36
abbrev F_pack_Text : FuncId := 37
abbrev F_pack_Num : FuncId := 38
abbrev F_state_own : FuncId := 39
abbrev F_vec_Rep : FuncId := 40
abbrev F_vec_Dot : FuncId := 41
abbrev F_vec_Good : FuncId := 42
abbrev F_name_Good : FuncId := 43
abbrev F_bytes_Equal : FuncId := 44
abbrev F_orset_Set_Drop : FuncId := 45
abbrev F_orset_Set_All : FuncId := 60
abbrev F_value_AsNumber : FuncId := 61
abbrev F_strconv_FormatInt : FuncId := 62
abbrev F_tally_Tally_Value : FuncId := 63
abbrev F_value_AsText : FuncId := 64
abbrev F_last_Last_Value : FuncId := 65
abbrev F_slices_SortFunc_sl_string_string : FuncId := 66
abbrev F_state_State_Keys_1 : FuncId := 67
abbrev F_cmp_Or_int : FuncId := 68
abbrev F_name_Cmp : FuncId := 69
abbrev F_strings_Compare : FuncId := 70
abbrev F_orset_New : FuncId := 77
abbrev F_tally_New : FuncId := 78
abbrev F_last_New : FuncId := 79
abbrev F_orset_Set_Remove : FuncId := 80
abbrev F_tally_Tally_Add : FuncId := 81
abbrev F_last_Last_Write : FuncId := 82
abbrev F_pack_Bytes : FuncId := 83
abbrev F_bytes_Clone : FuncId := 84
abbrev F_orset_Set_Put : FuncId := 85
abbrev F_tally_Tally_Put : FuncId := 86
abbrev F_last_Last_Put : FuncId := 87
abbrev F_name_other : FuncId := 88
abbrev F_maps_DeleteFunc_map_api_Dot_string_api_Dot_string : FuncId := 89
abbrev F_orset_Set_Drop_1 : FuncId := 90
abbrev F_orset_Set_live : FuncId := 91
abbrev F_maps_DeleteFunc_map_string_vec_Vec_string_vec_Vec : FuncId := 92
abbrev F_orset_Set_Drop_2 : FuncId := 93
abbrev F_slices_Sort_sl_string_string : FuncId := 107
abbrev F_slices_Compact_sl_string_string : FuncId := 108
abbrev F_vec_Merge : FuncId := 114
abbrev F_cmp_Compare_int64 : FuncId := 115
abbrev F_dots_Order : FuncId := 116
abbrev F_orset_Set_Dots : FuncId := 117
abbrev F_unicode_IsLetter : FuncId := 118
abbrev F_unicode_IsDigit : FuncId := 119
abbrev F_cmp_isNaN_int64 : FuncId := 146
abbrev F_cmp_Compare_int : FuncId := 147
abbrev F_slices_SortFunc_sl_api_Dot_api_Dot : FuncId := 148
abbrev F_cmp_isNaN_int : FuncId := 173
abbrev T_int : TypeId := 3
abbrev T_uint8 : TypeId := 5
abbrev T_string : TypeId := 9
abbrev T_int32 : TypeId := 21
abbrev T_sl_shadow_Shadow : TypeId := 22
abbrev T_api_Dot : TypeId := 28
abbrev T_vec_Vec : TypeId := 30
abbrev T_shadow_Shadow : TypeId := 32
abbrev T_value_Value : TypeId := 59
abbrev T_p_orset_Set : TypeId := 68
abbrev T_map_state_place_value_Value : TypeId := 72
abbrev T_state_State : TypeId := 74
abbrev T_state_place : TypeId := 77
abbrev T_value_Set : TypeId := 130
abbrev T_map_api_Dot_string : TypeId := 132
abbrev T_map_string_vec_Vec : TypeId := 133
abbrev T_orset_Set : TypeId := 135
abbrev T_value_Number : TypeId := 139
abbrev T_value_Text : TypeId := 142
abbrev T_uint64 : TypeId := 144
abbrev T_tally_Tally : TypeId := 178
abbrev T_last_Last : TypeId := 181
abbrev T_256_uint8 : TypeId := 223
abbrev T_20_uint64 : TypeId := 238
def p_rostrumlaw14_StateDrop : List (Nat × Pl) := [(20, (.fl 0 (.fl 1 (.fr 2 (.fr 3 (.st 4 [] (.fl 5 (.fr 6 (.fl 7 (.fl 8 (.fr 9 (.fl 10 (.fr 11 (.st 12 [] (.fl 13 (.fl 14 .done)))))))))))))))), (22, (.fl 0 (.fl 1 (.fl 2 (.fr 3 (.fr 4 (.fl 6 (.fl 7 (.fl 8 (.fr 9 (.fr 10 (.st 5 [9, 10] (.st 11 [] (.fl 12 (.fl 13 (.fl 14 (.fl 15 (.st 16 [] (.fl 17 (.fl 18 .done))))))))))))))))))))]
def c_rostrumlaw14_StateDrop : VCode :=
 (.seq (.reg [⟨(some 4), none, .mov (.c (.kb false))⟩])
 (.seq (.seq (.reg [⟨(some 10), none, .call 9 []⟩,
   ⟨(some 11), none, .un .not (.t 10)⟩])
 (.cond (.t 11)
  (.seq (.reg [⟨(some 4), none, .mov (.c (.kb false))⟩])
  .ret)
  .skip))
 (.seq (.seq (.reg [⟨(some 12), none, .mov (.t 0)⟩,
   ⟨(some 13), none, .len .sl (.t 12)⟩,
   ⟨(some 14), none, .bin .gtr .no (.t 13) (.c (.raw (.int .i64 25)))⟩,
   ⟨(some 15), none, .mov (.t 14)⟩,
   ⟨(some 16), (some (15, false)), .mov (.t 1)⟩,
   ⟨(some 17), (some (15, false)), .len .sl (.t 16)⟩,
   ⟨(some 18), (some (15, false)), .bin .gtr .no (.t 17) (.c (.raw (.int .i64 15)))⟩,
   ⟨(some 19), none, .pick (.t 15) (.c (.kb true)) (.t 18)⟩])
 (.cond (.t 19)
  (.seq (.reg [⟨(some 4), none, .mov (.c (.kb true))⟩])
  .ret)
  .skip))
 (.seq (.reg [⟨(some 20), none, .call 10 []⟩,
   ⟨(some 21), none, .call 10 []⟩,
   ⟨(some 5), none, .mov (.t 20)⟩,
   ⟨(some 6), none, .mov (.t 21)⟩])
 (.seq (.seq (.reg [⟨(some 7), none, .mov (.c (.raw (.int .i64 0)))⟩])
 (.block 0 (.loop (.seq (.seq (.reg [⟨(some 22), none, .mov (.t 7)⟩,
    ⟨(some 23), none, .mov (.t 0)⟩,
    ⟨(some 24), none, .len .sl (.t 23)⟩,
    ⟨(some 25), none, .bin .lss .no (.t 22) (.t 24)⟩])
  (.cond (.t 25)
   .skip
   (.exit 0)))
  (.seq (.block 1 (.seq (.seq (.reg [⟨(some 28), none, .mov (.t 0)⟩,
    ⟨(some 29), none, .mov (.t 7)⟩,
    ⟨(some 30), none, .iaddr 14 none (.t 28) (.t 29)⟩,
    ⟨(some 31), none, .load (some 14) (.t 30)⟩,
    ⟨(some 32), none, .call 11 [(.t 31)]⟩])
  (.cond (.t 32)
   (.seq (.reg [⟨(some 4), none, .mov (.c (.kb true))⟩])
   .ret)
   .skip))
  (.seq (.reg [⟨(some 33), none, .mov (.t 5)⟩,
    ⟨(some 34), none, .mov (.t 0)⟩,
    ⟨(some 35), none, .mov (.t 7)⟩,
    ⟨(some 36), none, .iaddr 14 none (.t 34) (.t 35)⟩,
    ⟨(some 37), none, .load (some 14) (.t 36)⟩,
    ⟨(some 38), none, .call 12 [(.t 33), (.t 37)]⟩])
  (.reg [⟨(some 39), none, .mov (.t 6)⟩,
    ⟨(some 40), none, .mov (.t 0)⟩,
    ⟨(some 41), none, .mov (.t 7)⟩,
    ⟨(some 42), none, .iaddr 14 none (.t 40) (.t 41)⟩,
    ⟨(some 43), none, .load (some 14) (.t 42)⟩,
    ⟨(some 44), none, .call 12 [(.t 39), (.t 43)]⟩]))))
  (.reg [⟨(some 26), none, .mov (.t 7)⟩,
    ⟨(some 27), none, .bin .add .no (.t 26) (.c (.raw (.int .i64 1)))⟩,
    ⟨(some 7), none, .mov (.t 27)⟩]))))))
 (.seq (.reg [⟨(some 45), none, .mov (.t 5)⟩,
   ⟨(some 46), none, .call 15 [(.t 45)]⟩,
   ⟨(some 8), none, .new 30 [(.int .i64 0), (.int .i64 0), (.int .i64 0), (.int .i64 0), (.int .i64 0), (.int .i64 0), (.int .i64 0)]⟩,
   ⟨none, none, .store (some 7) (.t 8) (.t 46)⟩])
 (.seq (.reg [⟨(some 47), none, .mov (.t 6)⟩,
   ⟨(some 48), none, .load (some 7) (.t 8)⟩,
   ⟨(some 49), none, .call 19 [(.t 47), (.t 48)]⟩])
 (.seq (.seq (.reg [⟨(some 50), none, .mov (.t 5)⟩,
   ⟨(some 51), none, .mov (.t 6)⟩,
   ⟨(some 52), none, .call 18 [(.t 50), (.t 51)]⟩,
   ⟨(some 53), none, .un .not (.t 52)⟩])
 (.cond (.t 53)
  (.seq (.reg [⟨(some 4), none, .mov (.c (.kb false))⟩])
  .ret)
  .skip))
 (.seq (.seq (.reg [⟨(some 9), none, .mov (.c (.raw (.int .i64 0)))⟩])
 (.block 2 (.loop (.seq (.seq (.reg [⟨(some 54), none, .mov (.t 9)⟩,
    ⟨(some 55), none, .mov (.t 1)⟩,
    ⟨(some 56), none, .len .sl (.t 55)⟩,
    ⟨(some 57), none, .bin .lss .no (.t 54) (.t 56)⟩])
  (.cond (.t 57)
   .skip
   (.exit 2)))
  (.seq (.block 3 (.seq (.seq (.draw [⟨(some 60), none, .mov (.t 1)⟩,
    ⟨(some 61), none, .mov (.t 9)⟩,
    ⟨(some 62), none, .iaddr 14 none (.t 60) (.t 61)⟩,
    ⟨(some 63), none, .load (some 14) (.t 62)⟩,
    ⟨(some 64), none, .call 11 [(.t 63)]⟩,
    ⟨(some 65), none, .mov (.t 64)⟩,
    ⟨(some 66), (some (65, false)), .load (some 7) (.t 8)⟩,
    ⟨(some 67), (some (65, false)), .mov (.t 1)⟩,
    ⟨(some 68), (some (65, false)), .mov (.t 9)⟩,
    ⟨(some 69), (some (65, false)), .iaddr 14 none (.t 67) (.t 68)⟩,
    ⟨(some 70), (some (65, false)), .faddr 2 (.t 69)⟩,
    ⟨(some 71), (some (65, false)), .load (some 7) (.t 70)⟩,
    ⟨(some 72), (some (65, false)), .call 20 [(.t 66), (.t 71)]⟩,
    ⟨(some 73), (some (65, false)), .un .not (.t 72)⟩,
    ⟨(some 74), none, .pick (.t 65) (.c (.kb true)) (.t 73)⟩]
    (.fl 0 (.fl 1 (.fr 2 (.fr 3 (.st 4 [] (.fl 5 (.fr 6 (.fl 7 (.fl 8 (.fr 9 (.fl 10 (.fr 11 (.st 12 [] (.fl 13 (.fl 14 .done))))))))))))))))
  (.cond (.t 74)
   (.seq (.reg [⟨(some 4), none, .mov (.c (.kb true))⟩])
   .ret)
   .skip))
  (.seq (.draw [⟨(some 75), none, .mov (.t 5)⟩,
    ⟨(some 76), none, .mov (.t 1)⟩,
    ⟨(some 77), none, .mov (.t 9)⟩,
    ⟨(some 78), none, .iaddr 14 none (.t 76) (.t 77)⟩,
    ⟨(some 79), none, .load (some 14) (.t 78)⟩,
    ⟨(some 80), none, .call 12 [(.t 75), (.t 79)]⟩,
    ⟨(some 81), none, .mov (.t 6)⟩,
    ⟨(some 82), none, .mov (.t 1)⟩,
    ⟨(some 83), none, .mov (.t 9)⟩,
    ⟨(some 84), none, .iaddr 14 none (.t 82) (.t 83)⟩,
    ⟨(some 85), none, .load (some 14) (.t 84)⟩,
    ⟨(some 86), none, .call 12 [(.t 81), (.t 85)]⟩,
    ⟨(some 87), none, .bin .neq .no (.t 80) (.t 86)⟩,
    ⟨(some 88), none, .mov (.t 87)⟩,
    ⟨(some 89), (some (88, false)), .mov (.t 5)⟩,
    ⟨(some 90), (some (88, false)), .mov (.t 6)⟩,
    ⟨(some 91), (some (88, false)), .call 18 [(.t 89), (.t 90)]⟩,
    ⟨(some 92), (some (88, false)), .un .not (.t 91)⟩,
    ⟨(some 93), none, .pick (.t 88) (.c (.kb true)) (.t 92)⟩]
    (.fl 0 (.fl 1 (.fl 2 (.fr 3 (.fr 4 (.fl 6 (.fl 7 (.fl 8 (.fr 9 (.fr 10 (.st 5 [9, 10] (.st 11 [] (.fl 12 (.fl 13 (.fl 14 (.fl 15 (.st 16 [] (.fl 17 (.fl 18 .done))))))))))))))))))))
  (.cond (.t 93)
   (.seq (.reg [⟨(some 4), none, .mov (.c (.kb false))⟩])
   .ret)
   .skip))))
  (.reg [⟨(some 58), none, .mov (.t 9)⟩,
    ⟨(some 59), none, .bin .add .no (.t 58) (.c (.raw (.int .i64 1)))⟩,
    ⟨(some 9), none, .mov (.t 59)⟩]))))))
 (.seq (.reg [⟨(some 94), none, .mov (.t 5)⟩,
   ⟨(some 95), none, .call 15 [(.t 94)]⟩,
   ⟨(some 96), none, .mov (.t 6)⟩,
   ⟨(some 97), none, .call 15 [(.t 96)]⟩,
   ⟨(some 98), none, .bin .eql (.agg [.i, .i, .i, .i, .i, .i, .i]) (.t 95) (.t 97)⟩,
   ⟨(some 4), none, .mov (.t 98)⟩])
 .ret))))))))))
theorem i_rostrumlaw14_StateDrop : Is Tryz.prog 6 99 [.t 4] c_rostrumlaw14_StateDrop := ⟨Tryz.f6, _, p_rostrumlaw14_StateDrop, rfl, rfl, by kernel_rfl, by kernel_rfl, rfl⟩
def p_rostrumlaw14_awake : List (Nat × Pl) := []
def c_rostrumlaw14_awake : VCode :=
 (.seq (.reg [⟨(some 0), none, .mov (.c (.kb false))⟩])
 (.seq (.reg [⟨(some 4), none, .call 10 []⟩,
   ⟨(some 1), none, .mov (.t 4)⟩])
 (.seq (.seq (.reg [⟨(some 5), none, .mov (.t 1)⟩,
   ⟨(some 6), none, .bin .eql .p (.t 5) (.c (.raw (.pointer none)))⟩])
 (.cond (.t 6)
  (.seq (.reg [⟨(some 0), none, .mov (.c (.kb false))⟩])
  .ret)
  .skip))
 (.seq (.reg [⟨(some 7), none, .mov (.t 1)⟩,
   ⟨(some 8), none, .build [(.int .i64 0), (.int .i64 0)] [(1, 1, (.c (.raw (.int .i64 1))))]⟩,
   ⟨(some 9), none, .build [(.int .i64 0), (.int .i64 0), (.int .i64 0), (.int .i64 0), (.int .i64 0), (.int .i64 0), (.int .i64 0), (.int .i64 0), (.int .i64 0), (.int .i64 0), (.string (ByteArray.mk #[])), (.string (ByteArray.mk #[])), (.int .i64 0), (.int .i64 0)] [(0, 2, (.t 8)), (9, 1, (.c (.raw (.int .i64 3)))), (10, 1, (.c (.raw (.string (ByteArray.mk #[107]))))), (12, 1, (.c (.raw (.int .i64 5))))]⟩,
   ⟨(some 10), none, .call 12 [(.t 7), (.t 9)]⟩,
   ⟨(some 2), none, .mov (.t 10)⟩])
 (.seq (.reg [⟨(some 11), none, .mov (.t 1)⟩,
   ⟨(some 12), none, .build [(.int .i64 0), (.int .i64 0)] [(1, 1, (.c (.raw (.int .i64 2))))]⟩,
   ⟨(some 13), none, .build [(.int .i64 0), (.int .i64 0), (.int .i64 0), (.int .i64 0), (.int .i64 0), (.int .i64 0), (.int .i64 0)] [(0, 1, (.c (.raw (.int .i64 1))))]⟩,
   ⟨(some 14), none, .build [(.int .i64 0), (.int .i64 0), (.int .i64 0), (.int .i64 0), (.int .i64 0), (.int .i64 0), (.int .i64 0), (.int .i64 0), (.int .i64 0), (.int .i64 0), (.string (ByteArray.mk #[])), (.string (ByteArray.mk #[])), (.int .i64 0), (.int .i64 0)] [(0, 2, (.t 12)), (2, 7, (.t 13)), (9, 1, (.c (.raw (.int .i64 3)))), (10, 1, (.c (.raw (.string (ByteArray.mk #[107]))))), (12, 1, (.c (.raw (.int .i64 (-2)))))]⟩,
   ⟨(some 15), none, .call 12 [(.t 11), (.t 14)]⟩,
   ⟨(some 3), none, .mov (.t 15)⟩])
 (.seq (.reg [⟨(some 16), none, .mov (.t 2)⟩,
   ⟨(some 17), none, .bin .eql .no (.t 16) (.c (.raw (.int .i64 0)))⟩,
   ⟨(some 18), none, .mov (.t 17)⟩,
   ⟨(some 19), (some (18, true)), .mov (.t 3)⟩,
   ⟨(some 20), (some (18, true)), .bin .eql .no (.t 19) (.c (.raw (.int .i64 0)))⟩,
   ⟨(some 21), none, .pick (.t 18) (.t 20) (.c (.kb false))⟩,
   ⟨(some 22), none, .mov (.t 21)⟩,
   ⟨(some 23), (some (22, true)), .mov (.t 1)⟩,
   ⟨(some 24), (some (22, true)), .call 25 [(.t 23), (.c (.raw (.int .i64 2))), (.c (.raw (.string (ByteArray.mk #[107]))))]⟩,
   ⟨(some 25), (some (22, true)), .bin .eql .no (.t 24) (.c (.raw (.string (ByteArray.mk #[51]))))⟩,
   ⟨(some 26), none, .pick (.t 22) (.t 25) (.c (.kb false))⟩,
   ⟨(some 27), none, .mov (.t 26)⟩,
   ⟨(some 28), (some (27, true)), .mov (.t 1)⟩,
   ⟨(some 29), (some (27, true)), .call 15 [(.t 28)]⟩,
   ⟨(some 30), (some (27, true)), .build [(.int .i64 0), (.int .i64 0), (.int .i64 0), (.int .i64 0), (.int .i64 0), (.int .i64 0), (.int .i64 0)] [(0, 1, (.c (.raw (.int .i64 2))))]⟩,
   ⟨(some 31), (some (27, true)), .bin .eql (.agg [.i, .i, .i, .i, .i, .i, .i]) (.t 29) (.t 30)⟩,
   ⟨(some 32), none, .pick (.t 27) (.t 31) (.c (.kb false))⟩,
   ⟨(some 33), none, .mov (.t 32)⟩,
   ⟨(some 34), (some (33, true)), .mov (.t 1)⟩,
   ⟨(some 35), (some (33, true)), .call 28 [(.t 34), (.c (.raw (.int .i64 2)))]⟩,
   ⟨(some 36), (some (33, true)), .bslice 9 1 [(.string (ByteArray.mk #[]))] [(0, 1, (.c (.raw (.string (ByteArray.mk #[107])))))]⟩,
   ⟨(some 37), (some (33, true)), .call 27 [(.t 35), (.t 36)]⟩,
   ⟨(some 38), none, .pick (.t 33) (.t 37) (.c (.kb false))⟩,
   ⟨(some 0), none, .mov (.t 38)⟩])
 .ret))))))
theorem i_rostrumlaw14_awake : Is Tryz.prog 9 39 [.t 0] c_rostrumlaw14_awake := ⟨Tryz.f9, _, p_rostrumlaw14_awake, rfl, rfl, by kernel_rfl, by kernel_rfl, rfl⟩
def p_state_New : List (Nat × Pl) := []
def c_state_New : VCode :=
 (.seq (.reg [⟨(some 0), none, .mov (.c (.raw (.pointer none)))⟩])
 (.seq (.reg [⟨(some 1), none, .mkmap⟩,
   ⟨(some 2), none, .build [(.int .i64 0), (.int .i64 0), (.int .i64 0), (.int .i64 0), (.int .i64 0), (.int .i64 0), (.int .i64 0), (.map none)] [(7, 1, (.t 1))]⟩,
   ⟨(some 3), none, .box 74 (.t 2)⟩,
   ⟨(some 0), none, .mov (.t 3)⟩])
 .ret))
theorem i_state_New : Is Tryz.prog 10 4 [.t 0] c_state_New := ⟨Tryz.f10, _, p_state_New, rfl, rfl, by kernel_rfl, by kernel_rfl, rfl⟩
def p_rostrumlaw14_long : List (Nat × Pl) := []
def c_rostrumlaw14_long : VCode :=
 (.seq (.reg [⟨(some 1), none, .box 32 (.t 0)⟩,
   ⟨(some 2), none, .mov (.c (.kb false))⟩])
 (.seq (.reg [⟨(some 3), none, .faddr 10 (.t 1)⟩,
   ⟨(some 4), none, .load none (.t 3)⟩,
   ⟨(some 5), none, .len .str (.t 4)⟩,
   ⟨(some 6), none, .bin .gtr .no (.t 5) (.c (.raw (.int .i64 100)))⟩,
   ⟨(some 7), none, .mov (.t 6)⟩,
   ⟨(some 8), (some (7, false)), .faddr 11 (.t 1)⟩,
   ⟨(some 9), (some (7, false)), .load none (.t 8)⟩,
   ⟨(some 10), (some (7, false)), .len .str (.t 9)⟩,
   ⟨(some 11), (some (7, false)), .bin .gtr .no (.t 10) (.c (.raw (.int .i64 150)))⟩,
   ⟨(some 12), none, .pick (.t 7) (.c (.kb true)) (.t 11)⟩,
   ⟨(some 2), none, .mov (.t 12)⟩])
 .ret))
theorem i_rostrumlaw14_long : Is Tryz.prog 11 13 [.t 2] c_rostrumlaw14_long := ⟨Tryz.f11, _, p_rostrumlaw14_long, rfl, rfl, by kernel_rfl, by kernel_rfl, rfl⟩
def p_state_State_Apply : List (Nat × Pl) := [(3, (.fl 0 (.fr 1 (.fl 2 (.fr 3 (.fl 4 (.fr 5 (.st 6 [] (.fl 7 .done))))))))), (5, (.fr 0 (.fl 1 (.fr 2 (.fl 3 (.fr 4 (.st 5 [] (.fl 6 (.fl 7 .done))))))))), (7, (.fr 0 (.fl 2 (.fr 3 (.br (.st 1 [3] (.fr 4 (.st 5 [3, 4] (.st 6 [] .done)))) (.st 5 [0, 3] (.st 1 [3] (.fr 4 (.st 6 [] .done))))))))), (8, (.fl 0 (.fr 1 (.fl 2 (.fr 3 (.fr 4 (.fr 5 (.fl 6 (.fl 7 (.fl 8 (.fl 9 (.fl 10 .done)))))))))))), (14, (.fl 0 (.fr 1 (.fl 2 (.fr 3 (.fr 4 (.fl 5 (.st 6 [] .done)))))))), (15, (.fl 0 (.fl 1 (.fl 2 (.fr 3 (.fl 4 (.fl 5 (.fr 6 (.fr 7 (.fl 8 (.fr 9 (.st 10 [] .done))))))))))))]
def c_state_State_Apply : VCode :=
 (.seq (.reg [⟨(some 3), none, .box 32 (.t 1)⟩,
   ⟨(some 4), none, .mov (.c (.raw (.int .i64 0)))⟩])
 (.seq (.block 0 (.seq (.reg [⟨(some 10), none, .load (some 14) (.t 3)⟩,
   ⟨(some 11), none, .call 16 [(.t 10)]⟩,
   ⟨(some 12), none, .un .not (.t 11)⟩,
   ⟨(some 9), none, .mov (.t 12)⟩])
 (.cond (.t 9)
  (.seq (.reg [⟨(some 4), none, .mov (.c (.raw (.int .i64 1)))⟩])
  .ret)
  (.seq (.draw [⟨(some 14), none, .mov (.t 0)⟩,
    ⟨(some 15), none, .nilck (.t 14)⟩,
    ⟨(some 16), none, .faddr 0 (.t 15)⟩,
    ⟨(some 17), none, .load (some 7) (.t 16)⟩,
    ⟨(some 18), none, .faddr 0 (.t 3)⟩,
    ⟨(some 19), none, .load (some 2) (.t 18)⟩,
    ⟨(some 20), none, .call 14 [(.t 17), (.t 19)]⟩,
    ⟨(some 13), none, .mov (.t 20)⟩]
    (.fl 0 (.fr 1 (.fl 2 (.fr 3 (.fl 4 (.fr 5 (.st 6 [] (.fl 7 .done)))))))))
  (.cond (.t 13)
   (.seq (.reg [⟨(some 4), none, .mov (.c (.raw (.int .i64 5)))⟩])
   .ret)
   (.seq (.draw [⟨(some 22), none, .load (some 14) (.t 3)⟩,
     ⟨(some 23), none, .mov (.t 0)⟩,
     ⟨(some 24), none, .nilck (.t 23)⟩,
     ⟨(some 25), none, .faddr 0 (.t 24)⟩,
     ⟨(some 26), none, .load (some 7) (.t 25)⟩,
     ⟨(some 27), none, .call 17 [(.t 22), (.t 26)]⟩,
     ⟨(some 28), none, .un .not (.t 27)⟩,
     ⟨(some 21), none, .mov (.t 28)⟩]
     (.fr 0 (.fl 1 (.fr 2 (.fl 3 (.fr 4 (.st 5 [] (.fl 6 (.fl 7 .done)))))))))
   (.cond (.t 21)
    (.seq (.reg [⟨(some 4), none, .mov (.c (.raw (.int .i64 8)))⟩])
    .ret)
    .skip)))))))
 (.seq (.draw [⟨(some 29), none, .load (some 14) (.t 3)⟩,
   ⟨(some 30), none, .call 33 [(.t 29)]⟩,
   ⟨(some 31), none, .faddr 10 (.t 3)⟩,
   ⟨(some 32), none, .load none (.t 31)⟩,
   ⟨(some 33), none, .build [(.int .i64 0), (.string (ByteArray.mk #[]))] [(0, 1, (.t 30)), (1, 1, (.t 32))]⟩,
   ⟨(some 5), none, .new 77 [(.int .i64 0), (.string (ByteArray.mk #[]))]⟩,
   ⟨none, none, .store (some 2) (.t 5) (.t 33)⟩]
   (.fr 0 (.fl 2 (.fr 3 (.br (.st 1 [3] (.fr 4 (.st 5 [3, 4] (.st 6 [] .done)))) (.st 5 [0, 3] (.st 1 [3] (.fr 4 (.st 6 [] .done)))))))))
 (.seq (.draw [⟨(some 35), none, .mov (.t 0)⟩,
   ⟨(some 36), none, .nilck (.t 35)⟩,
   ⟨(some 37), none, .faddr 7 (.t 36)⟩,
   ⟨(some 38), none, .load none (.t 37)⟩,
   ⟨(some 39), none, .load (some 2) (.t 5)⟩,
   ⟨(some 40), none, .lookup 72 true (.t 38) (.t 39)⟩,
   ⟨(some 34), none, .mov (.t 40)⟩,
   ⟨(some 41), none, .extr (.t 34) 0⟩,
   ⟨(some 42), none, .extr (.t 34) 1⟩,
   ⟨(some 6), none, .mov (.t 41)⟩,
   ⟨(some 7), none, .mov (.t 42)⟩]
   (.fl 0 (.fr 1 (.fl 2 (.fr 3 (.fr 4 (.fr 5 (.fl 6 (.fl 7 (.fl 8 (.fl 9 (.fl 10 .done))))))))))))
 (.seq (.seq (.reg [⟨(some 43), none, .mov (.t 7)⟩,
   ⟨(some 44), none, .un .not (.t 43)⟩])
 (.cond (.t 44)
  (.reg [⟨(some 46), none, .faddr 0 (.t 5)⟩,
    ⟨(some 47), none, .load none (.t 46)⟩,
    ⟨(some 48), none, .call 34 [(.t 47)]⟩,
    ⟨(some 45), none, .mov (.t 48)⟩,
    ⟨(some 49), none, .extr (.t 45) 0⟩,
    ⟨(some 50), none, .extr (.t 45) 1⟩,
    ⟨(some 6), none, .mov (.t 49)⟩])
  .skip))
 (.seq (.seq (.reg [⟨(some 51), none, .mov (.t 6)⟩,
   ⟨(some 52), none, .load (some 14) (.t 3)⟩,
   ⟨(some 53), none, .call 35 [(.t 51), (.t 52)]⟩,
   ⟨(some 8), none, .mov (.t 53)⟩])
 (.seq (.reg [⟨(some 54), none, .mov (.t 8)⟩,
   ⟨(some 55), none, .bin .neq .no (.t 54) (.c (.raw (.int .i64 0)))⟩])
 (.cond (.t 55)
  (.seq (.reg [⟨(some 56), none, .mov (.t 8)⟩,
    ⟨(some 4), none, .mov (.t 56)⟩])
  .ret)
  .skip)))
 (.seq (.draw [⟨(some 57), none, .mov (.t 0)⟩,
   ⟨(some 58), none, .nilck (.t 57)⟩,
   ⟨(some 59), none, .faddr 7 (.t 58)⟩,
   ⟨(some 60), none, .load none (.t 59)⟩,
   ⟨(some 61), none, .load (some 2) (.t 5)⟩,
   ⟨(some 62), none, .mov (.t 6)⟩,
   ⟨none, none, .mapup 72 (.t 60) (.t 61) (.t 62)⟩]
   (.fl 0 (.fr 1 (.fl 2 (.fr 3 (.fr 4 (.fl 5 (.st 6 [] .done))))))))
 (.seq (.draw [⟨(some 63), none, .mov (.t 0)⟩,
   ⟨(some 64), none, .faddr 0 (.t 3)⟩,
   ⟨(some 65), none, .faddr 0 (.t 64)⟩,
   ⟨(some 66), none, .load none (.t 65)⟩,
   ⟨(some 67), none, .faddr 0 (.t 3)⟩,
   ⟨(some 68), none, .faddr 1 (.t 67)⟩,
   ⟨(some 69), none, .load none (.t 68)⟩,
   ⟨(some 70), none, .nilck (.t 63)⟩,
   ⟨(some 71), none, .faddr 0 (.t 70)⟩,
   ⟨(some 72), none, .iaddr 1 (some 7) (.t 71) (.t 66)⟩,
   ⟨none, none, .store none (.t 72) (.t 69)⟩]
   (.fl 0 (.fl 1 (.fl 2 (.fr 3 (.fl 4 (.fl 5 (.fr 6 (.fr 7 (.fl 8 (.fr 9 (.st 10 [] .done))))))))))))
 (.seq (.reg [⟨(some 4), none, .mov (.c (.raw (.int .i64 0)))⟩])
 .ret)))))))))
theorem i_state_State_Apply : Is Tryz.prog 12 73 [.t 4] c_state_State_Apply := ⟨Tryz.f12, _, p_state_State_Apply, rfl, rfl, by kernel_rfl, by kernel_rfl, rfl⟩
def p_state_State_Bytes : List (Nat × Pl) := []
def c_state_State_Bytes : VCode :=
 (.seq (.reg [⟨(some 2), none, .mov (.c (.raw (.slice none 0 0)))⟩])
 (.seq (.reg [⟨(some 7), none, .mov (.t 0)⟩,
   ⟨(some 8), none, .nilck (.t 7)⟩,
   ⟨(some 9), none, .faddr 0 (.t 8)⟩,
   ⟨(some 10), none, .load (some 7) (.t 9)⟩,
   ⟨(some 11), none, .call 36 [(.c (.raw (.slice none 0 0))), (.t 10)]⟩,
   ⟨(some 3), none, .mov (.t 11)⟩])
 (.seq (.seq (.reg [⟨(some 4), none, .mov (.c (.raw (.int .i64 1)))⟩])
 (.block 0 (.loop (.seq (.seq (.reg [⟨(some 12), none, .mov (.t 4)⟩,
    ⟨(some 13), none, .bin .leq .no (.t 12) (.c (.raw (.int .i64 3)))⟩])
  (.cond (.t 13)
   .skip
   (.exit 0)))
  (.seq (.block 1 (.seq (.reg [⟨(some 16), none, .mov (.t 0)⟩,
    ⟨(some 17), none, .mov (.t 4)⟩,
    ⟨(some 18), none, .call 28 [(.t 16), (.t 17)]⟩,
    ⟨(some 19), none, .len .sl (.t 18)⟩,
    ⟨(some 20), none, .mov (.c (.raw (.int .i64 0)))⟩])
  (.block 2 (.loop (.seq (.reg [⟨(some 21), none, .bin .lss .no (.t 20) (.t 19)⟩])
   (.seq (.cond (.t 21)
    .skip
    (.exit 2))
   (.seq (.block 3 (.seq (.reg [⟨(some 22), none, .iaddr 1 none (.t 18) (.t 20)⟩,
     ⟨(some 23), none, .load none (.t 22)⟩,
     ⟨(some 6), none, .mov (.t 23)⟩])
   (.seq (.reg [⟨(some 24), none, .mov (.t 3)⟩,
     ⟨(some 25), none, .mov (.t 4)⟩,
     ⟨(some 26), none, .call 38 [(.t 24), (.t 25)]⟩,
     ⟨(some 27), none, .mov (.t 6)⟩,
     ⟨(some 28), none, .call 37 [(.t 26), (.t 27)]⟩,
     ⟨(some 3), none, .mov (.t 28)⟩])
   (.reg [⟨(some 29), none, .mov (.t 3)⟩,
     ⟨(some 30), none, .mov (.t 0)⟩,
     ⟨(some 31), none, .nilck (.t 30)⟩,
     ⟨(some 32), none, .faddr 7 (.t 31)⟩,
     ⟨(some 33), none, .load none (.t 32)⟩,
     ⟨(some 34), none, .mov (.t 4)⟩,
     ⟨(some 35), none, .mov (.t 6)⟩,
     ⟨(some 36), none, .build [(.int .i64 0), (.string (ByteArray.mk #[]))] [(0, 1, (.t 34)), (1, 1, (.t 35))]⟩,
     ⟨(some 37), none, .lookup 72 false (.t 33) (.t 36)⟩,
     ⟨(some 38), none, .call 39 [(.t 37)]⟩,
     ⟨(some 39), none, .append 5 1 1 [(.int .u8 0)] (.t 29) (.t 38)⟩,
     ⟨(some 3), none, .mov (.t 39)⟩]))))
   (.reg [⟨(some 40), none, .bin .add .no (.t 20) (.c (.raw (.int .i64 1)))⟩,
     ⟨(some 20), none, .mov (.t 40)⟩]))))))))
  (.reg [⟨(some 14), none, .mov (.t 4)⟩,
    ⟨(some 15), none, .bin .add .no (.t 14) (.c (.raw (.int .i64 1)))⟩,
    ⟨(some 4), none, .mov (.t 15)⟩]))))))
 (.seq (.reg [⟨(some 41), none, .mov (.t 3)⟩,
   ⟨(some 2), none, .mov (.t 41)⟩])
 .ret))))
theorem i_state_State_Bytes : Is Tryz.prog 13 42 [.t 2] c_state_State_Bytes := ⟨Tryz.f13, _, p_state_State_Bytes, rfl, rfl, by kernel_rfl, by kernel_rfl, rfl⟩
def p_vec_Has : List (Nat × Pl) := [(1, (.fl 0 (.fr 1 (.st 2 [] (.fl 3 (.fl 4 (.fr 5 (.fl 6 (.fl 7 (.fl 8 (.fl 9 (.fr 10 (.fl 11 (.fr 12 (.fr 13 (.fr 14 (.fl 15 (.fl 16 (.fl 17 .done)))))))))))))))))))]
def c_vec_Has : VCode :=
 (.seq (.reg [⟨(some 2), none, .box 30 (.t 0)⟩,
   ⟨(some 3), none, .box 28 (.t 1)⟩,
   ⟨(some 4), none, .mov (.c (.kb false))⟩])
 (.seq (.draw [⟨(some 5), none, .faddr 0 (.t 3)⟩,
   ⟨(some 6), none, .load none (.t 5)⟩,
   ⟨(some 7), none, .call 40 [(.t 6)]⟩,
   ⟨(some 8), none, .mov (.t 7)⟩,
   ⟨(some 9), (some (8, true)), .faddr 1 (.t 3)⟩,
   ⟨(some 10), (some (8, true)), .load none (.t 9)⟩,
   ⟨(some 11), (some (8, true)), .bin .geq .no (.t 10) (.c (.raw (.int .i64 1)))⟩,
   ⟨(some 12), none, .pick (.t 8) (.t 11) (.c (.kb false))⟩,
   ⟨(some 13), none, .mov (.t 12)⟩,
   ⟨(some 14), (some (13, true)), .faddr 1 (.t 3)⟩,
   ⟨(some 15), (some (13, true)), .load none (.t 14)⟩,
   ⟨(some 16), (some (13, true)), .faddr 0 (.t 3)⟩,
   ⟨(some 17), (some (13, true)), .load none (.t 16)⟩,
   ⟨(some 18), (some (13, true)), .iaddr 1 (some 7) (.t 2) (.t 17)⟩,
   ⟨(some 19), (some (13, true)), .load none (.t 18)⟩,
   ⟨(some 20), (some (13, true)), .bin .leq .no (.t 15) (.t 19)⟩,
   ⟨(some 21), none, .pick (.t 13) (.t 20) (.c (.kb false))⟩,
   ⟨(some 4), none, .mov (.t 21)⟩]
   (.fl 0 (.fr 1 (.st 2 [] (.fl 3 (.fl 4 (.fr 5 (.fl 6 (.fl 7 (.fl 8 (.fl 9 (.fr 10 (.fl 11 (.fr 12 (.fr 13 (.fr 14 (.fl 15 (.fl 16 (.fl 17 .done)))))))))))))))))))
 .ret))
theorem i_vec_Has : Is Tryz.prog 14 22 [.t 4] c_vec_Has := ⟨Tryz.f14, _, p_vec_Has, rfl, rfl, by kernel_rfl, by kernel_rfl, rfl⟩
def p_state_State_Have : List (Nat × Pl) := []
def c_state_State_Have : VCode :=
 (.seq (.reg [⟨(some 2), none, .new 30 [(.int .i64 0), (.int .i64 0), (.int .i64 0), (.int .i64 0), (.int .i64 0), (.int .i64 0), (.int .i64 0)]⟩])
 (.seq (.reg [⟨(some 3), none, .mov (.t 0)⟩,
   ⟨(some 4), none, .nilck (.t 3)⟩,
   ⟨(some 5), none, .faddr 0 (.t 4)⟩,
   ⟨(some 6), none, .load (some 7) (.t 5)⟩,
   ⟨none, none, .store (some 7) (.t 2) (.t 6)⟩])
 .ret))
theorem i_state_State_Have : Is Tryz.prog 15 7 [.cell 2 (some 7)] c_state_State_Have := ⟨Tryz.f15, _, p_state_State_Have, rfl, rfl, by kernel_rfl, by kernel_rfl, rfl⟩
def p_shadow_Good : List (Nat × Pl) := [(1, (.fl 0 (.fr 1 (.st 2 [] (.fl 3 (.fl 4 (.fl 5 (.fr 6 (.st 7 [] (.fl 8 (.fl 9 (.fl 10 (.fl 11 (.fl 12 (.fr 13 (.fl 14 (.fr 15 (.fr 16 (.fl 17 (.fl 18 (.fr 19 (.fl 20 (.fl 21 (.fl 22 (.fl 23 (.fl 24 (.fr 25 (.st 26 [] (.fl 27 (.fl 28 (.fl 29 (.fl 30 (.fr 31 (.fl 32 (.fl 33 (.fl 34 .done))))))))))))))))))))))))))))))))))))]
def c_shadow_Good : VCode :=
 (.seq (.reg [⟨(some 1), none, .box 32 (.t 0)⟩,
   ⟨(some 2), none, .mov (.c (.kb false))⟩])
 (.seq (.seq (.draw [⟨(some 3), none, .faddr 0 (.t 1)⟩,
   ⟨(some 4), none, .load (some 2) (.t 3)⟩,
   ⟨(some 5), none, .call 41 [(.t 4)]⟩,
   ⟨(some 6), none, .un .not (.t 5)⟩,
   ⟨(some 7), none, .mov (.t 6)⟩,
   ⟨(some 8), (some (7, false)), .faddr 2 (.t 1)⟩,
   ⟨(some 9), (some (7, false)), .load (some 7) (.t 8)⟩,
   ⟨(some 10), (some (7, false)), .call 42 [(.t 9)]⟩,
   ⟨(some 11), (some (7, false)), .un .not (.t 10)⟩,
   ⟨(some 12), none, .pick (.t 7) (.c (.kb true)) (.t 11)⟩,
   ⟨(some 13), none, .mov (.t 12)⟩,
   ⟨(some 14), (some (13, false)), .faddr 0 (.t 1)⟩,
   ⟨(some 15), (some (13, false)), .faddr 0 (.t 14)⟩,
   ⟨(some 16), (some (13, false)), .load none (.t 15)⟩,
   ⟨(some 17), (some (13, false)), .faddr 2 (.t 1)⟩,
   ⟨(some 18), (some (13, false)), .iaddr 1 (some 7) (.t 17) (.t 16)⟩,
   ⟨(some 19), (some (13, false)), .load none (.t 18)⟩,
   ⟨(some 20), (some (13, false)), .faddr 0 (.t 1)⟩,
   ⟨(some 21), (some (13, false)), .faddr 1 (.t 20)⟩,
   ⟨(some 22), (some (13, false)), .load none (.t 21)⟩,
   ⟨(some 23), (some (13, false)), .bin .sub .no (.t 22) (.c (.raw (.int .i64 1)))⟩,
   ⟨(some 24), (some (13, false)), .bin .neq .no (.t 19) (.t 23)⟩,
   ⟨(some 25), none, .pick (.t 13) (.c (.kb true)) (.t 24)⟩,
   ⟨(some 26), none, .mov (.t 25)⟩,
   ⟨(some 27), (some (26, false)), .faddr 10 (.t 1)⟩,
   ⟨(some 28), (some (26, false)), .load none (.t 27)⟩,
   ⟨(some 29), (some (26, false)), .call 43 [(.t 28)]⟩,
   ⟨(some 30), (some (26, false)), .un .not (.t 29)⟩,
   ⟨(some 31), none, .pick (.t 26) (.c (.kb true)) (.t 30)⟩,
   ⟨(some 32), none, .mov (.t 31)⟩,
   ⟨(some 33), (some (32, false)), .faddr 11 (.t 1)⟩,
   ⟨(some 34), (some (32, false)), .load none (.t 33)⟩,
   ⟨(some 35), (some (32, false)), .len .str (.t 34)⟩,
   ⟨(some 36), (some (32, false)), .bin .gtr .no (.t 35) (.c (.raw (.int .i64 100)))⟩,
   ⟨(some 37), none, .pick (.t 32) (.c (.kb true)) (.t 36)⟩]
   (.fl 0 (.fr 1 (.st 2 [] (.fl 3 (.fl 4 (.fl 5 (.fr 6 (.st 7 [] (.fl 8 (.fl 9 (.fl 10 (.fl 11 (.fl 12 (.fr 13 (.fl 14 (.fr 15 (.fr 16 (.fl 17 (.fl 18 (.fr 19 (.fl 20 (.fl 21 (.fl 22 (.fl 23 (.fl 24 (.fr 25 (.st 26 [] (.fl 27 (.fl 28 (.fl 29 (.fl 30 (.fr 31 (.fl 32 (.fl 33 (.fl 34 .done))))))))))))))))))))))))))))))))))))
 (.cond (.t 37)
  (.seq (.reg [⟨(some 2), none, .mov (.c (.kb false))⟩])
  .ret)
  .skip))
 (.seq (.seq (.reg [⟨(some 38), none, .faddr 12 (.t 1)⟩,
   ⟨(some 39), none, .load none (.t 38)⟩,
   ⟨(some 40), none, .bin .lss .no (.t 39) (.c (.raw (.int .i64 (-1099511627776))))⟩,
   ⟨(some 41), none, .mov (.t 40)⟩,
   ⟨(some 42), (some (41, false)), .faddr 12 (.t 1)⟩,
   ⟨(some 43), (some (41, false)), .load none (.t 42)⟩,
   ⟨(some 44), (some (41, false)), .bin .gtr .no (.t 43) (.c (.raw (.int .i64 1099511627776)))⟩,
   ⟨(some 45), none, .pick (.t 41) (.c (.kb true)) (.t 44)⟩,
   ⟨(some 46), none, .mov (.t 45)⟩,
   ⟨(some 47), (some (46, false)), .faddr 13 (.t 1)⟩,
   ⟨(some 48), (some (46, false)), .load none (.t 47)⟩,
   ⟨(some 49), (some (46, false)), .bin .lss .no (.t 48) (.c (.raw (.int .i64 0)))⟩,
   ⟨(some 50), none, .pick (.t 46) (.c (.kb true)) (.t 49)⟩,
   ⟨(some 51), none, .mov (.t 50)⟩,
   ⟨(some 52), (some (51, false)), .faddr 13 (.t 1)⟩,
   ⟨(some 53), (some (51, false)), .load none (.t 52)⟩,
   ⟨(some 54), (some (51, false)), .bin .gtr .no (.t 53) (.c (.raw (.int .i64 1099511627776)))⟩,
   ⟨(some 55), none, .pick (.t 51) (.c (.kb true)) (.t 54)⟩])
 (.cond (.t 55)
  (.seq (.reg [⟨(some 2), none, .mov (.c (.kb false))⟩])
  .ret)
  .skip))
 (.seq (.seq (.reg [⟨(some 56), none, .faddr 9 (.t 1)⟩,
   ⟨(some 57), none, .load none (.t 56)⟩])
 (.block 0 (.seq (.seq (.reg [⟨(some 59), none, .bin .eql .no (.t 57) (.c (.raw (.int .i64 1)))⟩,
   ⟨(some 58), none, .mov (.t 59)⟩])
 (.cond (.t 58)
  .skip
  (.reg [⟨(some 60), none, .bin .eql .no (.t 57) (.c (.raw (.int .i64 2)))⟩,
    ⟨(some 58), none, .mov (.t 60)⟩])))
 (.cond (.t 58)
  (.seq (.reg [⟨(some 61), none, .faddr 12 (.t 1)⟩,
    ⟨(some 62), none, .load none (.t 61)⟩,
    ⟨(some 63), none, .bin .eql .no (.t 62) (.c (.raw (.int .i64 0)))⟩,
    ⟨(some 64), none, .mov (.t 63)⟩,
    ⟨(some 65), (some (64, true)), .faddr 13 (.t 1)⟩,
    ⟨(some 66), (some (64, true)), .load none (.t 65)⟩,
    ⟨(some 67), (some (64, true)), .bin .eql .no (.t 66) (.c (.raw (.int .i64 0)))⟩,
    ⟨(some 68), none, .pick (.t 64) (.t 67) (.c (.kb false))⟩,
    ⟨(some 2), none, .mov (.t 68)⟩])
  .ret)
  (.seq (.reg [⟨(some 70), none, .bin .eql .no (.t 57) (.c (.raw (.int .i64 3)))⟩,
    ⟨(some 69), none, .mov (.t 70)⟩])
  (.cond (.t 69)
   (.seq (.reg [⟨(some 71), none, .faddr 11 (.t 1)⟩,
     ⟨(some 72), none, .load none (.t 71)⟩,
     ⟨(some 73), none, .bin .eql .no (.t 72) (.c (.raw (.string (ByteArray.mk #[]))))⟩,
     ⟨(some 74), none, .mov (.t 73)⟩,
     ⟨(some 75), (some (74, true)), .faddr 13 (.t 1)⟩,
     ⟨(some 76), (some (74, true)), .load none (.t 75)⟩,
     ⟨(some 77), (some (74, true)), .bin .eql .no (.t 76) (.c (.raw (.int .i64 0)))⟩,
     ⟨(some 78), none, .pick (.t 74) (.t 77) (.c (.kb false))⟩,
     ⟨(some 2), none, .mov (.t 78)⟩])
   .ret)
   (.seq (.reg [⟨(some 80), none, .bin .eql .no (.t 57) (.c (.raw (.int .i64 4)))⟩,
     ⟨(some 79), none, .mov (.t 80)⟩])
   (.cond (.t 79)
    (.seq (.reg [⟨(some 81), none, .faddr 12 (.t 1)⟩,
      ⟨(some 82), none, .load none (.t 81)⟩,
      ⟨(some 83), none, .bin .eql .no (.t 82) (.c (.raw (.int .i64 0)))⟩,
      ⟨(some 2), none, .mov (.t 83)⟩])
    .ret)
    .skip))))))))
 (.seq (.reg [⟨(some 2), none, .mov (.c (.kb false))⟩])
 .ret)))))
theorem i_shadow_Good : Is Tryz.prog 16 84 [.t 2] c_shadow_Good := ⟨Tryz.f16, _, p_shadow_Good, rfl, rfl, by kernel_rfl, by kernel_rfl, rfl⟩
def p_shadow_Ready : List (Nat × Pl) := []
def c_shadow_Ready : VCode :=
 (.seq (.reg [⟨(some 2), none, .box 32 (.t 0)⟩,
   ⟨(some 3), none, .box 30 (.t 1)⟩,
   ⟨(some 4), none, .mov (.c (.kb false))⟩])
 (.seq (.reg [⟨(some 5), none, .load (some 7) (.t 3)⟩,
   ⟨(some 6), none, .faddr 0 (.t 2)⟩,
   ⟨(some 7), none, .load (some 2) (.t 6)⟩,
   ⟨(some 8), none, .call 14 [(.t 5), (.t 7)]⟩,
   ⟨(some 9), none, .un .not (.t 8)⟩,
   ⟨(some 10), none, .mov (.t 9)⟩,
   ⟨(some 11), (some (10, true)), .faddr 2 (.t 2)⟩,
   ⟨(some 12), (some (10, true)), .load (some 7) (.t 11)⟩,
   ⟨(some 13), (some (10, true)), .load (some 7) (.t 3)⟩,
   ⟨(some 14), (some (10, true)), .call 20 [(.t 12), (.t 13)]⟩,
   ⟨(some 15), none, .pick (.t 10) (.t 14) (.c (.kb false))⟩,
   ⟨(some 4), none, .mov (.t 15)⟩])
 .ret))
theorem i_shadow_Ready : Is Tryz.prog 17 16 [.t 4] c_shadow_Ready := ⟨Tryz.f17, _, p_shadow_Ready, rfl, rfl, by kernel_rfl, by kernel_rfl, rfl⟩
def p_state_Same : List (Nat × Pl) := []
def c_state_Same : VCode :=
 (.seq (.reg [⟨(some 4), none, .mov (.c (.kb false))⟩])
 (.seq (.reg [⟨(some 5), none, .mov (.t 0)⟩,
   ⟨(some 6), none, .call 13 [(.t 5)]⟩,
   ⟨(some 7), none, .mov (.t 1)⟩,
   ⟨(some 8), none, .call 13 [(.t 7)]⟩,
   ⟨(some 9), none, .call 44 [(.t 6), (.t 8)]⟩,
   ⟨(some 4), none, .mov (.t 9)⟩])
 .ret))
theorem i_state_Same : Is Tryz.prog 18 10 [.t 4] c_state_Same := ⟨Tryz.f18, _, p_state_Same, rfl, rfl, by kernel_rfl, by kernel_rfl, rfl⟩
def p_state_State_Drop : List (Nat × Pl) := []
def c_state_State_Drop : VCode :=
 (.seq (.reg [⟨(some 3), none, .box 30 (.t 1)⟩])
 (.seq (.reg [⟨(some 8), none, .mov (.t 0)⟩,
   ⟨(some 9), none, .nilck (.t 8)⟩,
   ⟨(some 10), none, .faddr 7 (.t 9)⟩,
   ⟨(some 11), none, .load none (.t 10)⟩,
   ⟨(some 12), none, .range false (.t 11)⟩])
 (.block 0 (.loop (.seq (.reg [⟨(some 13), none, .next false (.t 12)⟩,
    ⟨(some 14), none, .extr (.t 13) 0⟩])
  (.seq (.cond (.t 14)
   .skip
   (.exit 0))
  (.block 1 (.seq (.reg [⟨(some 15), none, .entry (.t 12)⟩,
    ⟨(some 16), none, .extr (.t 15) 1⟩,
    ⟨(some 5), none, .mov (.t 16)⟩])
  (.seq (.reg [⟨(some 18), none, .mov (.t 5)⟩,
    ⟨(some 19), none, .call 31 [(.t 18)]⟩,
    ⟨(some 17), none, .mov (.t 19)⟩,
    ⟨(some 20), none, .extr (.t 17) 0⟩,
    ⟨(some 21), none, .extr (.t 17) 1⟩,
    ⟨(some 6), none, .mov (.t 20)⟩,
    ⟨(some 7), none, .mov (.t 21)⟩])
  (.seq (.reg [⟨(some 22), none, .mov (.t 7)⟩])
  (.cond (.t 22)
   (.reg [⟨(some 23), none, .mov (.t 6)⟩,
     ⟨(some 24), none, .load (some 7) (.t 3)⟩,
     ⟨(some 25), none, .call 45 [(.t 23), (.t 24)]⟩])
   .skip)))))))))))
theorem i_state_State_Drop : Is Tryz.prog 19 26 [] c_state_State_Drop := ⟨Tryz.f19, _, p_state_State_Drop, rfl, rfl, by kernel_rfl, by kernel_rfl, rfl⟩
def p_vec_Le : List (Nat × Pl) := [(4, (.fl 0 (.fr 1 (.fr 2 (.fl 3 (.fr 4 (.fr 5 (.fl 6 .done))))))))]
def c_vec_Le : VCode :=
 (.seq (.reg [⟨(some 2), none, .box 30 (.t 0)⟩,
   ⟨(some 3), none, .box 30 (.t 1)⟩,
   ⟨(some 4), none, .mov (.c (.kb false))⟩])
 (.seq (.seq (.reg [⟨(some 6), none, .mov (.c (.raw (.int .i64 0)))⟩])
 (.block 0 (.loop (.seq (.reg [⟨(some 7), none, .bin .lss .no (.t 6) (.c (.raw (.int .i64 7)))⟩])
  (.seq (.cond (.t 7)
   .skip
   (.exit 0))
  (.seq (.block 1 (.seq (.reg [⟨(some 8), none, .mov (.t 6)⟩,
    ⟨(some 5), none, .mov (.t 8)⟩])
  (.seq (.draw [⟨(some 9), none, .mov (.t 5)⟩,
    ⟨(some 10), none, .iaddr 1 (some 7) (.t 2) (.t 9)⟩,
    ⟨(some 11), none, .load none (.t 10)⟩,
    ⟨(some 12), none, .mov (.t 5)⟩,
    ⟨(some 13), none, .iaddr 1 (some 7) (.t 3) (.t 12)⟩,
    ⟨(some 14), none, .load none (.t 13)⟩,
    ⟨(some 15), none, .bin .gtr .no (.t 11) (.t 14)⟩]
    (.fl 0 (.fr 1 (.fr 2 (.fl 3 (.fr 4 (.fr 5 (.fl 6 .done))))))))
  (.cond (.t 15)
   (.seq (.reg [⟨(some 4), none, .mov (.c (.kb false))⟩])
   .ret)
   .skip))))
  (.reg [⟨(some 16), none, .bin .add .no (.t 6) (.c (.raw (.int .i64 1)))⟩,
    ⟨(some 6), none, .mov (.t 16)⟩])))))))
 (.seq (.reg [⟨(some 4), none, .mov (.c (.kb true))⟩])
 .ret)))
theorem i_vec_Le : Is Tryz.prog 20 17 [.t 4] c_vec_Le := ⟨Tryz.f20, _, p_vec_Le, rfl, rfl, by kernel_rfl, by kernel_rfl, rfl⟩
def p_state_State_Show : List (Nat × Pl) := []
def c_state_State_Show : VCode :=
 (.seq (.reg [⟨(some 6), none, .mov (.c (.raw (.string (ByteArray.mk #[]))))⟩])
 (.seq (.reg [⟨(some 7), none, .mov (.t 0)⟩,
   ⟨(some 8), none, .nilck (.t 7)⟩,
   ⟨(some 9), none, .faddr 7 (.t 8)⟩,
   ⟨(some 10), none, .load none (.t 9)⟩,
   ⟨(some 11), none, .mov (.t 1)⟩,
   ⟨(some 12), none, .mov (.t 2)⟩,
   ⟨(some 13), none, .build [(.int .i64 0), (.string (ByteArray.mk #[]))] [(0, 1, (.t 11)), (1, 1, (.t 12))]⟩,
   ⟨(some 14), none, .lookup 72 false (.t 10) (.t 13)⟩,
   ⟨(some 15), none, .call 26 [(.t 14)]⟩,
   ⟨(some 6), none, .mov (.t 15)⟩])
 .ret))
theorem i_state_State_Show : Is Tryz.prog 25 16 [.t 6] c_state_State_Show := ⟨Tryz.f25, _, p_state_State_Show, rfl, rfl, by kernel_rfl, by kernel_rfl, rfl⟩
def p_value_Show : List (Nat × Pl) := []
def c_value_Show : VCode :=
 (.seq (.reg [⟨(some 2), none, .mov (.c (.raw (.string (ByteArray.mk #[]))))⟩])
 (.seq (.seq (.reg [⟨(some 12), none, .mov (.t 0)⟩,
   ⟨(some 13), none, .call 31 [(.t 12)]⟩,
   ⟨(some 11), none, .mov (.t 13)⟩,
   ⟨(some 14), none, .extr (.t 11) 0⟩,
   ⟨(some 15), none, .extr (.t 11) 1⟩,
   ⟨(some 3), none, .mov (.t 14)⟩,
   ⟨(some 4), none, .mov (.t 15)⟩])
 (.seq (.reg [⟨(some 16), none, .mov (.t 4)⟩])
 (.cond (.t 16)
  (.seq (.reg [⟨(some 17), none, .mov (.t 3)⟩,
    ⟨(some 18), none, .call 60 [(.t 17)]⟩,
    ⟨(some 19), none, .call 59 [(.t 18), (.c (.raw (.string (ByteArray.mk #[44]))))]⟩,
    ⟨(some 2), none, .mov (.t 19)⟩])
  .ret)
  .skip)))
 (.seq (.seq (.reg [⟨(some 21), none, .mov (.t 0)⟩,
   ⟨(some 22), none, .call 61 [(.t 21)]⟩,
   ⟨(some 20), none, .mov (.t 22)⟩,
   ⟨(some 23), none, .extr (.t 20) 0⟩,
   ⟨(some 24), none, .extr (.t 20) 1⟩,
   ⟨(some 5), none, .mov (.t 23)⟩,
   ⟨(some 6), none, .mov (.t 24)⟩])
 (.seq (.reg [⟨(some 25), none, .mov (.t 6)⟩])
 (.cond (.t 25)
  (.seq (.reg [⟨(some 26), none, .mov (.t 5)⟩,
    ⟨(some 27), none, .call 63 [(.t 26)]⟩,
    ⟨(some 28), none, .call 62 [(.t 27), (.c (.raw (.int .i64 10)))]⟩,
    ⟨(some 2), none, .mov (.t 28)⟩])
  .ret)
  .skip)))
 (.seq (.seq (.reg [⟨(some 30), none, .mov (.t 0)⟩,
   ⟨(some 31), none, .call 64 [(.t 30)]⟩,
   ⟨(some 29), none, .mov (.t 31)⟩,
   ⟨(some 32), none, .extr (.t 29) 0⟩,
   ⟨(some 33), none, .extr (.t 29) 1⟩,
   ⟨(some 7), none, .mov (.t 32)⟩,
   ⟨(some 8), none, .mov (.t 33)⟩])
 (.seq (.reg [⟨(some 34), none, .mov (.t 8)⟩])
 (.cond (.t 34)
  (.seq (.reg [⟨(some 36), none, .mov (.t 7)⟩,
    ⟨(some 37), none, .call 65 [(.t 36)]⟩,
    ⟨(some 35), none, .mov (.t 37)⟩,
    ⟨(some 38), none, .extr (.t 35) 0⟩,
    ⟨(some 39), none, .extr (.t 35) 1⟩,
    ⟨(some 9), none, .mov (.t 38)⟩,
    ⟨(some 10), none, .mov (.t 39)⟩])
  (.seq (.reg [⟨(some 40), none, .mov (.t 9)⟩,
    ⟨(some 2), none, .mov (.t 40)⟩])
  .ret))
  .skip)))
 (.seq (.reg [⟨(some 2), none, .mov (.c (.raw (.string (ByteArray.mk #[]))))⟩])
 .ret)))))
theorem i_value_Show : Is Tryz.prog 26 41 [.t 2] c_value_Show := ⟨Tryz.f26, _, p_value_Show, rfl, rfl, by kernel_rfl, by kernel_rfl, rfl⟩
def p_rostrumlaw14_texts : List (Nat × Pl) := [(6, (.fl 0 (.fl 1 (.fr 2 (.fr 3 (.fl 4 (.fl 5 (.fr 6 (.fr 7 (.fl 8 .done))))))))))]
def c_rostrumlaw14_texts : VCode :=
 (.seq (.reg [⟨(some 4), none, .mov (.c (.kb false))⟩])
 (.seq (.seq (.reg [⟨(some 6), none, .mov (.t 0)⟩,
   ⟨(some 7), none, .len .sl (.t 6)⟩,
   ⟨(some 8), none, .mov (.t 1)⟩,
   ⟨(some 9), none, .len .sl (.t 8)⟩,
   ⟨(some 10), none, .bin .neq .no (.t 7) (.t 9)⟩])
 (.cond (.t 10)
  (.seq (.reg [⟨(some 4), none, .mov (.c (.kb false))⟩])
  .ret)
  .skip))
 (.seq (.seq (.reg [⟨(some 5), none, .mov (.c (.raw (.int .i64 0)))⟩])
 (.block 0 (.loop (.seq (.seq (.reg [⟨(some 11), none, .mov (.t 5)⟩,
    ⟨(some 12), none, .mov (.t 0)⟩,
    ⟨(some 13), none, .len .sl (.t 12)⟩,
    ⟨(some 14), none, .bin .lss .no (.t 11) (.t 13)⟩])
  (.cond (.t 14)
   .skip
   (.exit 0)))
  (.seq (.block 1 (.seq (.draw [⟨(some 17), none, .mov (.t 0)⟩,
    ⟨(some 18), none, .mov (.t 5)⟩,
    ⟨(some 19), none, .iaddr 1 none (.t 17) (.t 18)⟩,
    ⟨(some 20), none, .load none (.t 19)⟩,
    ⟨(some 21), none, .mov (.t 1)⟩,
    ⟨(some 22), none, .mov (.t 5)⟩,
    ⟨(some 23), none, .iaddr 1 none (.t 21) (.t 22)⟩,
    ⟨(some 24), none, .load none (.t 23)⟩,
    ⟨(some 25), none, .bin .neq .no (.t 20) (.t 24)⟩]
    (.fl 0 (.fl 1 (.fr 2 (.fr 3 (.fl 4 (.fl 5 (.fr 6 (.fr 7 (.fl 8 .done))))))))))
  (.cond (.t 25)
   (.seq (.reg [⟨(some 4), none, .mov (.c (.kb false))⟩])
   .ret)
   .skip)))
  (.reg [⟨(some 15), none, .mov (.t 5)⟩,
    ⟨(some 16), none, .bin .add .no (.t 15) (.c (.raw (.int .i64 1)))⟩,
    ⟨(some 5), none, .mov (.t 16)⟩]))))))
 (.seq (.reg [⟨(some 4), none, .mov (.c (.kb true))⟩])
 .ret))))
theorem i_rostrumlaw14_texts : Is Tryz.prog 27 26 [.t 4] c_rostrumlaw14_texts := ⟨Tryz.f27, _, p_rostrumlaw14_texts, rfl, rfl, by kernel_rfl, by kernel_rfl, rfl⟩
def p_state_State_Keys : List (Nat × Pl) := []
def c_state_State_Keys : VCode :=
 (.seq (.reg [⟨(some 4), none, .mov (.c (.raw (.slice none 0 0)))⟩])
 (.seq (.reg [⟨(some 5), none, .mov (.c (.raw (.slice none 0 0)))⟩])
 (.seq (.seq (.reg [⟨(some 7), none, .mov (.t 0)⟩,
   ⟨(some 8), none, .nilck (.t 7)⟩,
   ⟨(some 9), none, .faddr 7 (.t 8)⟩,
   ⟨(some 10), none, .load none (.t 9)⟩,
   ⟨(some 11), none, .range false (.t 10)⟩])
 (.block 0 (.loop (.seq (.reg [⟨(some 12), none, .next false (.t 11)⟩,
    ⟨(some 13), none, .extr (.t 12) 0⟩])
  (.seq (.cond (.t 13)
   .skip
   (.exit 0))
  (.block 1 (.seq (.reg [⟨(some 14), none, .entry (.t 11)⟩,
    ⟨(some 15), none, .extr (.t 14) 0⟩,
    ⟨(some 6), none, .new 77 [(.int .i64 0), (.string (ByteArray.mk #[]))]⟩,
    ⟨none, none, .store (some 2) (.t 6) (.t 15)⟩])
  (.seq (.reg [⟨(some 16), none, .faddr 0 (.t 6)⟩,
    ⟨(some 17), none, .load none (.t 16)⟩,
    ⟨(some 18), none, .mov (.t 1)⟩,
    ⟨(some 19), none, .bin .eql .no (.t 17) (.t 18)⟩])
  (.cond (.t 19)
   (.reg [⟨(some 20), none, .mov (.t 5)⟩,
     ⟨(some 21), none, .faddr 1 (.t 6)⟩,
     ⟨(some 22), none, .load none (.t 21)⟩,
     ⟨(some 23), none, .bslice 9 1 [(.string (ByteArray.mk #[]))] [(0, 1, (.t 22))]⟩,
     ⟨(some 24), none, .append 9 1 16 [(.string (ByteArray.mk #[]))] (.t 20) (.t 23)⟩,
     ⟨(some 5), none, .mov (.t 24)⟩])
   .skip)))))))))
 (.seq (.reg [⟨(some 25), none, .mov (.t 5)⟩,
   ⟨(some 26), none, .call 66 [(.t 25), (.c (.fn 67 []))]⟩])
 (.seq (.reg [⟨(some 27), none, .mov (.t 5)⟩,
   ⟨(some 4), none, .mov (.t 27)⟩])
 .ret)))))
theorem i_state_State_Keys : Is Tryz.prog 28 28 [.t 4] c_state_State_Keys := ⟨Tryz.f28, _, p_state_State_Keys, rfl, rfl, by kernel_rfl, by kernel_rfl, rfl⟩
def p_value_AsSet : List (Nat × Pl) := [(2, (.fl 0 (.fr 1 (.fl 2 (.fl 3 (.fl 4 (.fr 5 (.fl 6 (.fl 7 (.fl 8 (.fl 9 .done)))))))))))]
def c_value_AsSet : VCode :=
 (.seq (.reg [⟨(some 2), none, .mov (.c (.raw (.pointer none)))⟩,
   ⟨(some 3), none, .mov (.c (.kb false))⟩])
 (.seq (.reg [⟨(some 7), none, .mov (.t 0)⟩,
   ⟨(some 8), none, .tassert 130 true (.agg #[(.pointer none)]) (.t 7)⟩,
   ⟨(some 6), none, .mov (.t 8)⟩,
   ⟨(some 9), none, .extr (.t 6) 0⟩,
   ⟨(some 10), none, .extr (.t 6) 1⟩,
   ⟨(some 4), none, .new 130 [(.pointer none)]⟩,
   ⟨none, none, .store (some 1) (.t 4) (.t 9)⟩,
   ⟨(some 5), none, .mov (.t 10)⟩])
 (.seq (.draw [⟨(some 11), none, .faddr 0 (.t 4)⟩,
   ⟨(some 12), none, .load none (.t 11)⟩,
   ⟨(some 13), none, .mov (.t 5)⟩,
   ⟨(some 14), none, .mov (.t 13)⟩,
   ⟨(some 15), (some (14, true)), .faddr 0 (.t 4)⟩,
   ⟨(some 16), (some (14, true)), .load none (.t 15)⟩,
   ⟨(some 17), (some (14, true)), .bin .neq .p (.t 16) (.c (.raw (.pointer none)))⟩,
   ⟨(some 18), none, .pick (.t 14) (.t 17) (.c (.kb false))⟩,
   ⟨(some 2), none, .mov (.t 12)⟩,
   ⟨(some 3), none, .mov (.t 18)⟩]
   (.fl 0 (.fr 1 (.fl 2 (.fl 3 (.fl 4 (.fr 5 (.fl 6 (.fl 7 (.fl 8 (.fl 9 .done)))))))))))
 .ret)))
theorem i_value_AsSet : Is Tryz.prog 31 19 [.t 2, .t 3] c_value_AsSet := ⟨Tryz.f31, _, p_value_AsSet, rfl, rfl, by kernel_rfl, by kernel_rfl, rfl⟩
def p_orset_Set_Add : List (Nat × Pl) := [(3, (.fl 0 (.fr 1 (.fl 2 (.fr 3 (.fr 4 (.fr 5 (.fl 6 (.fl 7 (.fl 8 (.fl 9 (.fl 10 .done)))))))))))), (6, (.fl 0 (.fr 1 (.fl 2 (.fr 3 (.fr 4 (.fl 5 (.st 6 [] .done))))))))]
def c_orset_Set_Add : VCode :=
 (.seq (.reg [⟨(some 4), none, .box 28 (.t 1)⟩,
   ⟨(some 6), none, .mov (.c (.raw (.int .i64 0)))⟩])
 (.seq (.seq (.reg [⟨(some 9), none, .load (some 2) (.t 4)⟩,
   ⟨(some 10), none, .call 41 [(.t 9)]⟩,
   ⟨(some 11), none, .un .not (.t 10)⟩,
   ⟨(some 12), none, .mov (.t 11)⟩,
   ⟨(some 13), (some (12, false)), .mov (.t 2)⟩,
   ⟨(some 14), (some (12, false)), .len .str (.t 13)⟩,
   ⟨(some 15), (some (12, false)), .bin .gtr .no (.t 14) (.c (.raw (.int .i64 100)))⟩,
   ⟨(some 16), none, .pick (.t 12) (.c (.kb true)) (.t 15)⟩])
 (.cond (.t 16)
  (.seq (.reg [⟨(some 6), none, .mov (.c (.raw (.int .i64 1)))⟩])
  .ret)
  .skip))
 (.seq (.seq (.draw [⟨(some 18), none, .mov (.t 0)⟩,
   ⟨(some 19), none, .nilck (.t 18)⟩,
   ⟨(some 20), none, .faddr 0 (.t 19)⟩,
   ⟨(some 21), none, .load none (.t 20)⟩,
   ⟨(some 22), none, .load (some 2) (.t 4)⟩,
   ⟨(some 23), none, .lookup 132 true (.t 21) (.t 22)⟩,
   ⟨(some 17), none, .mov (.t 23)⟩,
   ⟨(some 24), none, .extr (.t 17) 0⟩,
   ⟨(some 25), none, .extr (.t 17) 1⟩,
   ⟨(some 7), none, .mov (.t 24)⟩,
   ⟨(some 8), none, .mov (.t 25)⟩]
   (.fl 0 (.fr 1 (.fl 2 (.fr 3 (.fr 4 (.fr 5 (.fl 6 (.fl 7 (.fl 8 (.fl 9 (.fl 10 .done))))))))))))
 (.seq (.reg [⟨(some 26), none, .mov (.t 8)⟩,
   ⟨(some 27), none, .mov (.t 26)⟩,
   ⟨(some 28), (some (27, true)), .mov (.t 7)⟩,
   ⟨(some 29), (some (27, true)), .mov (.t 2)⟩,
   ⟨(some 30), (some (27, true)), .bin .neq .no (.t 28) (.t 29)⟩,
   ⟨(some 31), none, .pick (.t 27) (.t 30) (.c (.kb false))⟩])
 (.cond (.t 31)
  (.seq (.reg [⟨(some 6), none, .mov (.c (.raw (.int .i64 5)))⟩])
  .ret)
  .skip)))
 (.seq (.draw [⟨(some 32), none, .mov (.t 0)⟩,
   ⟨(some 33), none, .nilck (.t 32)⟩,
   ⟨(some 34), none, .faddr 0 (.t 33)⟩,
   ⟨(some 35), none, .load none (.t 34)⟩,
   ⟨(some 36), none, .load (some 2) (.t 4)⟩,
   ⟨(some 37), none, .mov (.t 2)⟩,
   ⟨none, none, .mapup 132 (.t 35) (.t 36) (.t 37)⟩]
   (.fl 0 (.fr 1 (.fl 2 (.fr 3 (.fr 4 (.fl 5 (.st 6 [] .done))))))))
 (.seq (.reg [⟨(some 6), none, .mov (.c (.raw (.int .i64 0)))⟩])
 .ret)))))
theorem i_orset_Set_Add : Is Tryz.prog 32 38 [.t 6] c_orset_Set_Add := ⟨Tryz.f32, _, p_orset_Set_Add, rfl, rfl, by kernel_rfl, by kernel_rfl, rfl⟩
def p_state_kindOf : List (Nat × Pl) := []
def c_state_kindOf : VCode :=
 (.seq (.reg [⟨(some 1), none, .box 32 (.t 0)⟩,
   ⟨(some 2), none, .mov (.c (.raw (.int .i64 0)))⟩])
 (.seq (.seq (.reg [⟨(some 3), none, .faddr 9 (.t 1)⟩,
   ⟨(some 4), none, .load none (.t 3)⟩])
 (.block 0 (.seq (.reg [⟨(some 6), none, .bin .eql .no (.t 4) (.c (.raw (.int .i64 3)))⟩,
   ⟨(some 5), none, .mov (.t 6)⟩])
 (.cond (.t 5)
  (.seq (.reg [⟨(some 2), none, .mov (.c (.raw (.int .i64 2)))⟩])
  .ret)
  (.seq (.reg [⟨(some 8), none, .bin .eql .no (.t 4) (.c (.raw (.int .i64 4)))⟩,
    ⟨(some 7), none, .mov (.t 8)⟩])
  (.cond (.t 7)
   (.seq (.reg [⟨(some 2), none, .mov (.c (.raw (.int .i64 3)))⟩])
   .ret)
   .skip))))))
 (.seq (.reg [⟨(some 2), none, .mov (.c (.raw (.int .i64 1)))⟩])
 .ret)))
theorem i_state_kindOf : Is Tryz.prog 33 9 [.t 2] c_state_kindOf := ⟨Tryz.f33, _, p_state_kindOf, rfl, rfl, by kernel_rfl, by kernel_rfl, rfl⟩
def p_value_New : List (Nat × Pl) := []
def c_value_New : VCode :=
 (.seq (.reg [⟨(some 2), none, .mov (.c (.raw .nilIface))⟩,
   ⟨(some 3), none, .mov (.c (.raw (.int .i64 0)))⟩])
 (.seq (.seq (.reg [⟨(some 4), none, .mov (.t 0)⟩])
 (.block 0 (.seq (.reg [⟨(some 6), none, .bin .eql .no (.t 4) (.c (.raw (.int .i64 1)))⟩,
   ⟨(some 5), none, .mov (.t 6)⟩])
 (.cond (.t 5)
  (.seq (.reg [⟨(some 7), none, .call 77 []⟩,
    ⟨(some 8), none, .build [(.pointer none)] [(0, 1, (.t 7))]⟩,
    ⟨(some 9), none, .mkif 130 (.t 8)⟩,
    ⟨(some 2), none, .mov (.t 9)⟩,
    ⟨(some 3), none, .mov (.c (.raw (.int .i64 0)))⟩])
  .ret)
  (.seq (.reg [⟨(some 11), none, .bin .eql .no (.t 4) (.c (.raw (.int .i64 2)))⟩,
    ⟨(some 10), none, .mov (.t 11)⟩])
  (.cond (.t 10)
   (.seq (.reg [⟨(some 12), none, .call 78 []⟩,
     ⟨(some 13), none, .build [(.pointer none)] [(0, 1, (.t 12))]⟩,
     ⟨(some 14), none, .mkif 139 (.t 13)⟩,
     ⟨(some 2), none, .mov (.t 14)⟩,
     ⟨(some 3), none, .mov (.c (.raw (.int .i64 0)))⟩])
   .ret)
   (.seq (.reg [⟨(some 16), none, .bin .eql .no (.t 4) (.c (.raw (.int .i64 3)))⟩,
     ⟨(some 15), none, .mov (.t 16)⟩])
   (.cond (.t 15)
    (.seq (.reg [⟨(some 17), none, .call 79 []⟩,
      ⟨(some 18), none, .build [(.pointer none)] [(0, 1, (.t 17))]⟩,
      ⟨(some 19), none, .mkif 142 (.t 18)⟩,
      ⟨(some 2), none, .mov (.t 19)⟩,
      ⟨(some 3), none, .mov (.c (.raw (.int .i64 0)))⟩])
    .ret)
    .skip))))))))
 (.seq (.reg [⟨(some 2), none, .mov (.c (.raw .nilIface))⟩,
   ⟨(some 3), none, .mov (.c (.raw (.int .i64 1)))⟩])
 .ret)))
theorem i_value_New : Is Tryz.prog 34 20 [.t 2, .t 3] c_value_New := ⟨Tryz.f34, _, p_value_New, rfl, rfl, by kernel_rfl, by kernel_rfl, rfl⟩
def p_state_put : List (Nat × Pl) := []
def c_state_put : VCode :=
 (.seq (.reg [⟨(some 3), none, .box 32 (.t 1)⟩,
   ⟨(some 4), none, .mov (.c (.raw (.int .i64 0)))⟩])
 (.seq (.seq (.reg [⟨(some 14), none, .mov (.t 0)⟩,
   ⟨(some 15), none, .call 31 [(.t 14)]⟩,
   ⟨(some 13), none, .mov (.t 15)⟩,
   ⟨(some 16), none, .extr (.t 13) 0⟩,
   ⟨(some 17), none, .extr (.t 13) 1⟩,
   ⟨(some 5), none, .mov (.t 16)⟩,
   ⟨(some 6), none, .mov (.t 17)⟩])
 (.seq (.reg [⟨(some 18), none, .mov (.t 6)⟩])
 (.cond (.t 18)
  (.seq (.seq (.reg [⟨(some 19), none, .faddr 9 (.t 3)⟩,
    ⟨(some 20), none, .load none (.t 19)⟩,
    ⟨(some 21), none, .bin .eql .no (.t 20) (.c (.raw (.int .i64 1)))⟩])
  (.cond (.t 21)
   (.seq (.reg [⟨(some 22), none, .mov (.t 5)⟩,
     ⟨(some 23), none, .faddr 0 (.t 3)⟩,
     ⟨(some 24), none, .load (some 2) (.t 23)⟩,
     ⟨(some 25), none, .faddr 11 (.t 3)⟩,
     ⟨(some 26), none, .load none (.t 25)⟩,
     ⟨(some 27), none, .call 32 [(.t 22), (.t 24), (.t 26)]⟩,
     ⟨(some 4), none, .mov (.t 27)⟩])
   .ret)
   .skip))
  (.seq (.reg [⟨(some 28), none, .mov (.t 5)⟩,
    ⟨(some 29), none, .faddr 11 (.t 3)⟩,
    ⟨(some 30), none, .load none (.t 29)⟩,
    ⟨(some 31), none, .faddr 2 (.t 3)⟩,
    ⟨(some 32), none, .load (some 7) (.t 31)⟩,
    ⟨(some 33), none, .call 80 [(.t 28), (.t 30), (.t 32)]⟩,
    ⟨(some 4), none, .mov (.t 33)⟩])
  .ret))
  .skip)))
 (.seq (.seq (.reg [⟨(some 35), none, .mov (.t 0)⟩,
   ⟨(some 36), none, .call 61 [(.t 35)]⟩,
   ⟨(some 34), none, .mov (.t 36)⟩,
   ⟨(some 37), none, .extr (.t 34) 0⟩,
   ⟨(some 38), none, .extr (.t 34) 1⟩,
   ⟨(some 7), none, .mov (.t 37)⟩,
   ⟨(some 8), none, .mov (.t 38)⟩])
 (.seq (.reg [⟨(some 39), none, .mov (.t 8)⟩])
 (.cond (.t 39)
  (.seq (.reg [⟨(some 40), none, .mov (.t 7)⟩,
    ⟨(some 41), none, .faddr 0 (.t 3)⟩,
    ⟨(some 42), none, .faddr 0 (.t 41)⟩,
    ⟨(some 43), none, .load none (.t 42)⟩,
    ⟨(some 44), none, .faddr 12 (.t 3)⟩,
    ⟨(some 45), none, .load none (.t 44)⟩,
    ⟨(some 46), none, .call 81 [(.t 40), (.t 43), (.t 45)]⟩,
    ⟨(some 4), none, .mov (.t 46)⟩])
  .ret)
  .skip)))
 (.seq (.seq (.reg [⟨(some 48), none, .mov (.t 0)⟩,
   ⟨(some 49), none, .call 64 [(.t 48)]⟩,
   ⟨(some 47), none, .mov (.t 49)⟩,
   ⟨(some 50), none, .extr (.t 47) 0⟩,
   ⟨(some 51), none, .extr (.t 47) 1⟩,
   ⟨(some 9), none, .mov (.t 50)⟩,
   ⟨(some 10), none, .mov (.t 51)⟩])
 (.seq (.reg [⟨(some 52), none, .mov (.t 10)⟩])
 (.cond (.t 52)
  (.seq (.reg [⟨(some 54), none, .mov (.t 9)⟩,
    ⟨(some 55), none, .faddr 11 (.t 3)⟩,
    ⟨(some 56), none, .load none (.t 55)⟩,
    ⟨(some 57), none, .faddr 13 (.t 3)⟩,
    ⟨(some 58), none, .load none (.t 57)⟩,
    ⟨(some 59), none, .faddr 0 (.t 3)⟩,
    ⟨(some 60), none, .load (some 2) (.t 59)⟩,
    ⟨(some 61), none, .call 82 [(.t 54), (.t 56), (.t 58), (.t 60)]⟩,
    ⟨(some 53), none, .mov (.t 61)⟩,
    ⟨(some 62), none, .extr (.t 53) 0⟩,
    ⟨(some 63), none, .extr (.t 53) 1⟩,
    ⟨(some 11), none, .mov (.t 62)⟩,
    ⟨(some 12), none, .mov (.t 63)⟩])
  (.seq (.reg [⟨(some 64), none, .mov (.t 12)⟩,
    ⟨(some 4), none, .mov (.t 64)⟩])
  .ret))
  .skip)))
 (.seq (.reg [⟨(some 4), none, .mov (.c (.raw (.int .i64 10)))⟩])
 .ret)))))
theorem i_state_put : Is Tryz.prog 35 65 [.t 4] c_state_put := ⟨Tryz.f35, _, p_state_put, rfl, rfl, by kernel_rfl, by kernel_rfl, rfl⟩
def p_vec_Put : List (Nat × Pl) := []
def c_vec_Put : VCode :=
 (.seq (.reg [⟨(some 3), none, .box 30 (.t 1)⟩,
   ⟨(some 4), none, .mov (.c (.raw (.slice none 0 0)))⟩])
 (.seq (.seq (.reg [⟨(some 7), none, .load (some 7) (.t 3)⟩,
   ⟨(some 8), none, .mov (.c (.raw (.int .i64 0)))⟩])
 (.block 0 (.loop (.seq (.reg [⟨(some 9), none, .bin .lss .no (.t 8) (.c (.raw (.int .i64 7)))⟩])
  (.seq (.cond (.t 9)
   .skip
   (.exit 0))
  (.seq (.block 1 (.seq (.reg [⟨(some 10), none, .aindex 7 1 false (.t 7) (.t 8)⟩,
    ⟨(some 6), none, .mov (.t 10)⟩])
  (.reg [⟨(some 11), none, .mov (.t 0)⟩,
    ⟨(some 12), none, .mov (.t 6)⟩,
    ⟨(some 13), none, .call 38 [(.t 11), (.t 12)]⟩,
    ⟨(some 0), none, .mov (.t 13)⟩])))
  (.reg [⟨(some 14), none, .bin .add .no (.t 8) (.c (.raw (.int .i64 1)))⟩,
    ⟨(some 8), none, .mov (.t 14)⟩])))))))
 (.seq (.reg [⟨(some 15), none, .mov (.t 0)⟩,
   ⟨(some 4), none, .mov (.t 15)⟩])
 .ret)))
theorem i_vec_Put : Is Tryz.prog 36 16 [.t 4] c_vec_Put := ⟨Tryz.f36, _, p_vec_Put, rfl, rfl, by kernel_rfl, by kernel_rfl, rfl⟩
def p_pack_Text : List (Nat × Pl) := []
def c_pack_Text : VCode :=
 (.seq (.reg [⟨(some 4), none, .mov (.c (.raw (.slice none 0 0)))⟩])
 (.seq (.reg [⟨(some 5), none, .mov (.t 0)⟩,
   ⟨(some 6), none, .mov (.t 1)⟩,
   ⟨(some 7), none, .conv (.s2b 5) (.t 6)⟩,
   ⟨(some 8), none, .call 83 [(.t 5), (.t 7)]⟩,
   ⟨(some 4), none, .mov (.t 8)⟩])
 .ret))
theorem i_pack_Text : Is Tryz.prog 37 9 [.t 4] c_pack_Text := ⟨Tryz.f37, _, p_pack_Text, rfl, rfl, by kernel_rfl, by kernel_rfl, rfl⟩
def p_pack_Num : List (Nat × Pl) := []
def c_pack_Num : VCode :=
 (.seq (.reg [⟨(some 4), none, .mov (.c (.raw (.slice none 0 0)))⟩])
 (.seq (.reg [⟨(some 7), none, .mov (.t 0)⟩,
   ⟨(some 8), none, .call 84 [(.t 7)]⟩,
   ⟨(some 5), none, .mov (.t 8)⟩])
 (.seq (.reg [⟨(some 9), none, .mov (.t 1)⟩,
   ⟨(some 10), none, .conv (.int .u64) (.t 9)⟩,
   ⟨(some 11), none, .bin .shl .no (.t 10) (.c (.raw (.int .u64 1)))⟩,
   ⟨(some 12), none, .mov (.t 1)⟩,
   ⟨(some 13), none, .bin .shr .no (.t 12) (.c (.raw (.int .u64 63)))⟩,
   ⟨(some 14), none, .conv (.int .u64) (.t 13)⟩,
   ⟨(some 15), none, .bin .xor .no (.t 11) (.t 14)⟩,
   ⟨(some 6), none, .mov (.t 15)⟩])
 (.seq (.block 0 (.loop (.seq (.seq (.reg [⟨(some 16), none, .mov (.t 6)⟩,
    ⟨(some 17), none, .bin .geq .no (.t 16) (.c (.raw (.int .u64 128)))⟩])
  (.cond (.t 17)
   .skip
   (.exit 0)))
  (.seq (.block 1 (.reg [⟨(some 20), none, .mov (.t 5)⟩,
    ⟨(some 21), none, .mov (.t 6)⟩,
    ⟨(some 22), none, .conv (.int .u8) (.t 21)⟩,
    ⟨(some 23), none, .bin .or .no (.t 22) (.c (.raw (.int .u8 128)))⟩,
    ⟨(some 24), none, .bslice 5 1 [(.int .u8 0)] [(0, 1, (.t 23))]⟩,
    ⟨(some 25), none, .append 5 1 1 [(.int .u8 0)] (.t 20) (.t 24)⟩,
    ⟨(some 5), none, .mov (.t 25)⟩]))
  (.reg [⟨(some 18), none, .mov (.t 6)⟩,
    ⟨(some 19), none, .bin .shr .no (.t 18) (.c (.raw (.int .u64 7)))⟩,
    ⟨(some 6), none, .mov (.t 19)⟩])))))
 (.seq (.reg [⟨(some 26), none, .mov (.t 5)⟩,
   ⟨(some 27), none, .mov (.t 6)⟩,
   ⟨(some 28), none, .conv (.int .u8) (.t 27)⟩,
   ⟨(some 29), none, .bslice 5 1 [(.int .u8 0)] [(0, 1, (.t 28))]⟩,
   ⟨(some 30), none, .append 5 1 1 [(.int .u8 0)] (.t 26) (.t 29)⟩,
   ⟨(some 4), none, .mov (.t 30)⟩])
 .ret)))))
theorem i_pack_Num : Is Tryz.prog 38 31 [.t 4] c_pack_Num := ⟨Tryz.f38, _, p_pack_Num, rfl, rfl, by kernel_rfl, by kernel_rfl, rfl⟩
def p_state_own : List (Nat × Pl) := []
def c_state_own : VCode :=
 (.seq (.reg [⟨(some 2), none, .mov (.c (.raw (.slice none 0 0)))⟩])
 (.seq (.seq (.reg [⟨(some 10), none, .mov (.t 0)⟩,
   ⟨(some 11), none, .call 31 [(.t 10)]⟩,
   ⟨(some 9), none, .mov (.t 11)⟩,
   ⟨(some 12), none, .extr (.t 9) 0⟩,
   ⟨(some 13), none, .extr (.t 9) 1⟩,
   ⟨(some 3), none, .mov (.t 12)⟩,
   ⟨(some 4), none, .mov (.t 13)⟩])
 (.seq (.reg [⟨(some 14), none, .mov (.t 4)⟩])
 (.cond (.t 14)
  (.seq (.reg [⟨(some 15), none, .mov (.t 3)⟩,
    ⟨(some 16), none, .call 85 [(.t 15), (.c (.raw (.slice none 0 0)))]⟩,
    ⟨(some 2), none, .mov (.t 16)⟩])
  .ret)
  .skip)))
 (.seq (.seq (.reg [⟨(some 18), none, .mov (.t 0)⟩,
   ⟨(some 19), none, .call 61 [(.t 18)]⟩,
   ⟨(some 17), none, .mov (.t 19)⟩,
   ⟨(some 20), none, .extr (.t 17) 0⟩,
   ⟨(some 21), none, .extr (.t 17) 1⟩,
   ⟨(some 5), none, .mov (.t 20)⟩,
   ⟨(some 6), none, .mov (.t 21)⟩])
 (.seq (.reg [⟨(some 22), none, .mov (.t 6)⟩])
 (.cond (.t 22)
  (.seq (.reg [⟨(some 23), none, .mov (.t 5)⟩,
    ⟨(some 24), none, .call 86 [(.t 23), (.c (.raw (.slice none 0 0)))]⟩,
    ⟨(some 2), none, .mov (.t 24)⟩])
  .ret)
  .skip)))
 (.seq (.seq (.reg [⟨(some 26), none, .mov (.t 0)⟩,
   ⟨(some 27), none, .call 64 [(.t 26)]⟩,
   ⟨(some 25), none, .mov (.t 27)⟩,
   ⟨(some 28), none, .extr (.t 25) 0⟩,
   ⟨(some 29), none, .extr (.t 25) 1⟩,
   ⟨(some 7), none, .mov (.t 28)⟩,
   ⟨(some 8), none, .mov (.t 29)⟩])
 (.seq (.reg [⟨(some 30), none, .mov (.t 8)⟩])
 (.cond (.t 30)
  (.seq (.reg [⟨(some 31), none, .mov (.t 7)⟩,
    ⟨(some 32), none, .call 87 [(.t 31), (.c (.raw (.slice none 0 0)))]⟩,
    ⟨(some 2), none, .mov (.t 32)⟩])
  .ret)
  .skip)))
 (.seq (.reg [⟨(some 2), none, .mov (.c (.raw (.slice none 0 0)))⟩])
 .ret)))))
theorem i_state_own : Is Tryz.prog 39 33 [.t 2] c_state_own := ⟨Tryz.f39, _, p_state_own, rfl, rfl, by kernel_rfl, by kernel_rfl, rfl⟩
def p_vec_Rep : List (Nat × Pl) := []
def c_vec_Rep : VCode :=
 (.seq (.reg [⟨(some 2), none, .mov (.c (.kb false))⟩])
 (.seq (.reg [⟨(some 3), none, .mov (.t 0)⟩,
   ⟨(some 4), none, .bin .geq .no (.t 3) (.c (.raw (.int .i64 0)))⟩,
   ⟨(some 5), none, .mov (.t 4)⟩,
   ⟨(some 6), (some (5, true)), .mov (.t 0)⟩,
   ⟨(some 7), (some (5, true)), .bin .lss .no (.t 6) (.c (.raw (.int .i64 7)))⟩,
   ⟨(some 8), none, .pick (.t 5) (.t 7) (.c (.kb false))⟩,
   ⟨(some 2), none, .mov (.t 8)⟩])
 .ret))
theorem i_vec_Rep : Is Tryz.prog 40 9 [.t 2] c_vec_Rep := ⟨Tryz.f40, _, p_vec_Rep, rfl, rfl, by kernel_rfl, by kernel_rfl, rfl⟩
def p_vec_Dot : List (Nat × Pl) := []
def c_vec_Dot : VCode :=
 (.seq (.reg [⟨(some 1), none, .box 28 (.t 0)⟩,
   ⟨(some 2), none, .mov (.c (.kb false))⟩])
 (.seq (.reg [⟨(some 3), none, .faddr 0 (.t 1)⟩,
   ⟨(some 4), none, .load none (.t 3)⟩,
   ⟨(some 5), none, .call 40 [(.t 4)]⟩,
   ⟨(some 6), none, .mov (.t 5)⟩,
   ⟨(some 7), (some (6, true)), .faddr 1 (.t 1)⟩,
   ⟨(some 8), (some (6, true)), .load none (.t 7)⟩,
   ⟨(some 9), (some (6, true)), .bin .geq .no (.t 8) (.c (.raw (.int .i64 1)))⟩,
   ⟨(some 10), none, .pick (.t 6) (.t 9) (.c (.kb false))⟩,
   ⟨(some 11), none, .mov (.t 10)⟩,
   ⟨(some 12), (some (11, true)), .faddr 1 (.t 1)⟩,
   ⟨(some 13), (some (11, true)), .load none (.t 12)⟩,
   ⟨(some 14), (some (11, true)), .bin .leq .no (.t 13) (.c (.raw (.int .i64 1099511627776)))⟩,
   ⟨(some 15), none, .pick (.t 11) (.t 14) (.c (.kb false))⟩,
   ⟨(some 2), none, .mov (.t 15)⟩])
 .ret))
theorem i_vec_Dot : Is Tryz.prog 41 16 [.t 2] c_vec_Dot := ⟨Tryz.f41, _, p_vec_Dot, rfl, rfl, by kernel_rfl, by kernel_rfl, rfl⟩
def p_vec_Good : List (Nat × Pl) := []
def c_vec_Good : VCode :=
 (.seq (.reg [⟨(some 1), none, .box 30 (.t 0)⟩,
   ⟨(some 2), none, .mov (.c (.kb false))⟩])
 (.seq (.seq (.reg [⟨(some 5), none, .load (some 7) (.t 1)⟩,
   ⟨(some 6), none, .mov (.c (.raw (.int .i64 0)))⟩])
 (.block 0 (.loop (.seq (.reg [⟨(some 7), none, .bin .lss .no (.t 6) (.c (.raw (.int .i64 7)))⟩])
  (.seq (.cond (.t 7)
   .skip
   (.exit 0))
  (.seq (.block 1 (.seq (.reg [⟨(some 8), none, .aindex 7 1 false (.t 5) (.t 6)⟩,
    ⟨(some 4), none, .mov (.t 8)⟩])
  (.seq (.reg [⟨(some 9), none, .mov (.t 4)⟩,
    ⟨(some 10), none, .bin .lss .no (.t 9) (.c (.raw (.int .i64 0)))⟩,
    ⟨(some 11), none, .mov (.t 10)⟩,
    ⟨(some 12), (some (11, false)), .mov (.t 4)⟩,
    ⟨(some 13), (some (11, false)), .bin .gtr .no (.t 12) (.c (.raw (.int .i64 1099511627776)))⟩,
    ⟨(some 14), none, .pick (.t 11) (.c (.kb true)) (.t 13)⟩])
  (.cond (.t 14)
   (.seq (.reg [⟨(some 2), none, .mov (.c (.kb false))⟩])
   .ret)
   .skip))))
  (.reg [⟨(some 15), none, .bin .add .no (.t 6) (.c (.raw (.int .i64 1)))⟩,
    ⟨(some 6), none, .mov (.t 15)⟩])))))))
 (.seq (.reg [⟨(some 2), none, .mov (.c (.kb true))⟩])
 .ret)))
theorem i_vec_Good : Is Tryz.prog 42 16 [.t 2] c_vec_Good := ⟨Tryz.f42, _, p_vec_Good, rfl, rfl, by kernel_rfl, by kernel_rfl, rfl⟩
def p_name_Good : List (Nat × Pl) := []
def c_name_Good : VCode :=
 (.seq (.reg [⟨(some 2), none, .mov (.c (.kb false))⟩])
 (.seq (.reg [⟨(some 3), none, .mov (.c (.raw (.int .i64 0)))⟩])
 (.seq (.seq (.reg [⟨(some 6), none, .mov (.t 0)⟩,
   ⟨(some 7), none, .range true (.t 6)⟩])
 (.block 0 (.loop (.seq (.reg [⟨(some 8), none, .next true (.t 7)⟩,
    ⟨(some 9), none, .extr (.t 8) 0⟩])
  (.seq (.cond (.t 9)
   .skip
   (.exit 0))
  (.block 1 (.seq (.reg [⟨(some 10), none, .extr (.t 8) 1⟩,
    ⟨(some 11), none, .extr (.t 8) 2⟩,
    ⟨(some 4), none, .mov (.t 10)⟩,
    ⟨(some 5), none, .mov (.t 11)⟩])
  (.seq (.seq (.reg [⟨(some 12), none, .mov (.t 5)⟩,
    ⟨(some 13), none, .mov (.t 4)⟩,
    ⟨(some 14), none, .bin .eql .no (.t 13) (.c (.raw (.int .i64 0)))⟩,
    ⟨(some 15), none, .call 88 [(.t 12), (.t 14)]⟩,
    ⟨(some 16), none, .un .not (.t 15)⟩])
  (.cond (.t 16)
   (.seq (.reg [⟨(some 2), none, .mov (.c (.kb false))⟩])
   .ret)
   .skip))
  (.reg [⟨(some 17), none, .mov (.t 3)⟩,
    ⟨(some 18), none, .bin .add .no (.t 17) (.c (.raw (.int .i64 1)))⟩,
    ⟨(some 3), none, .mov (.t 18)⟩])))))))))
 (.seq (.reg [⟨(some 19), none, .mov (.t 3)⟩,
   ⟨(some 20), none, .bin .geq .no (.t 19) (.c (.raw (.int .i64 1)))⟩,
   ⟨(some 21), none, .mov (.t 20)⟩,
   ⟨(some 22), (some (21, true)), .mov (.t 3)⟩,
   ⟨(some 23), (some (21, true)), .bin .leq .no (.t 22) (.c (.raw (.int .i64 20)))⟩,
   ⟨(some 24), none, .pick (.t 21) (.t 23) (.c (.kb false))⟩,
   ⟨(some 2), none, .mov (.t 24)⟩])
 .ret))))
theorem i_name_Good : Is Tryz.prog 43 25 [.t 2] c_name_Good := ⟨Tryz.f43, _, p_name_Good, rfl, rfl, by kernel_rfl, by kernel_rfl, rfl⟩
def p_bytes_Equal : List (Nat × Pl) := []
def c_bytes_Equal : VCode :=
 (.seq (.reg [⟨(some 4), none, .mov (.c (.kb false))⟩])
 (.seq (.reg [⟨(some 5), none, .mov (.t 0)⟩,
   ⟨(some 6), none, .conv .b2s (.t 5)⟩,
   ⟨(some 7), none, .mov (.t 1)⟩,
   ⟨(some 8), none, .conv .b2s (.t 7)⟩,
   ⟨(some 9), none, .bin .eql .no (.t 6) (.t 8)⟩,
   ⟨(some 4), none, .mov (.t 9)⟩])
 .ret))
theorem i_bytes_Equal : Is Tryz.prog 44 10 [.t 4] c_bytes_Equal := ⟨Tryz.f44, _, p_bytes_Equal, rfl, rfl, by kernel_rfl, by kernel_rfl, rfl⟩
def p_orset_Set_Drop : List (Nat × Pl) := []
def c_orset_Set_Drop : VCode :=
 (.seq (.reg [⟨(some 2), none, .box 68 (.t 0)⟩,
   ⟨(some 3), none, .box 30 (.t 1)⟩])
 (.seq (.reg [⟨(some 4), none, .load none (.t 2)⟩,
   ⟨(some 5), none, .nilck (.t 4)⟩,
   ⟨(some 6), none, .faddr 0 (.t 5)⟩,
   ⟨(some 7), none, .load none (.t 6)⟩,
   ⟨(some 8), none, .mkfn 90 [(.t 2), (.t 3)]⟩,
   ⟨(some 9), none, .call 89 [(.t 7), (.t 8)]⟩])
 (.reg [⟨(some 10), none, .load none (.t 2)⟩,
   ⟨(some 11), none, .nilck (.t 10)⟩,
   ⟨(some 12), none, .faddr 1 (.t 11)⟩,
   ⟨(some 13), none, .load none (.t 12)⟩,
   ⟨(some 14), none, .mkfn 93 [(.t 3)]⟩,
   ⟨(some 15), none, .call 92 [(.t 13), (.t 14)]⟩])))
theorem i_orset_Set_Drop : Is Tryz.prog 45 16 [] c_orset_Set_Drop := ⟨Tryz.f45, _, p_orset_Set_Drop, rfl, rfl, by kernel_rfl, by kernel_rfl, rfl⟩
def p_orset_Set_All : List (Nat × Pl) := []
def c_orset_Set_All : VCode :=
 (.seq (.reg [⟨(some 2), none, .mov (.c (.raw (.slice none 0 0)))⟩])
 (.seq (.reg [⟨(some 3), none, .mov (.c (.raw (.slice none 0 0)))⟩])
 (.seq (.seq (.reg [⟨(some 6), none, .mov (.t 0)⟩,
   ⟨(some 7), none, .nilck (.t 6)⟩,
   ⟨(some 8), none, .faddr 0 (.t 7)⟩,
   ⟨(some 9), none, .load none (.t 8)⟩,
   ⟨(some 10), none, .range false (.t 9)⟩])
 (.block 0 (.loop (.seq (.reg [⟨(some 11), none, .next false (.t 10)⟩,
    ⟨(some 12), none, .extr (.t 11) 0⟩])
  (.seq (.cond (.t 12)
   .skip
   (.exit 0))
  (.block 1 (.seq (.reg [⟨(some 13), none, .entry (.t 10)⟩,
    ⟨(some 14), none, .extr (.t 13) 0⟩,
    ⟨(some 15), none, .extr (.t 13) 1⟩,
    ⟨(some 4), none, .new 28 [(.int .i64 0), (.int .i64 0)]⟩,
    ⟨none, none, .store (some 2) (.t 4) (.t 14)⟩,
    ⟨(some 5), none, .mov (.t 15)⟩])
  (.seq (.reg [⟨(some 16), none, .mov (.t 0)⟩,
    ⟨(some 17), none, .load (some 2) (.t 4)⟩,
    ⟨(some 18), none, .mov (.t 5)⟩,
    ⟨(some 19), none, .call 91 [(.t 16), (.t 17), (.t 18)]⟩])
  (.cond (.t 19)
   (.reg [⟨(some 20), none, .mov (.t 3)⟩,
     ⟨(some 21), none, .mov (.t 5)⟩,
     ⟨(some 22), none, .bslice 9 1 [(.string (ByteArray.mk #[]))] [(0, 1, (.t 21))]⟩,
     ⟨(some 23), none, .append 9 1 16 [(.string (ByteArray.mk #[]))] (.t 20) (.t 22)⟩,
     ⟨(some 3), none, .mov (.t 23)⟩])
   .skip)))))))))
 (.seq (.reg [⟨(some 24), none, .mov (.t 3)⟩,
   ⟨(some 25), none, .call 107 [(.t 24)]⟩])
 (.seq (.reg [⟨(some 26), none, .mov (.t 3)⟩,
   ⟨(some 27), none, .call 108 [(.t 26)]⟩,
   ⟨(some 2), none, .mov (.t 27)⟩])
 .ret)))))
theorem i_orset_Set_All : Is Tryz.prog 60 28 [.t 2] c_orset_Set_All := ⟨Tryz.f60, _, p_orset_Set_All, rfl, rfl, by kernel_rfl, by kernel_rfl, rfl⟩
def p_value_AsNumber : List (Nat × Pl) := [(2, (.fl 0 (.fr 1 (.fl 2 (.fl 3 (.fl 4 (.fr 5 (.fl 6 (.fl 7 (.fl 8 (.fl 9 .done)))))))))))]
def c_value_AsNumber : VCode :=
 (.seq (.reg [⟨(some 2), none, .mov (.c (.raw (.pointer none)))⟩,
   ⟨(some 3), none, .mov (.c (.kb false))⟩])
 (.seq (.reg [⟨(some 7), none, .mov (.t 0)⟩,
   ⟨(some 8), none, .tassert 139 true (.agg #[(.pointer none)]) (.t 7)⟩,
   ⟨(some 6), none, .mov (.t 8)⟩,
   ⟨(some 9), none, .extr (.t 6) 0⟩,
   ⟨(some 10), none, .extr (.t 6) 1⟩,
   ⟨(some 4), none, .new 139 [(.pointer none)]⟩,
   ⟨none, none, .store (some 1) (.t 4) (.t 9)⟩,
   ⟨(some 5), none, .mov (.t 10)⟩])
 (.seq (.draw [⟨(some 11), none, .faddr 0 (.t 4)⟩,
   ⟨(some 12), none, .load none (.t 11)⟩,
   ⟨(some 13), none, .mov (.t 5)⟩,
   ⟨(some 14), none, .mov (.t 13)⟩,
   ⟨(some 15), (some (14, true)), .faddr 0 (.t 4)⟩,
   ⟨(some 16), (some (14, true)), .load none (.t 15)⟩,
   ⟨(some 17), (some (14, true)), .bin .neq .p (.t 16) (.c (.raw (.pointer none)))⟩,
   ⟨(some 18), none, .pick (.t 14) (.t 17) (.c (.kb false))⟩,
   ⟨(some 2), none, .mov (.t 12)⟩,
   ⟨(some 3), none, .mov (.t 18)⟩]
   (.fl 0 (.fr 1 (.fl 2 (.fl 3 (.fl 4 (.fr 5 (.fl 6 (.fl 7 (.fl 8 (.fl 9 .done)))))))))))
 .ret)))
theorem i_value_AsNumber : Is Tryz.prog 61 19 [.t 2, .t 3] c_value_AsNumber := ⟨Tryz.f61, _, p_value_AsNumber, rfl, rfl, by kernel_rfl, by kernel_rfl, rfl⟩
def p_tally_Tally_Value : List (Nat × Pl) := [(5, (.fl 0 (.fl 1 (.fl 2 (.fr 3 (.fl 4 (.fr 5 (.fr 6 (.fl 7 (.fl 8 (.fr 9 (.fl 10 (.fr 11 (.fr 12 (.fl 13 (.fl 14 (.fl 15 .done)))))))))))))))))]
def c_tally_Tally_Value : VCode :=
 (.seq (.reg [⟨(some 2), none, .mov (.c (.raw (.int .i64 0)))⟩])
 (.seq (.reg [⟨(some 3), none, .mov (.c (.raw (.int .i64 0)))⟩])
 (.seq (.seq (.reg [⟨(some 5), none, .mov (.c (.raw (.int .i64 0)))⟩])
 (.block 0 (.loop (.seq (.reg [⟨(some 6), none, .bin .lss .no (.t 5) (.c (.raw (.int .i64 7)))⟩])
  (.seq (.cond (.t 6)
   .skip
   (.exit 0))
  (.seq (.block 1 (.seq (.reg [⟨(some 7), none, .mov (.t 5)⟩,
    ⟨(some 4), none, .mov (.t 7)⟩])
  (.draw [⟨(some 8), none, .mov (.t 3)⟩,
    ⟨(some 9), none, .mov (.t 0)⟩,
    ⟨(some 10), none, .mov (.t 4)⟩,
    ⟨(some 11), none, .nilck (.t 9)⟩,
    ⟨(some 12), none, .faddr 0 (.t 11)⟩,
    ⟨(some 13), none, .iaddr 1 (some 7) (.t 12) (.t 10)⟩,
    ⟨(some 14), none, .load none (.t 13)⟩,
    ⟨(some 15), none, .mov (.t 0)⟩,
    ⟨(some 16), none, .mov (.t 4)⟩,
    ⟨(some 17), none, .nilck (.t 15)⟩,
    ⟨(some 18), none, .faddr 7 (.t 17)⟩,
    ⟨(some 19), none, .iaddr 1 (some 7) (.t 18) (.t 16)⟩,
    ⟨(some 20), none, .load none (.t 19)⟩,
    ⟨(some 21), none, .bin .sub .no (.t 14) (.t 20)⟩,
    ⟨(some 22), none, .bin .add .no (.t 8) (.t 21)⟩,
    ⟨(some 3), none, .mov (.t 22)⟩]
    (.fl 0 (.fl 1 (.fl 2 (.fr 3 (.fl 4 (.fr 5 (.fr 6 (.fl 7 (.fl 8 (.fr 9 (.fl 10 (.fr 11 (.fr 12 (.fl 13 (.fl 14 (.fl 15 .done)))))))))))))))))))
  (.reg [⟨(some 23), none, .bin .add .no (.t 5) (.c (.raw (.int .i64 1)))⟩,
    ⟨(some 5), none, .mov (.t 23)⟩])))))))
 (.seq (.reg [⟨(some 24), none, .mov (.t 3)⟩,
   ⟨(some 2), none, .mov (.t 24)⟩])
 .ret))))
theorem i_tally_Tally_Value : Is Tryz.prog 63 25 [.t 2] c_tally_Tally_Value := ⟨Tryz.f63, _, p_tally_Tally_Value, rfl, rfl, by kernel_rfl, by kernel_rfl, rfl⟩
def p_value_AsText : List (Nat × Pl) := [(2, (.fl 0 (.fr 1 (.fl 2 (.fl 3 (.fl 4 (.fr 5 (.fl 6 (.fl 7 (.fl 8 (.fl 9 .done)))))))))))]
def c_value_AsText : VCode :=
 (.seq (.reg [⟨(some 2), none, .mov (.c (.raw (.pointer none)))⟩,
   ⟨(some 3), none, .mov (.c (.kb false))⟩])
 (.seq (.reg [⟨(some 7), none, .mov (.t 0)⟩,
   ⟨(some 8), none, .tassert 142 true (.agg #[(.pointer none)]) (.t 7)⟩,
   ⟨(some 6), none, .mov (.t 8)⟩,
   ⟨(some 9), none, .extr (.t 6) 0⟩,
   ⟨(some 10), none, .extr (.t 6) 1⟩,
   ⟨(some 4), none, .new 142 [(.pointer none)]⟩,
   ⟨none, none, .store (some 1) (.t 4) (.t 9)⟩,
   ⟨(some 5), none, .mov (.t 10)⟩])
 (.seq (.draw [⟨(some 11), none, .faddr 0 (.t 4)⟩,
   ⟨(some 12), none, .load none (.t 11)⟩,
   ⟨(some 13), none, .mov (.t 5)⟩,
   ⟨(some 14), none, .mov (.t 13)⟩,
   ⟨(some 15), (some (14, true)), .faddr 0 (.t 4)⟩,
   ⟨(some 16), (some (14, true)), .load none (.t 15)⟩,
   ⟨(some 17), (some (14, true)), .bin .neq .p (.t 16) (.c (.raw (.pointer none)))⟩,
   ⟨(some 18), none, .pick (.t 14) (.t 17) (.c (.kb false))⟩,
   ⟨(some 2), none, .mov (.t 12)⟩,
   ⟨(some 3), none, .mov (.t 18)⟩]
   (.fl 0 (.fr 1 (.fl 2 (.fl 3 (.fl 4 (.fr 5 (.fl 6 (.fl 7 (.fl 8 (.fl 9 .done)))))))))))
 .ret)))
theorem i_value_AsText : Is Tryz.prog 64 19 [.t 2, .t 3] c_value_AsText := ⟨Tryz.f64, _, p_value_AsText, rfl, rfl, by kernel_rfl, by kernel_rfl, rfl⟩
def p_last_Last_Value : List (Nat × Pl) := [(1, (.fl 0 (.fr 1 (.fl 2 (.fr 3 (.fl 4 (.fr 5 (.fl 6 (.fr 7 (.fl 8 (.fl 9 .done)))))))))))]
def c_last_Last_Value : VCode :=
 (.seq (.reg [⟨(some 2), none, .mov (.c (.raw (.string (ByteArray.mk #[]))))⟩,
   ⟨(some 3), none, .mov (.c (.kb false))⟩])
 (.seq (.draw [⟨(some 4), none, .mov (.t 0)⟩,
   ⟨(some 5), none, .nilck (.t 4)⟩,
   ⟨(some 6), none, .faddr 1 (.t 5)⟩,
   ⟨(some 7), none, .load none (.t 6)⟩,
   ⟨(some 8), none, .mov (.t 0)⟩,
   ⟨(some 9), none, .nilck (.t 8)⟩,
   ⟨(some 10), none, .faddr 0 (.t 9)⟩,
   ⟨(some 11), none, .load none (.t 10)⟩,
   ⟨(some 2), none, .mov (.t 7)⟩,
   ⟨(some 3), none, .mov (.t 11)⟩]
   (.fl 0 (.fr 1 (.fl 2 (.fr 3 (.fl 4 (.fr 5 (.fl 6 (.fr 7 (.fl 8 (.fl 9 .done)))))))))))
 .ret))
theorem i_last_Last_Value : Is Tryz.prog 65 12 [.t 2, .t 3] c_last_Last_Value := ⟨Tryz.f65, _, p_last_Last_Value, rfl, rfl, by kernel_rfl, by kernel_rfl, rfl⟩
def p_state_State_Keys_1 : List (Nat × Pl) := []
def c_state_State_Keys_1 : VCode :=
 (.seq (.reg [⟨(some 4), none, .mov (.c (.raw (.int .i64 0)))⟩])
 (.seq (.reg [⟨(some 5), none, .mov (.t 0)⟩,
   ⟨(some 6), none, .mov (.t 1)⟩,
   ⟨(some 7), none, .call 69 [(.t 5), (.t 6)]⟩,
   ⟨(some 8), none, .mov (.t 0)⟩,
   ⟨(some 9), none, .mov (.t 1)⟩,
   ⟨(some 10), none, .call 70 [(.t 8), (.t 9)]⟩,
   ⟨(some 11), none, .bslice 3 2 [(.int .i64 0), (.int .i64 0)] [(0, 1, (.t 7)), (1, 1, (.t 10))]⟩,
   ⟨(some 12), none, .call 68 [(.t 11)]⟩,
   ⟨(some 4), none, .mov (.t 12)⟩])
 .ret))
theorem i_state_State_Keys_1 : Is Tryz.prog 67 13 [.t 4] c_state_State_Keys_1 := ⟨Tryz.f67, _, p_state_State_Keys_1, rfl, rfl, by kernel_rfl, by kernel_rfl, rfl⟩
def p_cmp_Or_int : List (Nat × Pl) := []
def c_cmp_Or_int : VCode :=
 (.seq (.reg [⟨(some 2), none, .mov (.c (.raw (.int .i64 0)))⟩])
 (.seq (.reg [⟨(some 3), none, .mov (.c (.raw (.int .i64 0)))⟩])
 (.seq (.seq (.reg [⟨(some 6), none, .mov (.t 0)⟩,
   ⟨(some 7), none, .len .sl (.t 6)⟩,
   ⟨(some 8), none, .mov (.c (.raw (.int .i64 0)))⟩])
 (.block 0 (.loop (.seq (.reg [⟨(some 9), none, .bin .lss .no (.t 8) (.t 7)⟩])
  (.seq (.cond (.t 9)
   .skip
   (.exit 0))
  (.seq (.block 1 (.seq (.reg [⟨(some 10), none, .iaddr 1 none (.t 6) (.t 8)⟩,
    ⟨(some 11), none, .load none (.t 10)⟩,
    ⟨(some 5), none, .mov (.t 11)⟩])
  (.seq (.reg [⟨(some 12), none, .mov (.t 5)⟩,
    ⟨(some 13), none, .mov (.t 3)⟩,
    ⟨(some 14), none, .bin .neq .no (.t 12) (.t 13)⟩])
  (.cond (.t 14)
   (.seq (.reg [⟨(some 15), none, .mov (.t 5)⟩,
     ⟨(some 2), none, .mov (.t 15)⟩])
   .ret)
   .skip))))
  (.reg [⟨(some 16), none, .bin .add .no (.t 8) (.c (.raw (.int .i64 1)))⟩,
    ⟨(some 8), none, .mov (.t 16)⟩])))))))
 (.seq (.reg [⟨(some 17), none, .mov (.t 3)⟩,
   ⟨(some 2), none, .mov (.t 17)⟩])
 .ret))))
theorem i_cmp_Or_int : Is Tryz.prog 68 18 [.t 2] c_cmp_Or_int := ⟨Tryz.f68, _, p_cmp_Or_int, rfl, rfl, by kernel_rfl, by kernel_rfl, rfl⟩
def p_name_Cmp : List (Nat × Pl) := []
def c_name_Cmp : VCode :=
 (.seq (.reg [⟨(some 4), none, .mov (.c (.raw (.int .i64 0)))⟩])
 (.seq (.reg [⟨(some 9), none, .mov (.t 0)⟩,
   ⟨(some 10), none, .conv (.s2r 21) (.t 9)⟩,
   ⟨(some 11), none, .mov (.t 1)⟩,
   ⟨(some 12), none, .conv (.s2r 21) (.t 11)⟩,
   ⟨(some 5), none, .mov (.t 10)⟩,
   ⟨(some 6), none, .mov (.t 12)⟩])
 (.seq (.seq (.reg [⟨(some 13), none, .mov (.t 5)⟩,
   ⟨(some 14), none, .len .sl (.t 13)⟩,
   ⟨(some 15), none, .mov (.c (.raw (.int .i64 0)))⟩])
 (.block 0 (.loop (.seq (.reg [⟨(some 16), none, .bin .lss .no (.t 15) (.t 14)⟩])
  (.seq (.cond (.t 16)
   .skip
   (.exit 0))
  (.seq (.block 1 (.seq (.reg [⟨(some 17), none, .mov (.t 15)⟩,
    ⟨(some 18), none, .iaddr 1 none (.t 13) (.t 15)⟩,
    ⟨(some 19), none, .load none (.t 18)⟩,
    ⟨(some 7), none, .mov (.t 17)⟩,
    ⟨(some 8), none, .mov (.t 19)⟩])
  (.block 2 (.seq (.reg [⟨(some 21), none, .mov (.t 7)⟩,
    ⟨(some 22), none, .mov (.t 6)⟩,
    ⟨(some 23), none, .len .sl (.t 22)⟩,
    ⟨(some 24), none, .bin .geq .no (.t 21) (.t 23)⟩,
    ⟨(some 25), none, .mov (.t 24)⟩,
    ⟨(some 26), (some (25, false)), .mov (.t 8)⟩,
    ⟨(some 27), (some (25, false)), .mov (.t 6)⟩,
    ⟨(some 28), (some (25, false)), .mov (.t 7)⟩,
    ⟨(some 29), (some (25, false)), .iaddr 1 none (.t 27) (.t 28)⟩,
    ⟨(some 30), (some (25, false)), .load none (.t 29)⟩,
    ⟨(some 31), (some (25, false)), .bin .gtr .no (.t 26) (.t 30)⟩,
    ⟨(some 32), none, .pick (.t 25) (.c (.kb true)) (.t 31)⟩,
    ⟨(some 20), none, .mov (.t 32)⟩])
  (.cond (.t 20)
   (.seq (.reg [⟨(some 4), none, .mov (.c (.raw (.int .i64 1)))⟩])
   .ret)
   (.seq (.reg [⟨(some 34), none, .mov (.t 8)⟩,
     ⟨(some 35), none, .mov (.t 6)⟩,
     ⟨(some 36), none, .mov (.t 7)⟩,
     ⟨(some 37), none, .iaddr 1 none (.t 35) (.t 36)⟩,
     ⟨(some 38), none, .load none (.t 37)⟩,
     ⟨(some 39), none, .bin .lss .no (.t 34) (.t 38)⟩,
     ⟨(some 33), none, .mov (.t 39)⟩])
   (.cond (.t 33)
    (.seq (.reg [⟨(some 4), none, .mov (.c (.raw (.int .i64 (-1))))⟩])
    .ret)
    .skip)))))))
  (.reg [⟨(some 40), none, .bin .add .no (.t 15) (.c (.raw (.int .i64 1)))⟩,
    ⟨(some 15), none, .mov (.t 40)⟩])))))))
 (.seq (.seq (.reg [⟨(some 41), none, .mov (.t 5)⟩,
   ⟨(some 42), none, .len .sl (.t 41)⟩,
   ⟨(some 43), none, .mov (.t 6)⟩,
   ⟨(some 44), none, .len .sl (.t 43)⟩,
   ⟨(some 45), none, .bin .lss .no (.t 42) (.t 44)⟩])
 (.cond (.t 45)
  (.seq (.reg [⟨(some 4), none, .mov (.c (.raw (.int .i64 (-1))))⟩])
  .ret)
  .skip))
 (.seq (.reg [⟨(some 4), none, .mov (.c (.raw (.int .i64 0)))⟩])
 .ret)))))
theorem i_name_Cmp : Is Tryz.prog 69 46 [.t 4] c_name_Cmp := ⟨Tryz.f69, _, p_name_Cmp, rfl, rfl, by kernel_rfl, by kernel_rfl, rfl⟩
def p_orset_New : List (Nat × Pl) := []
def c_orset_New : VCode :=
 (.seq (.reg [⟨(some 0), none, .mov (.c (.raw (.pointer none)))⟩])
 (.seq (.reg [⟨(some 1), none, .mkmap⟩,
   ⟨(some 2), none, .mkmap⟩,
   ⟨(some 3), none, .build [(.map none), (.map none)] [(0, 1, (.t 1)), (1, 1, (.t 2))]⟩,
   ⟨(some 4), none, .box 135 (.t 3)⟩,
   ⟨(some 0), none, .mov (.t 4)⟩])
 .ret))
theorem i_orset_New : Is Tryz.prog 77 5 [.t 0] c_orset_New := ⟨Tryz.f77, _, p_orset_New, rfl, rfl, by kernel_rfl, by kernel_rfl, rfl⟩
def p_tally_New : List (Nat × Pl) := []
def c_tally_New : VCode :=
 (.seq (.reg [⟨(some 0), none, .mov (.c (.raw (.pointer none)))⟩])
 (.seq (.reg [⟨(some 1), none, .build [(.int .i64 0), (.int .i64 0), (.int .i64 0), (.int .i64 0), (.int .i64 0), (.int .i64 0), (.int .i64 0), (.int .i64 0), (.int .i64 0), (.int .i64 0), (.int .i64 0), (.int .i64 0), (.int .i64 0), (.int .i64 0)] []⟩,
   ⟨(some 2), none, .box 178 (.t 1)⟩,
   ⟨(some 0), none, .mov (.t 2)⟩])
 .ret))
theorem i_tally_New : Is Tryz.prog 78 3 [.t 0] c_tally_New := ⟨Tryz.f78, _, p_tally_New, rfl, rfl, by kernel_rfl, by kernel_rfl, rfl⟩
def p_last_New : List (Nat × Pl) := []
def c_last_New : VCode :=
 (.seq (.reg [⟨(some 0), none, .mov (.c (.raw (.pointer none)))⟩])
 (.seq (.reg [⟨(some 1), none, .build [(.bool false), (.string (ByteArray.mk #[])), (.int .i64 0), (.int .i64 0), (.int .i64 0)] []⟩,
   ⟨(some 2), none, .box 181 (.t 1)⟩,
   ⟨(some 0), none, .mov (.t 2)⟩])
 .ret))
theorem i_last_New : Is Tryz.prog 79 3 [.t 0] c_last_New := ⟨Tryz.f79, _, p_last_New, rfl, rfl, by kernel_rfl, by kernel_rfl, rfl⟩
def p_orset_Set_Remove : List (Nat × Pl) := [(3, (.fl 0 (.fr 1 (.fl 2 (.fr 3 (.fl 4 (.fl 5 (.fr 6 (.fl 7 (.fr 8 (.fl 9 (.fr 10 (.fr 11 (.st 12 [1, 3] (.st 13 [] .done)))))))))))))))]
def c_orset_Set_Remove : VCode :=
 (.seq (.reg [⟨(some 5), none, .box 30 (.t 2)⟩,
   ⟨(some 6), none, .mov (.c (.raw (.int .i64 0)))⟩])
 (.seq (.seq (.reg [⟨(some 7), none, .mov (.t 1)⟩,
   ⟨(some 8), none, .len .str (.t 7)⟩,
   ⟨(some 9), none, .bin .gtr .no (.t 8) (.c (.raw (.int .i64 100)))⟩,
   ⟨(some 10), none, .mov (.t 9)⟩,
   ⟨(some 11), (some (10, false)), .load (some 7) (.t 5)⟩,
   ⟨(some 12), (some (10, false)), .call 42 [(.t 11)]⟩,
   ⟨(some 13), (some (10, false)), .un .not (.t 12)⟩,
   ⟨(some 14), none, .pick (.t 10) (.c (.kb true)) (.t 13)⟩])
 (.cond (.t 14)
  (.seq (.reg [⟨(some 6), none, .mov (.c (.raw (.int .i64 1)))⟩])
  .ret)
  .skip))
 (.seq (.draw [⟨(some 15), none, .mov (.t 0)⟩,
   ⟨(some 16), none, .nilck (.t 15)⟩,
   ⟨(some 17), none, .faddr 1 (.t 16)⟩,
   ⟨(some 18), none, .load none (.t 17)⟩,
   ⟨(some 19), none, .mov (.t 1)⟩,
   ⟨(some 20), none, .mov (.t 0)⟩,
   ⟨(some 21), none, .nilck (.t 20)⟩,
   ⟨(some 22), none, .faddr 1 (.t 21)⟩,
   ⟨(some 23), none, .load none (.t 22)⟩,
   ⟨(some 24), none, .mov (.t 1)⟩,
   ⟨(some 25), none, .lookup 133 false (.t 23) (.t 24)⟩,
   ⟨(some 26), none, .load (some 7) (.t 5)⟩,
   ⟨(some 27), none, .call 114 [(.t 25), (.t 26)]⟩,
   ⟨none, none, .mapup 133 (.t 18) (.t 19) (.t 27)⟩]
   (.fl 0 (.fr 1 (.fl 2 (.fr 3 (.fl 4 (.fl 5 (.fr 6 (.fl 7 (.fr 8 (.fl 9 (.fr 10 (.fr 11 (.st 12 [1, 3] (.st 13 [] .done)))))))))))))))
 (.seq (.reg [⟨(some 6), none, .mov (.c (.raw (.int .i64 0)))⟩])
 .ret))))
theorem i_orset_Set_Remove : Is Tryz.prog 80 28 [.t 6] c_orset_Set_Remove := ⟨Tryz.f80, _, p_orset_Set_Remove, rfl, rfl, by kernel_rfl, by kernel_rfl, rfl⟩
def p_tally_Tally_Add : List (Nat × Pl) := [(8, (.fl 0 (.fl 1 (.fr 2 (.fr 3 (.fr 4 (.fl 5 (.fl 6 (.fr 7 (.fr 8 (.st 9 [] .done)))))))))))]
def c_tally_Tally_Add : VCode :=
 (.seq (.reg [⟨(some 6), none, .mov (.c (.raw (.int .i64 0)))⟩])
 (.seq (.seq (.reg [⟨(some 8), none, .mov (.t 1)⟩,
   ⟨(some 9), none, .call 40 [(.t 8)]⟩,
   ⟨(some 10), none, .un .not (.t 9)⟩,
   ⟨(some 11), none, .mov (.t 10)⟩,
   ⟨(some 12), (some (11, false)), .mov (.t 2)⟩,
   ⟨(some 13), (some (11, false)), .bin .lss .no (.t 12) (.c (.raw (.int .i64 (-1099511627776))))⟩,
   ⟨(some 14), none, .pick (.t 11) (.c (.kb true)) (.t 13)⟩,
   ⟨(some 15), none, .mov (.t 14)⟩,
   ⟨(some 16), (some (15, false)), .mov (.t 2)⟩,
   ⟨(some 17), (some (15, false)), .bin .gtr .no (.t 16) (.c (.raw (.int .i64 1099511627776)))⟩,
   ⟨(some 18), none, .pick (.t 15) (.c (.kb true)) (.t 17)⟩])
 (.cond (.t 18)
  (.seq (.reg [⟨(some 6), none, .mov (.c (.raw (.int .i64 1)))⟩])
  .ret)
  .skip))
 (.seq (.reg [⟨(some 19), none, .mov (.t 0)⟩,
   ⟨(some 20), none, .nilck (.t 19)⟩,
   ⟨(some 21), none, .faddr 0 (.t 20)⟩,
   ⟨(some 7), none, .mov (.t 21)⟩])
 (.seq (.seq (.reg [⟨(some 22), none, .mov (.t 2)⟩,
   ⟨(some 23), none, .bin .lss .no (.t 22) (.c (.raw (.int .i64 0)))⟩])
 (.cond (.t 23)
  (.reg [⟨(some 24), none, .mov (.t 0)⟩,
    ⟨(some 25), none, .nilck (.t 24)⟩,
    ⟨(some 26), none, .faddr 7 (.t 25)⟩,
    ⟨(some 27), none, .mov (.t 2)⟩,
    ⟨(some 28), none, .un .neg (.t 27)⟩,
    ⟨(some 7), none, .mov (.t 26)⟩,
    ⟨(some 2), none, .mov (.t 28)⟩])
  .skip))
 (.seq (.seq (.reg [⟨(some 29), none, .mov (.t 2)⟩,
   ⟨(some 30), none, .mov (.t 7)⟩,
   ⟨(some 31), none, .mov (.t 1)⟩,
   ⟨(some 32), none, .nilck (.t 30)⟩,
   ⟨(some 33), none, .iaddr 1 (some 7) (.t 32) (.t 31)⟩,
   ⟨(some 34), none, .load none (.t 33)⟩,
   ⟨(some 35), none, .bin .sub .no (.c (.raw (.int .i64 1125899906842624))) (.t 34)⟩,
   ⟨(some 36), none, .bin .gtr .no (.t 29) (.t 35)⟩])
 (.cond (.t 36)
  (.seq (.reg [⟨(some 6), none, .mov (.c (.raw (.int .i64 2)))⟩])
  .ret)
  .skip))
 (.seq (.draw [⟨(some 37), none, .mov (.t 7)⟩,
   ⟨(some 38), none, .mov (.t 1)⟩,
   ⟨(some 39), none, .nilck (.t 37)⟩,
   ⟨(some 40), none, .iaddr 1 (some 7) (.t 39) (.t 38)⟩,
   ⟨(some 41), none, .load none (.t 40)⟩,
   ⟨(some 42), none, .mov (.t 2)⟩,
   ⟨(some 43), none, .bin .add .no (.t 41) (.t 42)⟩,
   ⟨(some 44), none, .nilck (.t 37)⟩,
   ⟨(some 45), none, .iaddr 1 (some 7) (.t 44) (.t 38)⟩,
   ⟨none, none, .store none (.t 45) (.t 43)⟩]
   (.fl 0 (.fl 1 (.fr 2 (.fr 3 (.fr 4 (.fl 5 (.fl 6 (.fr 7 (.fr 8 (.st 9 [] .done)))))))))))
 (.seq (.reg [⟨(some 6), none, .mov (.c (.raw (.int .i64 0)))⟩])
 .ret)))))))
theorem i_tally_Tally_Add : Is Tryz.prog 81 46 [.t 6] c_tally_Tally_Add := ⟨Tryz.f81, _, p_tally_Tally_Add, rfl, rfl, by kernel_rfl, by kernel_rfl, rfl⟩
def p_last_Last_Write : List (Nat × Pl) := [(3, (.fl 0 (.fl 1 (.fr 2 (.fl 3 (.fr 4 (.fr 6 (.fl 7 (.fr 8 (.fl 9 (.fr 10 (.st 5 [6, 8, 10] (.st 11 [] (.st 12 [] (.st 13 [] (.fl 14 .done))))))))))))))))]
def c_last_Last_Write : VCode :=
 (.seq (.reg [⟨(some 7), none, .box 28 (.t 3)⟩,
   ⟨(some 8), none, .mov (.c (.kb false))⟩,
   ⟨(some 9), none, .mov (.c (.raw (.int .i64 0)))⟩])
 (.seq (.seq (.reg [⟨(some 11), none, .mov (.t 1)⟩,
   ⟨(some 12), none, .len .str (.t 11)⟩,
   ⟨(some 13), none, .bin .gtr .no (.t 12) (.c (.raw (.int .i64 100)))⟩,
   ⟨(some 14), none, .mov (.t 13)⟩,
   ⟨(some 15), (some (14, false)), .mov (.t 2)⟩,
   ⟨(some 16), (some (14, false)), .bin .lss .no (.t 15) (.c (.raw (.int .i64 0)))⟩,
   ⟨(some 17), none, .pick (.t 14) (.c (.kb true)) (.t 16)⟩,
   ⟨(some 18), none, .mov (.t 17)⟩,
   ⟨(some 19), (some (18, false)), .mov (.t 2)⟩,
   ⟨(some 20), (some (18, false)), .bin .gtr .no (.t 19) (.c (.raw (.int .i64 1099511627776)))⟩,
   ⟨(some 21), none, .pick (.t 18) (.c (.kb true)) (.t 20)⟩,
   ⟨(some 22), none, .mov (.t 21)⟩,
   ⟨(some 23), (some (22, false)), .load (some 2) (.t 7)⟩,
   ⟨(some 24), (some (22, false)), .call 41 [(.t 23)]⟩,
   ⟨(some 25), (some (22, false)), .un .not (.t 24)⟩,
   ⟨(some 26), none, .pick (.t 22) (.c (.kb true)) (.t 25)⟩])
 (.cond (.t 26)
  (.seq (.reg [⟨(some 8), none, .mov (.c (.kb false))⟩,
    ⟨(some 9), none, .mov (.c (.raw (.int .i64 1)))⟩])
  .ret)
  .skip))
 (.seq (.draw [⟨(some 27), none, .mov (.t 2)⟩,
   ⟨(some 28), none, .mov (.t 0)⟩,
   ⟨(some 29), none, .nilck (.t 28)⟩,
   ⟨(some 30), none, .faddr 2 (.t 29)⟩,
   ⟨(some 31), none, .load none (.t 30)⟩,
   ⟨(some 32), none, .call 115 [(.t 27), (.t 31)]⟩,
   ⟨(some 33), none, .load (some 2) (.t 7)⟩,
   ⟨(some 34), none, .mov (.t 0)⟩,
   ⟨(some 35), none, .nilck (.t 34)⟩,
   ⟨(some 36), none, .faddr 3 (.t 35)⟩,
   ⟨(some 37), none, .load (some 2) (.t 36)⟩,
   ⟨(some 38), none, .call 116 [(.t 33), (.t 37)]⟩,
   ⟨(some 39), none, .bslice 3 2 [(.int .i64 0), (.int .i64 0)] [(0, 1, (.t 32)), (1, 1, (.t 38))]⟩,
   ⟨(some 40), none, .call 68 [(.t 39)]⟩,
   ⟨(some 10), none, .mov (.t 40)⟩]
   (.fl 0 (.fl 1 (.fr 2 (.fl 3 (.fr 4 (.fr 6 (.fl 7 (.fr 8 (.fl 9 (.fr 10 (.st 5 [6, 8, 10] (.st 11 [] (.st 12 [] (.st 13 [] (.fl 14 .done))))))))))))))))
 (.seq (.block 0 (.seq (.reg [⟨(some 42), none, .mov (.t 0)⟩,
   ⟨(some 43), none, .nilck (.t 42)⟩,
   ⟨(some 44), none, .faddr 0 (.t 43)⟩,
   ⟨(some 45), none, .load none (.t 44)⟩,
   ⟨(some 46), none, .mov (.t 45)⟩,
   ⟨(some 47), (some (46, true)), .mov (.t 10)⟩,
   ⟨(some 48), (some (46, true)), .bin .lss .no (.t 47) (.c (.raw (.int .i64 0)))⟩,
   ⟨(some 49), none, .pick (.t 46) (.t 48) (.c (.kb false))⟩,
   ⟨(some 41), none, .mov (.t 49)⟩])
 (.cond (.t 41)
  (.seq (.reg [⟨(some 8), none, .mov (.c (.kb false))⟩,
    ⟨(some 9), none, .mov (.c (.raw (.int .i64 0)))⟩])
  .ret)
  (.seq (.reg [⟨(some 51), none, .mov (.t 0)⟩,
    ⟨(some 52), none, .nilck (.t 51)⟩,
    ⟨(some 53), none, .faddr 0 (.t 52)⟩,
    ⟨(some 54), none, .load none (.t 53)⟩,
    ⟨(some 55), none, .mov (.t 54)⟩,
    ⟨(some 56), (some (55, true)), .mov (.t 10)⟩,
    ⟨(some 57), (some (55, true)), .bin .eql .no (.t 56) (.c (.raw (.int .i64 0)))⟩,
    ⟨(some 58), none, .pick (.t 55) (.t 57) (.c (.kb false))⟩,
    ⟨(some 50), none, .mov (.t 58)⟩])
  (.cond (.t 50)
   (.seq (.seq (.reg [⟨(some 59), none, .mov (.t 1)⟩,
     ⟨(some 60), none, .mov (.t 0)⟩,
     ⟨(some 61), none, .nilck (.t 60)⟩,
     ⟨(some 62), none, .faddr 1 (.t 61)⟩,
     ⟨(some 63), none, .load none (.t 62)⟩,
     ⟨(some 64), none, .bin .neq .no (.t 59) (.t 63)⟩])
   (.cond (.t 64)
    (.seq (.reg [⟨(some 8), none, .mov (.c (.kb false))⟩,
      ⟨(some 9), none, .mov (.c (.raw (.int .i64 5)))⟩])
    .ret)
    .skip))
   (.seq (.reg [⟨(some 8), none, .mov (.c (.kb false))⟩,
     ⟨(some 9), none, .mov (.c (.raw (.int .i64 0)))⟩])
   .ret))
   .skip)))))
 (.seq (.reg [⟨(some 65), none, .mov (.t 0)⟩,
   ⟨(some 66), none, .mov (.t 1)⟩,
   ⟨(some 67), none, .mov (.t 2)⟩,
   ⟨(some 68), none, .load (some 2) (.t 7)⟩,
   ⟨(some 69), none, .build [(.bool false), (.string (ByteArray.mk #[])), (.int .i64 0), (.int .i64 0), (.int .i64 0)] [(0, 1, (.c (.kb true))), (1, 1, (.t 66)), (2, 1, (.t 67)), (3, 2, (.t 68))]⟩,
   ⟨(some 70), none, .nilck (.t 65)⟩,
   ⟨none, none, .store (some 5) (.t 70) (.t 69)⟩])
 (.seq (.reg [⟨(some 8), none, .mov (.c (.kb true))⟩,
   ⟨(some 9), none, .mov (.c (.raw (.int .i64 0)))⟩])
 .ret))))))
theorem i_last_Last_Write : Is Tryz.prog 82 71 [.t 8, .t 9] c_last_Last_Write := ⟨Tryz.f82, _, p_last_Last_Write, rfl, rfl, by kernel_rfl, by kernel_rfl, rfl⟩
def p_pack_Bytes : List (Nat × Pl) := []
def c_pack_Bytes : VCode :=
 (.seq (.reg [⟨(some 4), none, .mov (.c (.raw (.slice none 0 0)))⟩])
 (.seq (.reg [⟨(some 5), none, .mov (.t 0)⟩,
   ⟨(some 6), none, .mov (.t 1)⟩,
   ⟨(some 7), none, .len .sl (.t 6)⟩,
   ⟨(some 8), none, .call 38 [(.t 5), (.t 7)]⟩,
   ⟨(some 9), none, .mov (.t 1)⟩,
   ⟨(some 10), none, .append 5 1 1 [(.int .u8 0)] (.t 8) (.t 9)⟩,
   ⟨(some 4), none, .mov (.t 10)⟩])
 .ret))
theorem i_pack_Bytes : Is Tryz.prog 83 11 [.t 4] c_pack_Bytes := ⟨Tryz.f83, _, p_pack_Bytes, rfl, rfl, by kernel_rfl, by kernel_rfl, rfl⟩
def p_bytes_Clone : List (Nat × Pl) := []
def c_bytes_Clone : VCode :=
 (.seq (.reg [⟨(some 2), none, .mov (.c (.raw (.slice none 0 0)))⟩])
 (.seq (.seq (.reg [⟨(some 3), none, .mov (.t 0)⟩,
   ⟨(some 4), none, .bin .eql .sl (.t 3) (.c (.raw (.slice none 0 0)))⟩])
 (.cond (.t 4)
  (.seq (.reg [⟨(some 2), none, .mov (.c (.raw (.slice none 0 0)))⟩])
  .ret)
  .skip))
 (.seq (.reg [⟨(some 5), none, .bslice 5 0 [] []⟩,
   ⟨(some 6), none, .mov (.t 0)⟩,
   ⟨(some 7), none, .append 5 1 1 [(.int .u8 0)] (.t 5) (.t 6)⟩,
   ⟨(some 2), none, .mov (.t 7)⟩])
 .ret)))
theorem i_bytes_Clone : Is Tryz.prog 84 8 [.t 2] c_bytes_Clone := ⟨Tryz.f84, _, p_bytes_Clone, rfl, rfl, by kernel_rfl, by kernel_rfl, rfl⟩
def p_orset_Set_Put : List (Nat × Pl) := [(11, (.fl 0 (.fl 1 (.fr 2 (.fl 4 (.fr 5 (.st 3 [5] (.st 6 [] (.fl 7 .done)))))))))]
def c_orset_Set_Put : VCode :=
 (.seq (.reg [⟨(some 4), none, .mov (.c (.raw (.slice none 0 0)))⟩])
 (.seq (.reg [⟨(some 11), none, .mov (.t 0)⟩,
   ⟨(some 12), none, .call 60 [(.t 11)]⟩,
   ⟨(some 5), none, .mov (.t 12)⟩])
 (.seq (.reg [⟨(some 13), none, .mov (.t 1)⟩,
   ⟨(some 14), none, .mov (.t 5)⟩,
   ⟨(some 15), none, .len .sl (.t 14)⟩,
   ⟨(some 16), none, .call 38 [(.t 13), (.t 15)]⟩,
   ⟨(some 1), none, .mov (.t 16)⟩])
 (.seq (.seq (.reg [⟨(some 17), none, .mov (.t 5)⟩,
   ⟨(some 18), none, .len .sl (.t 17)⟩,
   ⟨(some 19), none, .mov (.c (.raw (.int .i64 0)))⟩])
 (.block 0 (.loop (.seq (.reg [⟨(some 20), none, .bin .lss .no (.t 19) (.t 18)⟩])
  (.seq (.cond (.t 20)
   .skip
   (.exit 0))
  (.seq (.block 1 (.seq (.reg [⟨(some 21), none, .iaddr 1 none (.t 17) (.t 19)⟩,
    ⟨(some 22), none, .load none (.t 21)⟩,
    ⟨(some 7), none, .mov (.t 22)⟩])
  (.seq (.reg [⟨(some 23), none, .mov (.t 0)⟩,
    ⟨(some 24), none, .mov (.t 7)⟩,
    ⟨(some 25), none, .call 117 [(.t 23), (.t 24)]⟩,
    ⟨(some 8), none, .mov (.t 25)⟩])
  (.seq (.reg [⟨(some 26), none, .mov (.t 1)⟩,
    ⟨(some 27), none, .mov (.t 7)⟩,
    ⟨(some 28), none, .call 37 [(.t 26), (.t 27)]⟩,
    ⟨(some 29), none, .mov (.t 8)⟩,
    ⟨(some 30), none, .len .sl (.t 29)⟩,
    ⟨(some 31), none, .call 38 [(.t 28), (.t 30)]⟩,
    ⟨(some 1), none, .mov (.t 31)⟩])
  (.seq (.reg [⟨(some 32), none, .mov (.t 8)⟩,
    ⟨(some 33), none, .len .sl (.t 32)⟩,
    ⟨(some 34), none, .mov (.c (.raw (.int .i64 0)))⟩])
  (.block 2 (.loop (.seq (.reg [⟨(some 35), none, .bin .lss .no (.t 34) (.t 33)⟩])
   (.seq (.cond (.t 35)
    .skip
    (.exit 2))
   (.seq (.block 3 (.seq (.reg [⟨(some 36), none, .iaddr 2 none (.t 32) (.t 34)⟩,
     ⟨(some 37), none, .load (some 2) (.t 36)⟩,
     ⟨(some 10), none, .new 28 [(.int .i64 0), (.int .i64 0)]⟩,
     ⟨none, none, .store (some 2) (.t 10) (.t 37)⟩])
   (.draw [⟨(some 38), none, .mov (.t 1)⟩,
     ⟨(some 39), none, .faddr 0 (.t 10)⟩,
     ⟨(some 40), none, .load none (.t 39)⟩,
     ⟨(some 41), none, .call 38 [(.t 38), (.t 40)]⟩,
     ⟨(some 42), none, .faddr 1 (.t 10)⟩,
     ⟨(some 43), none, .load none (.t 42)⟩,
     ⟨(some 44), none, .call 38 [(.t 41), (.t 43)]⟩,
     ⟨(some 1), none, .mov (.t 44)⟩]
     (.fl 0 (.fl 1 (.fr 2 (.fl 4 (.fr 5 (.st 3 [5] (.st 6 [] (.fl 7 .done)))))))))))
   (.reg [⟨(some 45), none, .bin .add .no (.t 34) (.c (.raw (.int .i64 1)))⟩,
     ⟨(some 34), none, .mov (.t 45)⟩])))))))))))
  (.reg [⟨(some 46), none, .bin .add .no (.t 19) (.c (.raw (.int .i64 1)))⟩,
    ⟨(some 19), none, .mov (.t 46)⟩])))))))
 (.seq (.reg [⟨(some 47), none, .mov (.t 1)⟩,
   ⟨(some 4), none, .mov (.t 47)⟩])
 .ret)))))
theorem i_orset_Set_Put : Is Tryz.prog 85 48 [.t 4] c_orset_Set_Put := ⟨Tryz.f85, _, p_orset_Set_Put, rfl, rfl, by kernel_rfl, by kernel_rfl, rfl⟩
def p_tally_Tally_Put : List (Nat × Pl) := [(1, (.fl 0 (.fl 1 (.fr 2 (.fl 3 (.fr 4 (.fl 6 (.fr 7 (.fl 8 (.fr 9 (.st 5 [7, 9] (.st 10 [] (.fl 11 .done)))))))))))))]
def c_tally_Tally_Put : VCode :=
 (.seq (.reg [⟨(some 4), none, .mov (.c (.raw (.slice none 0 0)))⟩])
 (.seq (.draw [⟨(some 5), none, .mov (.t 1)⟩,
   ⟨(some 6), none, .mov (.t 0)⟩,
   ⟨(some 7), none, .nilck (.t 6)⟩,
   ⟨(some 8), none, .faddr 0 (.t 7)⟩,
   ⟨(some 9), none, .load (some 7) (.t 8)⟩,
   ⟨(some 10), none, .call 36 [(.t 5), (.t 9)]⟩,
   ⟨(some 11), none, .mov (.t 0)⟩,
   ⟨(some 12), none, .nilck (.t 11)⟩,
   ⟨(some 13), none, .faddr 7 (.t 12)⟩,
   ⟨(some 14), none, .load (some 7) (.t 13)⟩,
   ⟨(some 15), none, .call 36 [(.t 10), (.t 14)]⟩,
   ⟨(some 4), none, .mov (.t 15)⟩]
   (.fl 0 (.fl 1 (.fr 2 (.fl 3 (.fr 4 (.fl 6 (.fr 7 (.fl 8 (.fr 9 (.st 5 [7, 9] (.st 10 [] (.fl 11 .done)))))))))))))
 .ret))
theorem i_tally_Tally_Put : Is Tryz.prog 86 16 [.t 4] c_tally_Tally_Put := ⟨Tryz.f86, _, p_tally_Tally_Put, rfl, rfl, by kernel_rfl, by kernel_rfl, rfl⟩
def p_last_Last_Put : List (Nat × Pl) := [(3, (.fl 0 (.fl 2 (.fr 3 (.fl 4 (.fr 5 (.st 1 [3, 5] (.st 6 [] (.fl 7 .done))))))))), (4, (.fl 0 (.fl 1 (.fr 2 (.fl 3 (.fl 4 (.fr 5 (.fl 7 (.fr 8 (.fl 9 (.fl 10 (.fr 11 (.fl 13 (.fr 14 (.fl 15 (.fr 16 (.st 6 [8, 11, 14, 16] (.st 12 [14, 16] (.st 17 [] (.fl 18 .done))))))))))))))))))))]
def c_last_Last_Put : VCode :=
 (.seq (.reg [⟨(some 4), none, .mov (.c (.raw (.slice none 0 0)))⟩])
 (.seq (.seq (.reg [⟨(some 5), none, .mov (.t 0)⟩,
   ⟨(some 6), none, .nilck (.t 5)⟩,
   ⟨(some 7), none, .faddr 0 (.t 6)⟩,
   ⟨(some 8), none, .load none (.t 7)⟩,
   ⟨(some 9), none, .un .not (.t 8)⟩])
 (.cond (.t 9)
  (.seq (.reg [⟨(some 10), none, .mov (.t 1)⟩,
    ⟨(some 11), none, .call 38 [(.t 10), (.c (.raw (.int .i64 0)))]⟩,
    ⟨(some 4), none, .mov (.t 11)⟩])
  .ret)
  .skip))
 (.seq (.draw [⟨(some 12), none, .mov (.t 1)⟩,
   ⟨(some 13), none, .call 38 [(.t 12), (.c (.raw (.int .i64 1)))]⟩,
   ⟨(some 14), none, .mov (.t 0)⟩,
   ⟨(some 15), none, .nilck (.t 14)⟩,
   ⟨(some 16), none, .faddr 2 (.t 15)⟩,
   ⟨(some 17), none, .load none (.t 16)⟩,
   ⟨(some 18), none, .call 38 [(.t 13), (.t 17)]⟩,
   ⟨(some 1), none, .mov (.t 18)⟩]
   (.fl 0 (.fl 2 (.fr 3 (.fl 4 (.fr 5 (.st 1 [3, 5] (.st 6 [] (.fl 7 .done)))))))))
 (.seq (.draw [⟨(some 19), none, .mov (.t 1)⟩,
   ⟨(some 20), none, .mov (.t 0)⟩,
   ⟨(some 21), none, .nilck (.t 20)⟩,
   ⟨(some 22), none, .faddr 3 (.t 21)⟩,
   ⟨(some 23), none, .faddr 0 (.t 22)⟩,
   ⟨(some 24), none, .load none (.t 23)⟩,
   ⟨(some 25), none, .call 38 [(.t 19), (.t 24)]⟩,
   ⟨(some 26), none, .mov (.t 0)⟩,
   ⟨(some 27), none, .nilck (.t 26)⟩,
   ⟨(some 28), none, .faddr 3 (.t 27)⟩,
   ⟨(some 29), none, .faddr 1 (.t 28)⟩,
   ⟨(some 30), none, .load none (.t 29)⟩,
   ⟨(some 31), none, .call 38 [(.t 25), (.t 30)]⟩,
   ⟨(some 32), none, .mov (.t 0)⟩,
   ⟨(some 33), none, .nilck (.t 32)⟩,
   ⟨(some 34), none, .faddr 1 (.t 33)⟩,
   ⟨(some 35), none, .load none (.t 34)⟩,
   ⟨(some 36), none, .call 37 [(.t 31), (.t 35)]⟩,
   ⟨(some 4), none, .mov (.t 36)⟩]
   (.fl 0 (.fl 1 (.fr 2 (.fl 3 (.fl 4 (.fr 5 (.fl 7 (.fr 8 (.fl 9 (.fl 10 (.fr 11 (.fl 13 (.fr 14 (.fl 15 (.fr 16 (.st 6 [8, 11, 14, 16] (.st 12 [14, 16] (.st 17 [] (.fl 18 .done))))))))))))))))))))
 .ret))))
theorem i_last_Last_Put : Is Tryz.prog 87 37 [.t 4] c_last_Last_Put := ⟨Tryz.f87, _, p_last_Last_Put, rfl, rfl, by kernel_rfl, by kernel_rfl, rfl⟩
def p_name_other : List (Nat × Pl) := []
def c_name_other : VCode :=
 (.seq (.reg [⟨(some 4), none, .mov (.c (.kb false))⟩])
 (.seq (.reg [⟨(some 5), none, .mov (.t 0)⟩,
   ⟨(some 6), none, .call 118 [(.t 5)]⟩,
   ⟨(some 7), none, .mov (.t 6)⟩,
   ⟨(some 8), (some (7, false)), .mov (.t 1)⟩,
   ⟨(some 9), (some (7, false)), .un .not (.t 8)⟩,
   ⟨(some 10), (some (7, false)), .mov (.t 9)⟩,
   ⟨(some 11), (some (10, true)), .mov (.t 0)⟩,
   ⟨(some 12), (some (10, true)), .call 119 [(.t 11)]⟩,
   ⟨(some 13), (some (10, true)), .mov (.t 12)⟩,
   ⟨(some 14), (some (13, false)), .mov (.t 0)⟩,
   ⟨(some 15), (some (13, false)), .bin .eql .no (.t 14) (.c (.raw (.int .i32 45)))⟩,
   ⟨(some 16), (some (10, true)), .pick (.t 13) (.c (.kb true)) (.t 15)⟩,
   ⟨(some 17), (some (7, false)), .pick (.t 10) (.t 16) (.c (.kb false))⟩,
   ⟨(some 18), none, .pick (.t 7) (.c (.kb true)) (.t 17)⟩,
   ⟨(some 4), none, .mov (.t 18)⟩])
 .ret))
theorem i_name_other : Is Tryz.prog 88 19 [.t 4] c_name_other := ⟨Tryz.f88, _, p_name_other, rfl, rfl, by kernel_rfl, by kernel_rfl, rfl⟩
def p_maps_DeleteFunc_map_api_Dot_string_api_Dot_string : List (Nat × Pl) := []
def c_maps_DeleteFunc_map_api_Dot_string_api_Dot_string : VCode :=
 (.seq (.reg [⟨(some 6), none, .mov (.t 0)⟩,
   ⟨(some 7), none, .range false (.t 6)⟩])
 (.block 0 (.loop (.seq (.reg [⟨(some 8), none, .next false (.t 7)⟩,
    ⟨(some 9), none, .extr (.t 8) 0⟩])
  (.seq (.cond (.t 9)
   .skip
   (.exit 0))
  (.block 1 (.seq (.reg [⟨(some 10), none, .entry (.t 7)⟩,
    ⟨(some 11), none, .extr (.t 10) 0⟩,
    ⟨(some 12), none, .extr (.t 10) 1⟩,
    ⟨(some 4), none, .new 28 [(.int .i64 0), (.int .i64 0)]⟩,
    ⟨none, none, .store (some 2) (.t 4) (.t 11)⟩,
    ⟨(some 5), none, .mov (.t 12)⟩])
  (.seq (.reg [⟨(some 13), none, .mov (.t 1)⟩,
    ⟨(some 14), none, .load (some 2) (.t 4)⟩,
    ⟨(some 15), none, .mov (.t 5)⟩,
    ⟨(some 16), none, .callv (.t 13) [(.t 14), (.t 15)]⟩])
  (.cond (.t 16)
   (.reg [⟨(some 17), none, .mov (.t 0)⟩,
     ⟨(some 18), none, .load (some 2) (.t 4)⟩,
     ⟨none, none, .delete 132 (.t 17) (.t 18)⟩])
   .skip)))))))))
theorem i_maps_DeleteFunc_map_api_Dot_string_api_Dot_string : Is Tryz.prog 89 19 [] c_maps_DeleteFunc_map_api_Dot_string_api_Dot_string := ⟨Tryz.f89, _, p_maps_DeleteFunc_map_api_Dot_string_api_Dot_string, rfl, rfl, by kernel_rfl, by kernel_rfl, rfl⟩
def p_orset_Set_Drop_1 : List (Nat × Pl) := []
def c_orset_Set_Drop_1 : VCode :=
 (.seq (.reg [⟨(some 4), none, .box 28 (.t 0)⟩,
   ⟨(some 6), none, .mov (.c (.kb false))⟩])
 (.seq (.reg [⟨(some 7), none, .load none (.t 2)⟩,
   ⟨(some 8), none, .load (some 2) (.t 4)⟩,
   ⟨(some 9), none, .mov (.t 1)⟩,
   ⟨(some 10), none, .call 91 [(.t 7), (.t 8), (.t 9)]⟩,
   ⟨(some 11), none, .un .not (.t 10)⟩,
   ⟨(some 12), none, .mov (.t 11)⟩,
   ⟨(some 13), (some (12, true)), .load (some 7) (.t 3)⟩,
   ⟨(some 14), (some (12, true)), .load (some 2) (.t 4)⟩,
   ⟨(some 15), (some (12, true)), .call 14 [(.t 13), (.t 14)]⟩,
   ⟨(some 16), none, .pick (.t 12) (.t 15) (.c (.kb false))⟩,
   ⟨(some 6), none, .mov (.t 16)⟩])
 .ret))
theorem i_orset_Set_Drop_1 : Is Tryz.prog 90 17 [.t 6] c_orset_Set_Drop_1 := ⟨Tryz.f90, _, p_orset_Set_Drop_1, rfl, rfl, by kernel_rfl, by kernel_rfl, rfl⟩
def p_orset_Set_live : List (Nat × Pl) := [(1, (.fl 0 (.fr 1 (.fl 2 (.fr 3 (.fl 4 (.fr 5 (.fr 6 (.st 7 [] (.fl 8 (.fl 9 .done)))))))))))]
def c_orset_Set_live : VCode :=
 (.seq (.reg [⟨(some 4), none, .box 28 (.t 1)⟩,
   ⟨(some 6), none, .mov (.c (.kb false))⟩])
 (.seq (.draw [⟨(some 7), none, .mov (.t 0)⟩,
   ⟨(some 8), none, .nilck (.t 7)⟩,
   ⟨(some 9), none, .faddr 1 (.t 8)⟩,
   ⟨(some 10), none, .load none (.t 9)⟩,
   ⟨(some 11), none, .mov (.t 2)⟩,
   ⟨(some 12), none, .lookup 133 false (.t 10) (.t 11)⟩,
   ⟨(some 13), none, .load (some 2) (.t 4)⟩,
   ⟨(some 14), none, .call 14 [(.t 12), (.t 13)]⟩,
   ⟨(some 15), none, .un .not (.t 14)⟩,
   ⟨(some 6), none, .mov (.t 15)⟩]
   (.fl 0 (.fr 1 (.fl 2 (.fr 3 (.fl 4 (.fr 5 (.fr 6 (.st 7 [] (.fl 8 (.fl 9 .done)))))))))))
 .ret))
theorem i_orset_Set_live : Is Tryz.prog 91 16 [.t 6] c_orset_Set_live := ⟨Tryz.f91, _, p_orset_Set_live, rfl, rfl, by kernel_rfl, by kernel_rfl, rfl⟩
def p_maps_DeleteFunc_map_string_vec_Vec_string_vec_Vec : List (Nat × Pl) := []
def c_maps_DeleteFunc_map_string_vec_Vec_string_vec_Vec : VCode :=
 (.seq (.reg [⟨(some 6), none, .mov (.t 0)⟩,
   ⟨(some 7), none, .range false (.t 6)⟩])
 (.block 0 (.loop (.seq (.reg [⟨(some 8), none, .next false (.t 7)⟩,
    ⟨(some 9), none, .extr (.t 8) 0⟩])
  (.seq (.cond (.t 9)
   .skip
   (.exit 0))
  (.block 1 (.seq (.reg [⟨(some 10), none, .entry (.t 7)⟩,
    ⟨(some 11), none, .extr (.t 10) 0⟩,
    ⟨(some 12), none, .extr (.t 10) 1⟩,
    ⟨(some 5), none, .new 30 [(.int .i64 0), (.int .i64 0), (.int .i64 0), (.int .i64 0), (.int .i64 0), (.int .i64 0), (.int .i64 0)]⟩,
    ⟨(some 4), none, .mov (.t 11)⟩,
    ⟨none, none, .store (some 7) (.t 5) (.t 12)⟩])
  (.seq (.reg [⟨(some 13), none, .mov (.t 1)⟩,
    ⟨(some 14), none, .mov (.t 4)⟩,
    ⟨(some 15), none, .load (some 7) (.t 5)⟩,
    ⟨(some 16), none, .callv (.t 13) [(.t 14), (.t 15)]⟩])
  (.cond (.t 16)
   (.reg [⟨(some 17), none, .mov (.t 0)⟩,
     ⟨(some 18), none, .mov (.t 4)⟩,
     ⟨none, none, .delete 133 (.t 17) (.t 18)⟩])
   .skip)))))))))
theorem i_maps_DeleteFunc_map_string_vec_Vec_string_vec_Vec : Is Tryz.prog 92 19 [] c_maps_DeleteFunc_map_string_vec_Vec_string_vec_Vec := ⟨Tryz.f92, _, p_maps_DeleteFunc_map_string_vec_Vec_string_vec_Vec, rfl, rfl, by kernel_rfl, by kernel_rfl, rfl⟩
def p_orset_Set_Drop_2 : List (Nat × Pl) := []
def c_orset_Set_Drop_2 : VCode :=
 (.seq (.reg [⟨(some 4), none, .box 30 (.t 1)⟩,
   ⟨(some 5), none, .mov (.c (.kb false))⟩])
 (.seq (.reg [⟨(some 6), none, .load (some 7) (.t 4)⟩,
   ⟨(some 7), none, .load (some 7) (.t 2)⟩,
   ⟨(some 8), none, .call 20 [(.t 6), (.t 7)]⟩,
   ⟨(some 5), none, .mov (.t 8)⟩])
 .ret))
theorem i_orset_Set_Drop_2 : Is Tryz.prog 93 9 [.t 5] c_orset_Set_Drop_2 := ⟨Tryz.f93, _, p_orset_Set_Drop_2, rfl, rfl, by kernel_rfl, by kernel_rfl, rfl⟩
def p_vec_Merge : List (Nat × Pl) := [(4, (.fl 0 (.fl 1 (.fr 2 (.fr 3 (.fl 4 (.fr 5 (.fr 6 (.fl 7 (.fr 8 (.st 9 [] .done)))))))))))]
def c_vec_Merge : VCode :=
 (.seq (.reg [⟨(some 2), none, .box 30 (.t 0)⟩,
   ⟨(some 3), none, .box 30 (.t 1)⟩,
   ⟨(some 4), none, .new 30 [(.int .i64 0), (.int .i64 0), (.int .i64 0), (.int .i64 0), (.int .i64 0), (.int .i64 0), (.int .i64 0)]⟩])
 (.seq (.seq (.reg [⟨(some 6), none, .mov (.c (.raw (.int .i64 0)))⟩])
 (.block 0 (.loop (.seq (.reg [⟨(some 7), none, .bin .lss .no (.t 6) (.c (.raw (.int .i64 7)))⟩])
  (.seq (.cond (.t 7)
   .skip
   (.exit 0))
  (.seq (.block 1 (.seq (.reg [⟨(some 8), none, .mov (.t 6)⟩,
    ⟨(some 5), none, .mov (.t 8)⟩])
  (.draw [⟨(some 9), none, .mov (.t 5)⟩,
    ⟨(some 10), none, .mov (.t 5)⟩,
    ⟨(some 11), none, .iaddr 1 (some 7) (.t 2) (.t 10)⟩,
    ⟨(some 12), none, .load none (.t 11)⟩,
    ⟨(some 13), none, .mov (.t 5)⟩,
    ⟨(some 14), none, .iaddr 1 (some 7) (.t 3) (.t 13)⟩,
    ⟨(some 15), none, .load none (.t 14)⟩,
    ⟨(some 16), none, .max (.t 12) (.t 15)⟩,
    ⟨(some 17), none, .iaddr 1 (some 7) (.t 2) (.t 9)⟩,
    ⟨none, none, .store none (.t 17) (.t 16)⟩]
    (.fl 0 (.fl 1 (.fr 2 (.fr 3 (.fl 4 (.fr 5 (.fr 6 (.fl 7 (.fr 8 (.st 9 [] .done)))))))))))))
  (.reg [⟨(some 18), none, .bin .add .no (.t 6) (.c (.raw (.int .i64 1)))⟩,
    ⟨(some 6), none, .mov (.t 18)⟩])))))))
 (.seq (.reg [⟨(some 19), none, .load (some 7) (.t 2)⟩,
   ⟨none, none, .store (some 7) (.t 4) (.t 19)⟩])
 .ret)))
theorem i_vec_Merge : Is Tryz.prog 114 20 [.cell 4 (some 7)] c_vec_Merge := ⟨Tryz.f114, _, p_vec_Merge, rfl, rfl, by kernel_rfl, by kernel_rfl, rfl⟩
def p_cmp_Compare_int64 : List (Nat × Pl) := []
def c_cmp_Compare_int64 : VCode :=
 (.seq (.reg [⟨(some 4), none, .mov (.c (.raw (.int .i64 0)))⟩])
 (.seq (.reg [⟨(some 7), none, .mov (.t 0)⟩,
   ⟨(some 8), none, .call 146 [(.t 7)]⟩,
   ⟨(some 5), none, .mov (.t 8)⟩])
 (.seq (.reg [⟨(some 9), none, .mov (.t 1)⟩,
   ⟨(some 10), none, .call 146 [(.t 9)]⟩,
   ⟨(some 6), none, .mov (.t 10)⟩])
 (.seq (.seq (.reg [⟨(some 11), none, .mov (.t 5)⟩])
 (.cond (.t 11)
  (.seq (.seq (.reg [⟨(some 12), none, .mov (.t 6)⟩])
  (.cond (.t 12)
   (.seq (.reg [⟨(some 4), none, .mov (.c (.raw (.int .i64 0)))⟩])
   .ret)
   .skip))
  (.seq (.reg [⟨(some 4), none, .mov (.c (.raw (.int .i64 (-1))))⟩])
  .ret))
  .skip))
 (.seq (.seq (.reg [⟨(some 13), none, .mov (.t 6)⟩])
 (.cond (.t 13)
  (.seq (.reg [⟨(some 4), none, .mov (.c (.raw (.int .i64 1)))⟩])
  .ret)
  .skip))
 (.seq (.seq (.reg [⟨(some 14), none, .mov (.t 0)⟩,
   ⟨(some 15), none, .mov (.t 1)⟩,
   ⟨(some 16), none, .bin .lss .no (.t 14) (.t 15)⟩])
 (.cond (.t 16)
  (.seq (.reg [⟨(some 4), none, .mov (.c (.raw (.int .i64 (-1))))⟩])
  .ret)
  .skip))
 (.seq (.seq (.reg [⟨(some 17), none, .mov (.t 0)⟩,
   ⟨(some 18), none, .mov (.t 1)⟩,
   ⟨(some 19), none, .bin .gtr .no (.t 17) (.t 18)⟩])
 (.cond (.t 19)
  (.seq (.reg [⟨(some 4), none, .mov (.c (.raw (.int .i64 1)))⟩])
  .ret)
  .skip))
 (.seq (.reg [⟨(some 4), none, .mov (.c (.raw (.int .i64 0)))⟩])
 .ret))))))))
theorem i_cmp_Compare_int64 : Is Tryz.prog 115 20 [.t 4] c_cmp_Compare_int64 := ⟨Tryz.f115, _, p_cmp_Compare_int64, rfl, rfl, by kernel_rfl, by kernel_rfl, rfl⟩
def p_dots_Order : List (Nat × Pl) := [(1, (.fl 0 (.fr 1 (.fl 2 (.fr 3 (.fl 5 (.fr 6 (.fl 7 (.fr 8 (.st 4 [6, 8] (.st 9 [] (.st 10 [] (.st 11 [] (.fl 12 .done))))))))))))))]
def c_dots_Order : VCode :=
 (.seq (.reg [⟨(some 2), none, .box 28 (.t 0)⟩,
   ⟨(some 3), none, .box 28 (.t 1)⟩,
   ⟨(some 4), none, .mov (.c (.raw (.int .i64 0)))⟩])
 (.seq (.draw [⟨(some 5), none, .faddr 0 (.t 2)⟩,
   ⟨(some 6), none, .load none (.t 5)⟩,
   ⟨(some 7), none, .faddr 0 (.t 3)⟩,
   ⟨(some 8), none, .load none (.t 7)⟩,
   ⟨(some 9), none, .call 147 [(.t 6), (.t 8)]⟩,
   ⟨(some 10), none, .faddr 1 (.t 2)⟩,
   ⟨(some 11), none, .load none (.t 10)⟩,
   ⟨(some 12), none, .faddr 1 (.t 3)⟩,
   ⟨(some 13), none, .load none (.t 12)⟩,
   ⟨(some 14), none, .call 115 [(.t 11), (.t 13)]⟩,
   ⟨(some 15), none, .bslice 3 2 [(.int .i64 0), (.int .i64 0)] [(0, 1, (.t 9)), (1, 1, (.t 14))]⟩,
   ⟨(some 16), none, .call 68 [(.t 15)]⟩,
   ⟨(some 4), none, .mov (.t 16)⟩]
   (.fl 0 (.fr 1 (.fl 2 (.fr 3 (.fl 5 (.fr 6 (.fl 7 (.fr 8 (.st 4 [6, 8] (.st 9 [] (.st 10 [] (.st 11 [] (.fl 12 .done))))))))))))))
 .ret))
theorem i_dots_Order : Is Tryz.prog 116 17 [.t 4] c_dots_Order := ⟨Tryz.f116, _, p_dots_Order, rfl, rfl, by kernel_rfl, by kernel_rfl, rfl⟩
def p_orset_Set_Dots : List (Nat × Pl) := []
def c_orset_Set_Dots : VCode :=
 (.seq (.reg [⟨(some 4), none, .mov (.c (.raw (.slice none 0 0)))⟩])
 (.seq (.reg [⟨(some 5), none, .mov (.c (.raw (.slice none 0 0)))⟩])
 (.seq (.seq (.reg [⟨(some 8), none, .mov (.t 0)⟩,
   ⟨(some 9), none, .nilck (.t 8)⟩,
   ⟨(some 10), none, .faddr 0 (.t 9)⟩,
   ⟨(some 11), none, .load none (.t 10)⟩,
   ⟨(some 12), none, .range false (.t 11)⟩])
 (.block 0 (.loop (.seq (.reg [⟨(some 13), none, .next false (.t 12)⟩,
    ⟨(some 14), none, .extr (.t 13) 0⟩])
  (.seq (.cond (.t 14)
   .skip
   (.exit 0))
  (.block 1 (.seq (.reg [⟨(some 15), none, .entry (.t 12)⟩,
    ⟨(some 16), none, .extr (.t 15) 0⟩,
    ⟨(some 17), none, .extr (.t 15) 1⟩,
    ⟨(some 6), none, .new 28 [(.int .i64 0), (.int .i64 0)]⟩,
    ⟨none, none, .store (some 2) (.t 6) (.t 16)⟩,
    ⟨(some 7), none, .mov (.t 17)⟩])
  (.seq (.reg [⟨(some 18), none, .mov (.t 1)⟩,
    ⟨(some 19), none, .mov (.t 7)⟩,
    ⟨(some 20), none, .bin .eql .no (.t 18) (.t 19)⟩,
    ⟨(some 21), none, .mov (.t 20)⟩,
    ⟨(some 22), (some (21, true)), .mov (.t 0)⟩,
    ⟨(some 23), (some (21, true)), .load (some 2) (.t 6)⟩,
    ⟨(some 24), (some (21, true)), .mov (.t 1)⟩,
    ⟨(some 25), (some (21, true)), .call 91 [(.t 22), (.t 23), (.t 24)]⟩,
    ⟨(some 26), none, .pick (.t 21) (.t 25) (.c (.kb false))⟩])
  (.cond (.t 26)
   (.reg [⟨(some 27), none, .mov (.t 5)⟩,
     ⟨(some 28), none, .load (some 2) (.t 6)⟩,
     ⟨(some 29), none, .bslice 28 1 [(.int .i64 0), (.int .i64 0)] [(0, 2, (.t 28))]⟩,
     ⟨(some 30), none, .append 28 2 16 [(.int .i64 0), (.int .i64 0)] (.t 27) (.t 29)⟩,
     ⟨(some 5), none, .mov (.t 30)⟩])
   .skip)))))))))
 (.seq (.reg [⟨(some 31), none, .mov (.t 5)⟩,
   ⟨(some 32), none, .call 148 [(.t 31), (.c (.fn 116 []))]⟩])
 (.seq (.reg [⟨(some 33), none, .mov (.t 5)⟩,
   ⟨(some 4), none, .mov (.t 33)⟩])
 .ret)))))
theorem i_orset_Set_Dots : Is Tryz.prog 117 34 [.t 4] c_orset_Set_Dots := ⟨Tryz.f117, _, p_orset_Set_Dots, rfl, rfl, by kernel_rfl, by kernel_rfl, rfl⟩
def p_cmp_isNaN_int64 : List (Nat × Pl) := []
def c_cmp_isNaN_int64 : VCode :=
 (.seq (.reg [⟨(some 2), none, .mov (.c (.kb false))⟩])
 (.seq (.reg [⟨(some 3), none, .mov (.t 0)⟩,
   ⟨(some 4), none, .mov (.t 0)⟩,
   ⟨(some 5), none, .bin .neq .no (.t 3) (.t 4)⟩,
   ⟨(some 2), none, .mov (.t 5)⟩])
 .ret))
theorem i_cmp_isNaN_int64 : Is Tryz.prog 146 6 [.t 2] c_cmp_isNaN_int64 := ⟨Tryz.f146, _, p_cmp_isNaN_int64, rfl, rfl, by kernel_rfl, by kernel_rfl, rfl⟩
def p_cmp_Compare_int : List (Nat × Pl) := []
def c_cmp_Compare_int : VCode :=
 (.seq (.reg [⟨(some 4), none, .mov (.c (.raw (.int .i64 0)))⟩])
 (.seq (.reg [⟨(some 7), none, .mov (.t 0)⟩,
   ⟨(some 8), none, .call 173 [(.t 7)]⟩,
   ⟨(some 5), none, .mov (.t 8)⟩])
 (.seq (.reg [⟨(some 9), none, .mov (.t 1)⟩,
   ⟨(some 10), none, .call 173 [(.t 9)]⟩,
   ⟨(some 6), none, .mov (.t 10)⟩])
 (.seq (.seq (.reg [⟨(some 11), none, .mov (.t 5)⟩])
 (.cond (.t 11)
  (.seq (.seq (.reg [⟨(some 12), none, .mov (.t 6)⟩])
  (.cond (.t 12)
   (.seq (.reg [⟨(some 4), none, .mov (.c (.raw (.int .i64 0)))⟩])
   .ret)
   .skip))
  (.seq (.reg [⟨(some 4), none, .mov (.c (.raw (.int .i64 (-1))))⟩])
  .ret))
  .skip))
 (.seq (.seq (.reg [⟨(some 13), none, .mov (.t 6)⟩])
 (.cond (.t 13)
  (.seq (.reg [⟨(some 4), none, .mov (.c (.raw (.int .i64 1)))⟩])
  .ret)
  .skip))
 (.seq (.seq (.reg [⟨(some 14), none, .mov (.t 0)⟩,
   ⟨(some 15), none, .mov (.t 1)⟩,
   ⟨(some 16), none, .bin .lss .no (.t 14) (.t 15)⟩])
 (.cond (.t 16)
  (.seq (.reg [⟨(some 4), none, .mov (.c (.raw (.int .i64 (-1))))⟩])
  .ret)
  .skip))
 (.seq (.seq (.reg [⟨(some 17), none, .mov (.t 0)⟩,
   ⟨(some 18), none, .mov (.t 1)⟩,
   ⟨(some 19), none, .bin .gtr .no (.t 17) (.t 18)⟩])
 (.cond (.t 19)
  (.seq (.reg [⟨(some 4), none, .mov (.c (.raw (.int .i64 1)))⟩])
  .ret)
  .skip))
 (.seq (.reg [⟨(some 4), none, .mov (.c (.raw (.int .i64 0)))⟩])
 .ret))))))))
theorem i_cmp_Compare_int : Is Tryz.prog 147 20 [.t 4] c_cmp_Compare_int := ⟨Tryz.f147, _, p_cmp_Compare_int, rfl, rfl, by kernel_rfl, by kernel_rfl, rfl⟩
def p_cmp_isNaN_int : List (Nat × Pl) := []
def c_cmp_isNaN_int : VCode :=
 (.seq (.reg [⟨(some 2), none, .mov (.c (.kb false))⟩])
 (.seq (.reg [⟨(some 3), none, .mov (.t 0)⟩,
   ⟨(some 4), none, .mov (.t 0)⟩,
   ⟨(some 5), none, .bin .neq .no (.t 3) (.t 4)⟩,
   ⟨(some 2), none, .mov (.t 5)⟩])
 .ret))
theorem i_cmp_isNaN_int : Is Tryz.prog 173 6 [.t 2] c_cmp_isNaN_int := ⟨Tryz.f173, _, p_cmp_isNaN_int, rfl, rfl, by kernel_rfl, by kernel_rfl, rfl⟩
theorem follows : Tryz.prog.follows .mixedOrders = true := by kernel_rfl
end Go.Proofs

