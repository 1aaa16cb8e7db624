/- The seat's functions and types by name, and its functions' code as the framework reads it: printed by a program of the prover's own. -/
import Derived.Test.YtpohkechagmjdaaDoorK24a
namespace Go.Proofs
open Go Go.V
set_option maxRecDepth 1000000
def p_cmp_Or_int : List (Nat × Pl) := []
def c_cmp_Or_int : VCode :=
 (.seq (.reg [⟨(some 2), none, .mov (.c (.raw (.int .i64 0)))⟩])
 (.seq (.reg [⟨(some 3), none, .mov (.c (.raw (.int .i64 0)))⟩])
 (.seq (.seq (.reg [⟨(some 6), none, .mov (.t 0)⟩,
   ⟨(some 7), none, .len .sl (.t 6)⟩,
   ⟨(some 8), none, .mov (.c (.raw (.int .i64 0)))⟩])
 (.block 0 (.loop (.seq (.reg [⟨(some 9), none, .bin .lss .no (.t 8) (.t 7)⟩])
  (.seq (.cond (.t 9)
   .skip
   (.exit 0))
  (.seq (.block 1 (.seq (.reg [⟨(some 10), none, .iaddr 1 none (.t 6) (.t 8)⟩,
    ⟨(some 11), none, .load none (.t 10)⟩,
    ⟨(some 5), none, .mov (.t 11)⟩])
  (.seq (.reg [⟨(some 12), none, .mov (.t 5)⟩,
    ⟨(some 13), none, .mov (.t 3)⟩,
    ⟨(some 14), none, .bin .neq .no (.t 12) (.t 13)⟩])
  (.cond (.t 14)
   (.seq (.reg [⟨(some 15), none, .mov (.t 5)⟩,
     ⟨(some 2), none, .mov (.t 15)⟩])
   .ret)
   .skip))))
  (.reg [⟨(some 16), none, .bin .add .no (.t 8) (.c (.raw (.int .i64 1)))⟩,
    ⟨(some 8), none, .mov (.t 16)⟩])))))))
 (.seq (.reg [⟨(some 17), none, .mov (.t 3)⟩,
   ⟨(some 2), none, .mov (.t 17)⟩])
 .ret))))
theorem i_cmp_Or_int : Is Tryd.prog 56 18 [.t 2] c_cmp_Or_int := ⟨Tryd.f56, _, p_cmp_Or_int, rfl, rfl, by kernel_rfl, by kernel_rfl, rfl⟩
def p_cmp_Compare_int64 : List (Nat × Pl) := []
def c_cmp_Compare_int64 : VCode :=
 (.seq (.reg [⟨(some 4), none, .mov (.c (.raw (.int .i64 0)))⟩])
 (.seq (.reg [⟨(some 7), none, .mov (.t 0)⟩,
   ⟨(some 8), none, .call 72 [(.t 7)]⟩,
   ⟨(some 5), none, .mov (.t 8)⟩])
 (.seq (.reg [⟨(some 9), none, .mov (.t 1)⟩,
   ⟨(some 10), none, .call 72 [(.t 9)]⟩,
   ⟨(some 6), none, .mov (.t 10)⟩])
 (.seq (.seq (.reg [⟨(some 11), none, .mov (.t 5)⟩])
 (.cond (.t 11)
  (.seq (.seq (.reg [⟨(some 12), none, .mov (.t 6)⟩])
  (.cond (.t 12)
   (.seq (.reg [⟨(some 4), none, .mov (.c (.raw (.int .i64 0)))⟩])
   .ret)
   .skip))
  (.seq (.reg [⟨(some 4), none, .mov (.c (.raw (.int .i64 (-1))))⟩])
  .ret))
  .skip))
 (.seq (.seq (.reg [⟨(some 13), none, .mov (.t 6)⟩])
 (.cond (.t 13)
  (.seq (.reg [⟨(some 4), none, .mov (.c (.raw (.int .i64 1)))⟩])
  .ret)
  .skip))
 (.seq (.seq (.reg [⟨(some 14), none, .mov (.t 0)⟩,
   ⟨(some 15), none, .mov (.t 1)⟩,
   ⟨(some 16), none, .bin .lss .no (.t 14) (.t 15)⟩])
 (.cond (.t 16)
  (.seq (.reg [⟨(some 4), none, .mov (.c (.raw (.int .i64 (-1))))⟩])
  .ret)
  .skip))
 (.seq (.seq (.reg [⟨(some 17), none, .mov (.t 0)⟩,
   ⟨(some 18), none, .mov (.t 1)⟩,
   ⟨(some 19), none, .bin .gtr .no (.t 17) (.t 18)⟩])
 (.cond (.t 19)
  (.seq (.reg [⟨(some 4), none, .mov (.c (.raw (.int .i64 1)))⟩])
  .ret)
  .skip))
 (.seq (.reg [⟨(some 4), none, .mov (.c (.raw (.int .i64 0)))⟩])
 .ret))))))))
theorem i_cmp_Compare_int64 : Is Tryd.prog 57 20 [.t 4] c_cmp_Compare_int64 := ⟨Tryd.f57, _, p_cmp_Compare_int64, rfl, rfl, by kernel_rfl, by kernel_rfl, rfl⟩
def p_slices_DeleteFunc_sl_api_Dot_api_Dot : List (Nat × Pl) := []
def c_slices_DeleteFunc_sl_api_Dot_api_Dot : VCode :=
 (.seq (.reg [⟨(some 4), none, .mov (.c (.raw (.slice none 0 0)))⟩])
 (.seq (.reg [⟨(some 8), none, .mov (.t 0)⟩,
   ⟨(some 9), none, .mov (.t 1)⟩,
   ⟨(some 10), none, .call 73 [(.t 8), (.t 9)]⟩,
   ⟨(some 5), none, .mov (.t 10)⟩])
 (.seq (.seq (.reg [⟨(some 11), none, .mov (.t 5)⟩,
   ⟨(some 12), none, .bin .eql .no (.t 11) (.c (.raw (.int .i64 (-1))))⟩])
 (.cond (.t 12)
  (.seq (.reg [⟨(some 13), none, .mov (.t 0)⟩,
    ⟨(some 4), none, .mov (.t 13)⟩])
  .ret)
  .skip))
 (.seq (.seq (.reg [⟨(some 14), none, .mov (.t 5)⟩,
   ⟨(some 15), none, .bin .add .no (.t 14) (.c (.raw (.int .i64 1)))⟩,
   ⟨(some 6), none, .mov (.t 15)⟩])
 (.block 0 (.loop (.seq (.seq (.reg [⟨(some 16), none, .mov (.t 6)⟩,
    ⟨(some 17), none, .mov (.t 0)⟩,
    ⟨(some 18), none, .len .sl (.t 17)⟩,
    ⟨(some 19), none, .bin .lss .no (.t 16) (.t 18)⟩])
  (.cond (.t 19)
   .skip
   (.exit 0)))
  (.seq (.block 1 (.seq (.reg [⟨(some 22), none, .mov (.t 0)⟩,
    ⟨(some 23), none, .mov (.t 6)⟩,
    ⟨(some 24), none, .iaddr 2 none (.t 22) (.t 23)⟩,
    ⟨(some 25), none, .load (some 2) (.t 24)⟩,
    ⟨(some 7), none, .new 28 [(.int .i64 0), (.int .i64 0)]⟩,
    ⟨none, none, .store (some 2) (.t 7) (.t 25)⟩])
  (.seq (.reg [⟨(some 26), none, .mov (.t 1)⟩,
    ⟨(some 27), none, .load (some 2) (.t 7)⟩,
    ⟨(some 28), none, .callv (.t 26) [(.t 27)]⟩,
    ⟨(some 29), none, .un .not (.t 28)⟩])
  (.cond (.t 29)
   (.seq (.reg [⟨(some 30), none, .mov (.t 0)⟩,
     ⟨(some 31), none, .mov (.t 5)⟩,
     ⟨(some 32), none, .load (some 2) (.t 7)⟩,
     ⟨(some 33), none, .iaddr 2 none (.t 30) (.t 31)⟩,
     ⟨none, none, .store (some 2) (.t 33) (.t 32)⟩])
   (.reg [⟨(some 34), none, .mov (.t 5)⟩,
     ⟨(some 35), none, .bin .add .no (.t 34) (.c (.raw (.int .i64 1)))⟩,
     ⟨(some 5), none, .mov (.t 35)⟩]))
   .skip))))
  (.reg [⟨(some 20), none, .mov (.t 6)⟩,
    ⟨(some 21), none, .bin .add .no (.t 20) (.c (.raw (.int .i64 1)))⟩,
    ⟨(some 6), none, .mov (.t 21)⟩]))))))
 (.seq (.reg [⟨(some 36), none, .mov (.t 0)⟩,
   ⟨(some 37), none, .mov (.t 5)⟩,
   ⟨(some 38), none, .slice (some 2) (.t 36) (some (.t 37)) none⟩,
   ⟨none, none, .clear 2 [(.int .i64 0), (.int .i64 0)] (.t 38)⟩])
 (.seq (.reg [⟨(some 39), none, .mov (.t 0)⟩,
   ⟨(some 40), none, .mov (.t 5)⟩,
   ⟨(some 41), none, .slice (some 2) (.t 39) none (some (.t 40))⟩,
   ⟨(some 4), none, .mov (.t 41)⟩])
 .ret))))))
theorem i_slices_DeleteFunc_sl_api_Dot_api_Dot : Is Tryd.prog 58 42 [.t 4] c_slices_DeleteFunc_sl_api_Dot_api_Dot := ⟨Tryd.f58, _, p_slices_DeleteFunc_sl_api_Dot_api_Dot, rfl, rfl, by kernel_rfl, by kernel_rfl, rfl⟩
def p_auct_House_bids_1 : List (Nat × Pl) := []
def c_auct_House_bids_1 : VCode :=
 (.seq (.reg [⟨(some 2), none, .box 28 (.t 0)⟩,
   ⟨(some 3), none, .mov (.c (.kb false))⟩])
 (.seq (.reg [⟨(some 4), none, .load none (.t 1)⟩,
   ⟨(some 5), none, .load (some 2) (.t 2)⟩,
   ⟨(some 6), none, .lookup 102 false (.t 4) (.t 5)⟩,
   ⟨(some 3), none, .mov (.t 6)⟩])
 .ret))
theorem i_auct_House_bids_1 : Is Tryd.prog 59 7 [.t 3] c_auct_House_bids_1 := ⟨Tryd.f59, _, p_auct_House_bids_1, rfl, rfl, by kernel_rfl, by kernel_rfl, rfl⟩
def p_strings_Builder_WriteRune : List (Nat × Pl) := []
def c_strings_Builder_WriteRune : VCode :=
 (.seq (.reg [⟨(some 4), none, .mov (.c (.raw (.int .i64 0)))⟩,
   ⟨(some 5), none, .mov (.c (.raw .nilIface))⟩])
 (.seq (.reg [⟨(some 7), none, .mov (.t 0)⟩,
   ⟨(some 8), none, .call 74 [(.t 7)]⟩])
 (.seq (.reg [⟨(some 9), none, .mov (.t 0)⟩,
   ⟨(some 10), none, .nilck (.t 9)⟩,
   ⟨(some 11), none, .faddr 1 (.t 10)⟩,
   ⟨(some 12), none, .load none (.t 11)⟩,
   ⟨(some 13), none, .len .sl (.t 12)⟩,
   ⟨(some 6), none, .mov (.t 13)⟩])
 (.seq (.reg [⟨(some 14), none, .mov (.t 0)⟩,
   ⟨(some 15), none, .mov (.t 0)⟩,
   ⟨(some 16), none, .nilck (.t 15)⟩,
   ⟨(some 17), none, .faddr 1 (.t 16)⟩,
   ⟨(some 18), none, .load none (.t 17)⟩,
   ⟨(some 19), none, .mov (.t 1)⟩,
   ⟨(some 20), none, .call 75 [(.t 18), (.t 19)]⟩,
   ⟨(some 21), none, .nilck (.t 14)⟩,
   ⟨(some 22), none, .faddr 1 (.t 21)⟩,
   ⟨none, none, .store none (.t 22) (.t 20)⟩])
 (.seq (.reg [⟨(some 23), none, .mov (.t 0)⟩,
   ⟨(some 24), none, .nilck (.t 23)⟩,
   ⟨(some 25), none, .faddr 1 (.t 24)⟩,
   ⟨(some 26), none, .load none (.t 25)⟩,
   ⟨(some 27), none, .len .sl (.t 26)⟩,
   ⟨(some 28), none, .mov (.t 6)⟩,
   ⟨(some 29), none, .bin .sub .no (.t 27) (.t 28)⟩,
   ⟨(some 4), none, .mov (.t 29)⟩,
   ⟨(some 5), none, .mov (.c (.raw .nilIface))⟩])
 .ret)))))
theorem i_strings_Builder_WriteRune : Is Tryd.prog 60 30 [.t 4, .t 5] c_strings_Builder_WriteRune := ⟨Tryd.f60, _, p_strings_Builder_WriteRune, rfl, rfl, by kernel_rfl, by kernel_rfl, rfl⟩
def p_strings_Builder_String : List (Nat × Pl) := []
def c_strings_Builder_String : VCode :=
 (.seq (.reg [⟨(some 2), none, .mov (.c (.raw (.string (ByteArray.mk #[]))))⟩])
 (.seq .bad
 .ret))
theorem i_strings_Builder_String : Is Tryd.prog 61 14 [.t 2] c_strings_Builder_String := ⟨Tryd.f61, _, p_strings_Builder_String, rfl, rfl, by kernel_rfl, by kernel_rfl, rfl⟩
def p_auct_House_ends_1 : List (Nat × Pl) := [(1, (.fr 0 (.fr 1 (.fl 2 (.fr 3 (.fr 4 (.fr 5 (.fl 6 (.fr 7 (.fr 8 (.fr 9 (.fl 10 (.st 11 [0, 1, 3] (.fr 12 (.fl 13 (.fl 14 .done))))))))))))))))]
def c_auct_House_ends_1 : VCode :=
 (.seq (.reg [⟨(some 2), none, .box 28 (.t 0)⟩,
   ⟨(some 3), none, .mov (.c (.kb false))⟩])
 (.seq (.draw [⟨(some 4), none, .load none (.t 1)⟩,
   ⟨(some 5), none, .nilck (.t 4)⟩,
   ⟨(some 6), none, .faddr 9 (.t 5)⟩,
   ⟨(some 7), none, .load none (.t 6)⟩,
   ⟨(some 8), none, .load none (.t 1)⟩,
   ⟨(some 9), none, .nilck (.t 8)⟩,
   ⟨(some 10), none, .faddr 7 (.t 9)⟩,
   ⟨(some 11), none, .load none (.t 10)⟩,
   ⟨(some 12), none, .load (some 2) (.t 2)⟩,
   ⟨(some 13), none, .lookup 66 false (.t 11) (.t 12)⟩,
   ⟨(some 14), none, .field 12 none (.t 13)⟩,
   ⟨(some 15), none, .call 35 [(.t 14)]⟩,
   ⟨(some 16), none, .lookup 67 false (.t 7) (.t 15)⟩,
   ⟨(some 17), none, .un .not (.t 16)⟩,
   ⟨(some 3), none, .mov (.t 17)⟩]
   (.fr 0 (.fr 1 (.fl 2 (.fr 3 (.fr 4 (.fr 5 (.fl 6 (.fr 7 (.fr 8 (.fr 9 (.fl 10 (.st 11 [0, 1, 3] (.fr 12 (.fl 13 (.fl 14 .done))))))))))))))))
 .ret))
theorem i_auct_House_ends_1 : Is Tryd.prog 62 18 [.t 3] c_auct_House_ends_1 := ⟨Tryd.f62, _, p_auct_House_ends_1, rfl, rfl, by kernel_rfl, by kernel_rfl, rfl⟩
def p_name_Good : List (Nat × Pl) := []
def c_name_Good : VCode :=
 (.seq (.reg [⟨(some 2), none, .mov (.c (.kb false))⟩])
 (.seq (.reg [⟨(some 3), none, .mov (.c (.raw (.int .i64 0)))⟩])
 (.seq (.seq (.reg [⟨(some 6), none, .mov (.t 0)⟩,
   ⟨(some 7), none, .range true (.t 6)⟩])
 (.block 0 (.loop (.seq (.reg [⟨(some 8), none, .next true (.t 7)⟩,
    ⟨(some 9), none, .extr (.t 8) 0⟩])
  (.seq (.cond (.t 9)
   .skip
   (.exit 0))
  (.block 1 (.seq (.reg [⟨(some 10), none, .extr (.t 8) 1⟩,
    ⟨(some 11), none, .extr (.t 8) 2⟩,
    ⟨(some 4), none, .mov (.t 10)⟩,
    ⟨(some 5), none, .mov (.t 11)⟩])
  (.seq (.seq (.reg [⟨(some 12), none, .mov (.t 5)⟩,
    ⟨(some 13), none, .mov (.t 4)⟩,
    ⟨(some 14), none, .bin .eql .no (.t 13) (.c (.raw (.int .i64 0)))⟩,
    ⟨(some 15), none, .call 76 [(.t 12), (.t 14)]⟩,
    ⟨(some 16), none, .un .not (.t 15)⟩])
  (.cond (.t 16)
   (.seq (.reg [⟨(some 2), none, .mov (.c (.kb false))⟩])
   .ret)
   .skip))
  (.reg [⟨(some 17), none, .mov (.t 3)⟩,
    ⟨(some 18), none, .bin .add .no (.t 17) (.c (.raw (.int .i64 1)))⟩,
    ⟨(some 3), none, .mov (.t 18)⟩])))))))))
 (.seq (.reg [⟨(some 19), none, .mov (.t 3)⟩,
   ⟨(some 20), none, .bin .geq .no (.t 19) (.c (.raw (.int .i64 1)))⟩,
   ⟨(some 21), none, .mov (.t 20)⟩,
   ⟨(some 22), (some (21, true)), .mov (.t 3)⟩,
   ⟨(some 23), (some (21, true)), .bin .leq .no (.t 22) (.c (.raw (.int .i64 20)))⟩,
   ⟨(some 24), none, .pick (.t 21) (.t 23) (.c (.kb false))⟩,
   ⟨(some 2), none, .mov (.t 24)⟩])
 .ret))))
theorem i_name_Good : Is Tryd.prog 63 25 [.t 2] c_name_Good := ⟨Tryd.f63, _, p_name_Good, rfl, rfl, by kernel_rfl, by kernel_rfl, rfl⟩
def p_pack_Num : List (Nat × Pl) := []
def c_pack_Num : VCode :=
 (.seq (.reg [⟨(some 4), none, .mov (.c (.raw (.slice none 0 0)))⟩])
 (.seq (.reg [⟨(some 7), none, .mov (.t 0)⟩,
   ⟨(some 8), none, .call 77 [(.t 7)]⟩,
   ⟨(some 5), none, .mov (.t 8)⟩])
 (.seq (.reg [⟨(some 9), none, .mov (.t 1)⟩,
   ⟨(some 10), none, .conv (.int .u64) (.t 9)⟩,
   ⟨(some 11), none, .bin .shl .no (.t 10) (.c (.raw (.int .u64 1)))⟩,
   ⟨(some 12), none, .mov (.t 1)⟩,
   ⟨(some 13), none, .bin .shr .no (.t 12) (.c (.raw (.int .u64 63)))⟩,
   ⟨(some 14), none, .conv (.int .u64) (.t 13)⟩,
   ⟨(some 15), none, .bin .xor .no (.t 11) (.t 14)⟩,
   ⟨(some 6), none, .mov (.t 15)⟩])
 (.seq (.block 0 (.loop (.seq (.seq (.reg [⟨(some 16), none, .mov (.t 6)⟩,
    ⟨(some 17), none, .bin .geq .no (.t 16) (.c (.raw (.int .u64 128)))⟩])
  (.cond (.t 17)
   .skip
   (.exit 0)))
  (.seq (.block 1 (.reg [⟨(some 20), none, .mov (.t 5)⟩,
    ⟨(some 21), none, .mov (.t 6)⟩,
    ⟨(some 22), none, .conv (.int .u8) (.t 21)⟩,
    ⟨(some 23), none, .bin .or .no (.t 22) (.c (.raw (.int .u8 128)))⟩,
    ⟨(some 24), none, .bslice 5 1 [(.int .u8 0)] [(0, 1, (.t 23))]⟩,
    ⟨(some 25), none, .append 5 1 1 [(.int .u8 0)] (.t 20) (.t 24)⟩,
    ⟨(some 5), none, .mov (.t 25)⟩]))
  (.reg [⟨(some 18), none, .mov (.t 6)⟩,
    ⟨(some 19), none, .bin .shr .no (.t 18) (.c (.raw (.int .u64 7)))⟩,
    ⟨(some 6), none, .mov (.t 19)⟩])))))
 (.seq (.reg [⟨(some 26), none, .mov (.t 5)⟩,
   ⟨(some 27), none, .mov (.t 6)⟩,
   ⟨(some 28), none, .conv (.int .u8) (.t 27)⟩,
   ⟨(some 29), none, .bslice 5 1 [(.int .u8 0)] [(0, 1, (.t 28))]⟩,
   ⟨(some 30), none, .append 5 1 1 [(.int .u8 0)] (.t 26) (.t 29)⟩,
   ⟨(some 4), none, .mov (.t 30)⟩])
 .ret)))))
theorem i_pack_Num : Is Tryd.prog 64 31 [.t 4] c_pack_Num := ⟨Tryd.f64, _, p_pack_Num, rfl, rfl, by kernel_rfl, by kernel_rfl, rfl⟩
def p_auct_put : List (Nat × Pl) := [(1, (.fl 0 (.fl 1 (.fr 2 (.fl 4 (.fl 5 (.fr 6 (.fl 8 (.fl 9 (.fr 10 (.st 3 [6, 10] (.st 7 [10] (.st 11 [] (.fl 12 .done)))))))))))))), (2, (.fl 0 (.fl 1 (.fr 2 (.fl 4 (.fr 5 (.st 3 [5] (.st 6 [] (.fl 7 .done))))))))), (3, (.fl 0 (.fl 1 (.fr 2 (.fl 4 (.fr 5 (.st 3 [5] (.st 6 [] (.fl 7 .done))))))))), (7, (.fl 0 (.fl 1 (.fr 2 (.fl 4 (.fr 5 (.st 3 [5] (.st 6 [] (.fl 7 .done))))))))), (9, (.fl 0 (.fl 1 (.fr 2 (.fl 4 (.fr 5 (.st 3 [5] (.st 6 [] (.fl 7 .done)))))))))]
def c_auct_put : VCode :=
 (.seq (.reg [⟨(some 3), none, .box 34 (.t 1)⟩,
   ⟨(some 4), none, .mov (.c (.raw (.slice none 0 0)))⟩])
 (.seq (.draw [⟨(some 7), none, .mov (.t 0)⟩,
   ⟨(some 8), none, .faddr 0 (.t 3)⟩,
   ⟨(some 9), none, .load none (.t 8)⟩,
   ⟨(some 10), none, .call 64 [(.t 7), (.t 9)]⟩,
   ⟨(some 11), none, .faddr 1 (.t 3)⟩,
   ⟨(some 12), none, .faddr 0 (.t 11)⟩,
   ⟨(some 13), none, .load none (.t 12)⟩,
   ⟨(some 14), none, .call 64 [(.t 10), (.t 13)]⟩,
   ⟨(some 15), none, .faddr 1 (.t 3)⟩,
   ⟨(some 16), none, .faddr 1 (.t 15)⟩,
   ⟨(some 17), none, .load none (.t 16)⟩,
   ⟨(some 18), none, .call 64 [(.t 14), (.t 17)]⟩,
   ⟨(some 0), none, .mov (.t 18)⟩]
   (.fl 0 (.fl 1 (.fr 2 (.fl 4 (.fl 5 (.fr 6 (.fl 8 (.fl 9 (.fr 10 (.st 3 [6, 10] (.st 7 [10] (.st 11 [] (.fl 12 .done))))))))))))))
 (.seq (.draw [⟨(some 19), none, .mov (.t 0)⟩,
   ⟨(some 20), none, .faddr 3 (.t 3)⟩,
   ⟨(some 21), none, .load (some 7) (.t 20)⟩,
   ⟨(some 22), none, .call 78 [(.t 19), (.t 21)]⟩,
   ⟨(some 23), none, .faddr 10 (.t 3)⟩,
   ⟨(some 24), none, .load none (.t 23)⟩,
   ⟨(some 25), none, .call 64 [(.t 22), (.t 24)]⟩,
   ⟨(some 0), none, .mov (.t 25)⟩]
   (.fl 0 (.fl 1 (.fr 2 (.fl 4 (.fr 5 (.st 3 [5] (.st 6 [] (.fl 7 .done)))))))))
 (.seq (.draw [⟨(some 26), none, .mov (.t 0)⟩,
   ⟨(some 27), none, .faddr 11 (.t 3)⟩,
   ⟨(some 28), none, .load none (.t 27)⟩,
   ⟨(some 29), none, .call 79 [(.t 26), (.t 28)]⟩,
   ⟨(some 30), none, .faddr 12 (.t 3)⟩,
   ⟨(some 31), none, .load none (.t 30)⟩,
   ⟨(some 32), none, .call 79 [(.t 29), (.t 31)]⟩,
   ⟨(some 0), none, .mov (.t 32)⟩]
   (.fl 0 (.fl 1 (.fr 2 (.fl 4 (.fr 5 (.st 3 [5] (.st 6 [] (.fl 7 .done)))))))))
 (.seq (.seq (.reg [⟨(some 33), none, .faddr 13 (.t 3)⟩,
   ⟨(some 34), none, .load (some 2) (.t 33)⟩,
   ⟨(some 35), none, .faddr 15 (.t 3)⟩,
   ⟨(some 36), none, .load (some 2) (.t 35)⟩,
   ⟨(some 37), none, .bslice 28 2 [(.int .i64 0), (.int .i64 0), (.int .i64 0), (.int .i64 0)] [(0, 2, (.t 34)), (2, 2, (.t 36))]⟩,
   ⟨(some 38), none, .len .sl (.t 37)⟩,
   ⟨(some 39), none, .mov (.c (.raw (.int .i64 0)))⟩])
 (.block 0 (.loop (.seq (.reg [⟨(some 40), none, .bin .lss .no (.t 39) (.t 38)⟩])
  (.seq (.cond (.t 40)
   .skip
   (.exit 0))
  (.seq (.block 1 (.seq (.reg [⟨(some 41), none, .iaddr 2 none (.t 37) (.t 39)⟩,
    ⟨(some 42), none, .load (some 2) (.t 41)⟩,
    ⟨(some 6), none, .new 28 [(.int .i64 0), (.int .i64 0)]⟩,
    ⟨none, none, .store (some 2) (.t 6) (.t 42)⟩])
  (.draw [⟨(some 43), none, .mov (.t 0)⟩,
    ⟨(some 44), none, .faddr 0 (.t 6)⟩,
    ⟨(some 45), none, .load none (.t 44)⟩,
    ⟨(some 46), none, .call 64 [(.t 43), (.t 45)]⟩,
    ⟨(some 47), none, .faddr 1 (.t 6)⟩,
    ⟨(some 48), none, .load none (.t 47)⟩,
    ⟨(some 49), none, .call 64 [(.t 46), (.t 48)]⟩,
    ⟨(some 0), none, .mov (.t 49)⟩]
    (.fl 0 (.fl 1 (.fr 2 (.fl 4 (.fr 5 (.st 3 [5] (.st 6 [] (.fl 7 .done)))))))))))
  (.reg [⟨(some 50), none, .bin .add .no (.t 39) (.c (.raw (.int .i64 1)))⟩,
    ⟨(some 39), none, .mov (.t 50)⟩])))))))
 (.seq (.draw [⟨(some 51), none, .mov (.t 0)⟩,
   ⟨(some 52), none, .faddr 17 (.t 3)⟩,
   ⟨(some 53), none, .load none (.t 52)⟩,
   ⟨(some 54), none, .call 64 [(.t 51), (.t 53)]⟩,
   ⟨(some 55), none, .faddr 18 (.t 3)⟩,
   ⟨(some 56), none, .load none (.t 55)⟩,
   ⟨(some 57), none, .call 64 [(.t 54), (.t 56)]⟩,
   ⟨(some 4), none, .mov (.t 57)⟩]
   (.fl 0 (.fl 1 (.fr 2 (.fl 4 (.fr 5 (.st 3 [5] (.st 6 [] (.fl 7 .done)))))))))
 .ret))))))
theorem i_auct_put : Is Tryd.prog 65 58 [.t 4] c_auct_put := ⟨Tryd.f65, _, p_auct_put, rfl, rfl, by kernel_rfl, by kernel_rfl, rfl⟩
def p_unicode_isExcludingLatin : List (Nat × Pl) := []
def c_unicode_isExcludingLatin : VCode :=
 (.seq (.reg [⟨(some 4), none, .mov (.c (.kb false))⟩])
 (.seq (.reg [⟨(some 8), none, .mov (.t 0)⟩,
   ⟨(some 9), none, .nilck (.t 8)⟩,
   ⟨(some 10), none, .faddr 0 (.t 9)⟩,
   ⟨(some 11), none, .load none (.t 10)⟩,
   ⟨(some 5), none, .mov (.t 11)⟩])
 (.seq (.seq (.reg [⟨(some 12), none, .mov (.t 0)⟩,
   ⟨(some 13), none, .nilck (.t 12)⟩,
   ⟨(some 14), none, .faddr 2 (.t 13)⟩,
   ⟨(some 15), none, .load none (.t 14)⟩,
   ⟨(some 6), none, .mov (.t 15)⟩])
 (.seq (.reg [⟨(some 16), none, .mov (.t 5)⟩,
   ⟨(some 17), none, .len .sl (.t 16)⟩,
   ⟨(some 18), none, .mov (.t 6)⟩,
   ⟨(some 19), none, .bin .gtr .no (.t 17) (.t 18)⟩,
   ⟨(some 20), none, .mov (.t 19)⟩,
   ⟨(some 21), (some (20, true)), .mov (.t 1)⟩,
   ⟨(some 22), (some (20, true)), .conv (.int .u32) (.t 21)⟩,
   ⟨(some 23), (some (20, true)), .mov (.t 5)⟩,
   ⟨(some 24), (some (20, true)), .mov (.t 5)⟩,
   ⟨(some 25), (some (20, true)), .len .sl (.t 24)⟩,
   ⟨(some 26), (some (20, true)), .bin .sub .no (.t 25) (.c (.raw (.int .i64 1)))⟩,
   ⟨(some 27), (some (20, true)), .iaddr 3 none (.t 23) (.t 26)⟩,
   ⟨(some 28), (some (20, true)), .faddr 1 (.t 27)⟩,
   ⟨(some 29), (some (20, true)), .load none (.t 28)⟩,
   ⟨(some 30), (some (20, true)), .conv (.int .u32) (.t 29)⟩,
   ⟨(some 31), (some (20, true)), .bin .leq .no (.t 22) (.t 30)⟩,
   ⟨(some 32), none, .pick (.t 20) (.t 31) (.c (.kb false))⟩])
 (.cond (.t 32)
  (.seq (.reg [⟨(some 33), none, .mov (.t 5)⟩,
    ⟨(some 34), none, .mov (.t 6)⟩,
    ⟨(some 35), none, .slice (some 3) (.t 33) (some (.t 34)) none⟩,
    ⟨(some 36), none, .mov (.t 1)⟩,
    ⟨(some 37), none, .conv (.int .u16) (.t 36)⟩,
    ⟨(some 38), none, .call 80 [(.t 35), (.t 37)]⟩,
    ⟨(some 4), none, .mov (.t 38)⟩])
  .ret)
  .skip)))
 (.seq (.reg [⟨(some 39), none, .mov (.t 0)⟩,
   ⟨(some 40), none, .nilck (.t 39)⟩,
   ⟨(some 41), none, .faddr 1 (.t 40)⟩,
   ⟨(some 42), none, .load none (.t 41)⟩,
   ⟨(some 7), none, .mov (.t 42)⟩])
 (.seq (.seq (.reg [⟨(some 43), none, .mov (.t 7)⟩,
   ⟨(some 44), none, .len .sl (.t 43)⟩,
   ⟨(some 45), none, .bin .gtr .no (.t 44) (.c (.raw (.int .i64 0)))⟩,
   ⟨(some 46), none, .mov (.t 45)⟩,
   ⟨(some 47), (some (46, true)), .mov (.t 1)⟩,
   ⟨(some 48), (some (46, true)), .mov (.t 7)⟩,
   ⟨(some 49), (some (46, true)), .iaddr 3 none (.t 48) (.c (.raw (.int .i64 0)))⟩,
   ⟨(some 50), (some (46, true)), .faddr 0 (.t 49)⟩,
   ⟨(some 51), (some (46, true)), .load none (.t 50)⟩,
   ⟨(some 52), (some (46, true)), .conv (.int .i32) (.t 51)⟩,
   ⟨(some 53), (some (46, true)), .bin .geq .no (.t 47) (.t 52)⟩,
   ⟨(some 54), none, .pick (.t 46) (.t 53) (.c (.kb false))⟩])
 (.cond (.t 54)
  (.seq (.reg [⟨(some 55), none, .mov (.t 7)⟩,
    ⟨(some 56), none, .mov (.t 1)⟩,
    ⟨(some 57), none, .conv (.int .u32) (.t 56)⟩,
    ⟨(some 58), none, .call 81 [(.t 55), (.t 57)]⟩,
    ⟨(some 4), none, .mov (.t 58)⟩])
  .ret)
  .skip))
 (.seq (.reg [⟨(some 4), none, .mov (.c (.kb false))⟩])
 .ret))))))
theorem i_unicode_isExcludingLatin : Is Tryd.prog 66 59 [.t 4] c_unicode_isExcludingLatin := ⟨Tryd.f66, _, p_unicode_isExcludingLatin, rfl, rfl, by kernel_rfl, by kernel_rfl, rfl⟩
def p_unicode_To : List (Nat × Pl) := []
def c_unicode_To : VCode :=
 (.seq (.reg [⟨(some 4), none, .mov (.c (.raw (.int .i32 0)))⟩])
 (.seq .bad
 (.seq (.reg [⟨(some 12), none, .mov (.t 1)⟩,
   ⟨(some 4), none, .mov (.t 12)⟩])
 .ret)))
theorem i_unicode_To : Is Tryd.prog 67 13 [.t 4] c_unicode_To := ⟨Tryd.f67, _, p_unicode_To, rfl, rfl, by kernel_rfl, by kernel_rfl, rfl⟩
def p_slices_pdqsortOrdered_string : List (Nat × Pl) := [(17, (.fl 0 (.fl 1 (.fl 2 (.fl 3 (.fl 4 (.fl 5 (.fr 6 (.fr 7 (.fl 8 (.fl 9 (.fr 10 (.fr 11 (.st 12 [] (.fl 13 (.fl 14 .done))))))))))))))))]
def c_slices_pdqsortOrdered_string : VCode :=
 (.seq (.reg [⟨(some 8), none, .mov (.c (.kb true))⟩])
 (.seq (.reg [⟨(some 9), none, .mov (.c (.kb true))⟩])
 (.block 0 (.loop (.block 1 (.seq (.reg [⟨(some 19), none, .mov (.t 2)⟩,
    ⟨(some 20), none, .mov (.t 1)⟩,
    ⟨(some 21), none, .bin .sub .no (.t 19) (.t 20)⟩,
    ⟨(some 10), none, .mov (.t 21)⟩])
  (.seq (.seq (.reg [⟨(some 22), none, .mov (.t 10)⟩,
    ⟨(some 23), none, .bin .leq .no (.t 22) (.c (.raw (.int .i64 12)))⟩])
  (.cond (.t 23)
   (.seq (.reg [⟨(some 24), none, .mov (.t 0)⟩,
     ⟨(some 25), none, .mov (.t 1)⟩,
     ⟨(some 26), none, .mov (.t 2)⟩,
     ⟨(some 27), none, .call 83 [(.t 24), (.t 25), (.t 26)]⟩])
   .ret)
   .skip))
  (.seq (.seq (.reg [⟨(some 28), none, .mov (.t 3)⟩,
    ⟨(some 29), none, .bin .eql .no (.t 28) (.c (.raw (.int .i64 0)))⟩])
  (.cond (.t 29)
   (.seq (.reg [⟨(some 30), none, .mov (.t 0)⟩,
     ⟨(some 31), none, .mov (.t 1)⟩,
     ⟨(some 32), none, .mov (.t 2)⟩,
     ⟨(some 33), none, .call 84 [(.t 30), (.t 31), (.t 32)]⟩])
   .ret)
   .skip))
  (.seq (.seq (.reg [⟨(some 34), none, .mov (.t 8)⟩,
    ⟨(some 35), none, .un .not (.t 34)⟩])
  (.cond (.t 35)
   (.seq (.reg [⟨(some 36), none, .mov (.t 0)⟩,
     ⟨(some 37), none, .mov (.t 1)⟩,
     ⟨(some 38), none, .mov (.t 2)⟩,
     ⟨(some 39), none, .call 85 [(.t 36), (.t 37), (.t 38)]⟩])
   (.reg [⟨(some 40), none, .mov (.t 3)⟩,
     ⟨(some 41), none, .bin .sub .no (.t 40) (.c (.raw (.int .i64 1)))⟩,
     ⟨(some 3), none, .mov (.t 41)⟩]))
   .skip))
  (.seq (.reg [⟨(some 43), none, .mov (.t 0)⟩,
    ⟨(some 44), none, .mov (.t 1)⟩,
    ⟨(some 45), none, .mov (.t 2)⟩,
    ⟨(some 46), none, .call 86 [(.t 43), (.t 44), (.t 45)]⟩,
    ⟨(some 42), none, .mov (.t 46)⟩,
    ⟨(some 47), none, .extr (.t 42) 0⟩,
    ⟨(some 48), none, .extr (.t 42) 1⟩,
    ⟨(some 11), none, .mov (.t 47)⟩,
    ⟨(some 12), none, .mov (.t 48)⟩])
  (.seq (.seq (.reg [⟨(some 49), none, .mov (.t 12)⟩,
    ⟨(some 50), none, .bin .eql .no (.t 49) (.c (.raw (.int .i64 2)))⟩])
  (.cond (.t 50)
   (.seq (.reg [⟨(some 51), none, .mov (.t 0)⟩,
     ⟨(some 52), none, .mov (.t 1)⟩,
     ⟨(some 53), none, .mov (.t 2)⟩,
     ⟨(some 54), none, .call 87 [(.t 51), (.t 52), (.t 53)]⟩])
   (.seq (.reg [⟨(some 55), none, .mov (.t 2)⟩,
     ⟨(some 56), none, .bin .sub .no (.t 55) (.c (.raw (.int .i64 1)))⟩,
     ⟨(some 57), none, .mov (.t 11)⟩,
     ⟨(some 58), none, .mov (.t 1)⟩,
     ⟨(some 59), none, .bin .sub .no (.t 57) (.t 58)⟩,
     ⟨(some 60), none, .bin .sub .no (.t 56) (.t 59)⟩,
     ⟨(some 11), none, .mov (.t 60)⟩])
   (.reg [⟨(some 12), none, .mov (.c (.raw (.int .i64 1)))⟩])))
   .skip))
  (.seq (.seq (.reg [⟨(some 61), none, .mov (.t 8)⟩,
    ⟨(some 62), none, .mov (.t 61)⟩,
    ⟨(some 63), (some (62, true)), .mov (.t 9)⟩,
    ⟨(some 64), none, .pick (.t 62) (.t 63) (.c (.kb false))⟩,
    ⟨(some 65), none, .mov (.t 64)⟩,
    ⟨(some 66), (some (65, true)), .mov (.t 12)⟩,
    ⟨(some 67), (some (65, true)), .bin .eql .no (.t 66) (.c (.raw (.int .i64 1)))⟩,
    ⟨(some 68), none, .pick (.t 65) (.t 67) (.c (.kb false))⟩])
  (.cond (.t 68)
   (.seq (.reg [⟨(some 69), none, .mov (.t 0)⟩,
     ⟨(some 70), none, .mov (.t 1)⟩,
     ⟨(some 71), none, .mov (.t 2)⟩,
     ⟨(some 72), none, .call 88 [(.t 69), (.t 70), (.t 71)]⟩])
   (.cond (.t 72)
    .ret
    .skip))
   .skip))
  (.seq (.seq (.draw [⟨(some 73), none, .mov (.t 1)⟩,
    ⟨(some 74), none, .bin .gtr .no (.t 73) (.c (.raw (.int .i64 0)))⟩,
    ⟨(some 75), none, .mov (.t 74)⟩,
    ⟨(some 76), (some (75, true)), .mov (.t 0)⟩,
    ⟨(some 77), (some (75, true)), .mov (.t 1)⟩,
    ⟨(some 78), (some (75, true)), .bin .sub .no (.t 77) (.c (.raw (.int .i64 1)))⟩,
    ⟨(some 79), (some (75, true)), .iaddr 1 none (.t 76) (.t 78)⟩,
    ⟨(some 80), (some (75, true)), .load none (.t 79)⟩,
    ⟨(some 81), (some (75, true)), .mov (.t 0)⟩,
    ⟨(some 82), (some (75, true)), .mov (.t 11)⟩,
    ⟨(some 83), (some (75, true)), .iaddr 1 none (.t 81) (.t 82)⟩,
    ⟨(some 84), (some (75, true)), .load none (.t 83)⟩,
    ⟨(some 85), (some (75, true)), .call 89 [(.t 80), (.t 84)]⟩,
    ⟨(some 86), (some (75, true)), .un .not (.t 85)⟩,
    ⟨(some 87), none, .pick (.t 75) (.t 86) (.c (.kb false))⟩]
    (.fl 0 (.fl 1 (.fl 2 (.fl 3 (.fl 4 (.fl 5 (.fr 6 (.fr 7 (.fl 8 (.fl 9 (.fr 10 (.fr 11 (.st 12 [] (.fl 13 (.fl 14 .done))))))))))))))))
  (.cond (.t 87)
   (.seq (.reg [⟨(some 88), none, .mov (.t 0)⟩,
     ⟨(some 89), none, .mov (.t 1)⟩,
     ⟨(some 90), none, .mov (.t 2)⟩,
     ⟨(some 91), none, .mov (.t 11)⟩,
     ⟨(some 92), none, .call 90 [(.t 88), (.t 89), (.t 90), (.t 91)]⟩,
     ⟨(some 13), none, .mov (.t 92)⟩])
   (.seq (.reg [⟨(some 93), none, .mov (.t 13)⟩,
     ⟨(some 1), none, .mov (.t 93)⟩])
   (.exit 1)))
   .skip))
  (.seq (.reg [⟨(some 95), none, .mov (.t 0)⟩,
    ⟨(some 96), none, .mov (.t 1)⟩,
    ⟨(some 97), none, .mov (.t 2)⟩,
    ⟨(some 98), none, .mov (.t 11)⟩,
    ⟨(some 99), none, .call 91 [(.t 95), (.t 96), (.t 97), (.t 98)]⟩,
    ⟨(some 94), none, .mov (.t 99)⟩,
    ⟨(some 100), none, .extr (.t 94) 0⟩,
    ⟨(some 101), none, .extr (.t 94) 1⟩,
    ⟨(some 14), none, .mov (.t 100)⟩,
    ⟨(some 15), none, .mov (.t 101)⟩])
  (.seq (.reg [⟨(some 102), none, .mov (.t 15)⟩,
    ⟨(some 9), none, .mov (.t 102)⟩])
  (.seq (.reg [⟨(some 103), none, .mov (.t 14)⟩,
    ⟨(some 104), none, .mov (.t 1)⟩,
    ⟨(some 105), none, .bin .sub .no (.t 103) (.t 104)⟩,
    ⟨(some 106), none, .mov (.t 2)⟩,
    ⟨(some 107), none, .mov (.t 14)⟩,
    ⟨(some 108), none, .bin .sub .no (.t 106) (.t 107)⟩,
    ⟨(some 16), none, .mov (.t 105)⟩,
    ⟨(some 17), none, .mov (.t 108)⟩])
  (.seq (.reg [⟨(some 109), none, .mov (.t 10)⟩,
    ⟨(some 110), none, .bin .quo .no (.t 109) (.c (.raw (.int .i64 8)))⟩,
    ⟨(some 18), none, .mov (.t 110)⟩])
  (.seq (.reg [⟨(some 111), none, .mov (.t 16)⟩,
    ⟨(some 112), none, .mov (.t 17)⟩,
    ⟨(some 113), none, .bin .lss .no (.t 111) (.t 112)⟩])
  (.cond (.t 113)
   (.seq (.reg [⟨(some 114), none, .mov (.t 16)⟩,
     ⟨(some 115), none, .mov (.t 18)⟩,
     ⟨(some 116), none, .bin .geq .no (.t 114) (.t 115)⟩,
     ⟨(some 8), none, .mov (.t 116)⟩])
   (.seq (.reg [⟨(some 117), none, .mov (.t 0)⟩,
     ⟨(some 118), none, .mov (.t 1)⟩,
     ⟨(some 119), none, .mov (.t 14)⟩,
     ⟨(some 120), none, .mov (.t 3)⟩,
     ⟨(some 121), none, .call 68 [(.t 117), (.t 118), (.t 119), (.t 120)]⟩])
   (.reg [⟨(some 122), none, .mov (.t 14)⟩,
     ⟨(some 123), none, .bin .add .no (.t 122) (.c (.raw (.int .i64 1)))⟩,
     ⟨(some 1), none, .mov (.t 123)⟩])))
   (.seq (.reg [⟨(some 124), none, .mov (.t 17)⟩,
     ⟨(some 125), none, .mov (.t 18)⟩,
     ⟨(some 126), none, .bin .geq .no (.t 124) (.t 125)⟩,
     ⟨(some 8), none, .mov (.t 126)⟩])
   (.seq (.reg [⟨(some 127), none, .mov (.t 0)⟩,
     ⟨(some 128), none, .mov (.t 14)⟩,
     ⟨(some 129), none, .bin .add .no (.t 128) (.c (.raw (.int .i64 1)))⟩,
     ⟨(some 130), none, .mov (.t 2)⟩,
     ⟨(some 131), none, .mov (.t 3)⟩,
     ⟨(some 132), none, .call 68 [(.t 127), (.t 129), (.t 130), (.t 131)]⟩])
   (.reg [⟨(some 133), none, .mov (.t 14)⟩,
     ⟨(some 2), none, .mov (.t 133)⟩]))))))))))))))))))))))
theorem i_slices_pdqsortOrdered_string : Is Tryd.prog 68 134 [] c_slices_pdqsortOrdered_string := ⟨Tryd.f68, _, p_slices_pdqsortOrdered_string, rfl, rfl, by kernel_rfl, by kernel_rfl, rfl⟩
def p_math_bits_Len : List (Nat × Pl) := []
def c_math_bits_Len : VCode :=
 (.seq (.reg [⟨(some 2), none, .mov (.c (.raw (.int .i64 0)))⟩])
 (.seq (.cond (.c (.kb false))
  (.seq (.reg [⟨(some 3), none, .mov (.t 0)⟩,
    ⟨(some 4), none, .conv (.int .u32) (.t 3)⟩,
    ⟨(some 5), none, .call 92 [(.t 4)]⟩,
    ⟨(some 2), none, .mov (.t 5)⟩])
  .ret)
  .skip)
 (.seq (.reg [⟨(some 6), none, .mov (.t 0)⟩,
   ⟨(some 7), none, .call 93 [(.t 6)]⟩,
   ⟨(some 2), none, .mov (.t 7)⟩])
 .ret)))
theorem i_math_bits_Len : Is Tryd.prog 69 8 [.t 2] c_math_bits_Len := ⟨Tryd.f69, _, p_math_bits_Len, rfl, rfl, by kernel_rfl, by kernel_rfl, rfl⟩
def p_slices_pdqsortCmpFunc_api_Dot : List (Nat × Pl) := [(17, (.fl 0 (.fl 1 (.fl 2 (.fl 3 (.fl 4 (.fl 5 (.fl 6 (.fr 7 (.fr 8 (.fl 9 (.fl 10 (.fr 11 (.fr 12 (.st 13 [] (.fl 14 (.fl 15 (.fl 16 .done))))))))))))))))))]
def c_slices_pdqsortCmpFunc_api_Dot : VCode :=
 (.seq (.reg [⟨(some 10), none, .mov (.c (.kb true))⟩])
 (.seq (.reg [⟨(some 11), none, .mov (.c (.kb true))⟩])
 (.block 0 (.loop (.block 1 (.seq (.reg [⟨(some 21), none, .mov (.t 2)⟩,
    ⟨(some 22), none, .mov (.t 1)⟩,
    ⟨(some 23), none, .bin .sub .no (.t 21) (.t 22)⟩,
    ⟨(some 12), none, .mov (.t 23)⟩])
  (.seq (.seq (.reg [⟨(some 24), none, .mov (.t 12)⟩,
    ⟨(some 25), none, .bin .leq .no (.t 24) (.c (.raw (.int .i64 12)))⟩])
  (.cond (.t 25)
   (.seq (.reg [⟨(some 26), none, .mov (.t 0)⟩,
     ⟨(some 27), none, .mov (.t 1)⟩,
     ⟨(some 28), none, .mov (.t 2)⟩,
     ⟨(some 29), none, .mov (.t 4)⟩,
     ⟨(some 30), none, .call 94 [(.t 26), (.t 27), (.t 28), (.t 29)]⟩])
   .ret)
   .skip))
  (.seq (.seq (.reg [⟨(some 31), none, .mov (.t 3)⟩,
    ⟨(some 32), none, .bin .eql .no (.t 31) (.c (.raw (.int .i64 0)))⟩])
  (.cond (.t 32)
   (.seq (.reg [⟨(some 33), none, .mov (.t 0)⟩,
     ⟨(some 34), none, .mov (.t 1)⟩,
     ⟨(some 35), none, .mov (.t 2)⟩,
     ⟨(some 36), none, .mov (.t 4)⟩,
     ⟨(some 37), none, .call 95 [(.t 33), (.t 34), (.t 35), (.t 36)]⟩])
   .ret)
   .skip))
  (.seq (.seq (.reg [⟨(some 38), none, .mov (.t 10)⟩,
    ⟨(some 39), none, .un .not (.t 38)⟩])
  (.cond (.t 39)
   (.seq (.reg [⟨(some 40), none, .mov (.t 0)⟩,
     ⟨(some 41), none, .mov (.t 1)⟩,
     ⟨(some 42), none, .mov (.t 2)⟩,
     ⟨(some 43), none, .mov (.t 4)⟩,
     ⟨(some 44), none, .call 96 [(.t 40), (.t 41), (.t 42), (.t 43)]⟩])
   (.reg [⟨(some 45), none, .mov (.t 3)⟩,
     ⟨(some 46), none, .bin .sub .no (.t 45) (.c (.raw (.int .i64 1)))⟩,
     ⟨(some 3), none, .mov (.t 46)⟩]))
   .skip))
  (.seq (.reg [⟨(some 48), none, .mov (.t 0)⟩,
    ⟨(some 49), none, .mov (.t 1)⟩,
    ⟨(some 50), none, .mov (.t 2)⟩,
    ⟨(some 51), none, .mov (.t 4)⟩,
    ⟨(some 52), none, .call 97 [(.t 48), (.t 49), (.t 50), (.t 51)]⟩,
    ⟨(some 47), none, .mov (.t 52)⟩,
    ⟨(some 53), none, .extr (.t 47) 0⟩,
    ⟨(some 54), none, .extr (.t 47) 1⟩,
    ⟨(some 13), none, .mov (.t 53)⟩,
    ⟨(some 14), none, .mov (.t 54)⟩])
  (.seq (.seq (.reg [⟨(some 55), none, .mov (.t 14)⟩,
    ⟨(some 56), none, .bin .eql .no (.t 55) (.c (.raw (.int .i64 2)))⟩])
  (.cond (.t 56)
   (.seq (.reg [⟨(some 57), none, .mov (.t 0)⟩,
     ⟨(some 58), none, .mov (.t 1)⟩,
     ⟨(some 59), none, .mov (.t 2)⟩,
     ⟨(some 60), none, .mov (.t 4)⟩,
     ⟨(some 61), none, .call 98 [(.t 57), (.t 58), (.t 59), (.t 60)]⟩])
   (.seq (.reg [⟨(some 62), none, .mov (.t 2)⟩,
     ⟨(some 63), none, .bin .sub .no (.t 62) (.c (.raw (.int .i64 1)))⟩,
     ⟨(some 64), none, .mov (.t 13)⟩,
     ⟨(some 65), none, .mov (.t 1)⟩,
     ⟨(some 66), none, .bin .sub .no (.t 64) (.t 65)⟩,
     ⟨(some 67), none, .bin .sub .no (.t 63) (.t 66)⟩,
     ⟨(some 13), none, .mov (.t 67)⟩])
   (.reg [⟨(some 14), none, .mov (.c (.raw (.int .i64 1)))⟩])))
   .skip))
  (.seq (.seq (.reg [⟨(some 68), none, .mov (.t 10)⟩,
    ⟨(some 69), none, .mov (.t 68)⟩,
    ⟨(some 70), (some (69, true)), .mov (.t 11)⟩,
    ⟨(some 71), none, .pick (.t 69) (.t 70) (.c (.kb false))⟩,
    ⟨(some 72), none, .mov (.t 71)⟩,
    ⟨(some 73), (some (72, true)), .mov (.t 14)⟩,
    ⟨(some 74), (some (72, true)), .bin .eql .no (.t 73) (.c (.raw (.int .i64 1)))⟩,
    ⟨(some 75), none, .pick (.t 72) (.t 74) (.c (.kb false))⟩])
  (.cond (.t 75)
   (.seq (.reg [⟨(some 76), none, .mov (.t 0)⟩,
     ⟨(some 77), none, .mov (.t 1)⟩,
     ⟨(some 78), none, .mov (.t 2)⟩,
     ⟨(some 79), none, .mov (.t 4)⟩,
     ⟨(some 80), none, .call 99 [(.t 76), (.t 77), (.t 78), (.t 79)]⟩])
   (.cond (.t 80)
    .ret
    .skip))
   .skip))
  (.seq (.seq (.draw [⟨(some 81), none, .mov (.t 1)⟩,
    ⟨(some 82), none, .bin .gtr .no (.t 81) (.c (.raw (.int .i64 0)))⟩,
    ⟨(some 83), none, .mov (.t 82)⟩,
    ⟨(some 84), (some (83, true)), .mov (.t 4)⟩,
    ⟨(some 85), (some (83, true)), .mov (.t 0)⟩,
    ⟨(some 86), (some (83, true)), .mov (.t 1)⟩,
    ⟨(some 87), (some (83, true)), .bin .sub .no (.t 86) (.c (.raw (.int .i64 1)))⟩,
    ⟨(some 88), (some (83, true)), .iaddr 2 none (.t 85) (.t 87)⟩,
    ⟨(some 89), (some (83, true)), .load (some 2) (.t 88)⟩,
    ⟨(some 90), (some (83, true)), .mov (.t 0)⟩,
    ⟨(some 91), (some (83, true)), .mov (.t 13)⟩,
    ⟨(some 92), (some (83, true)), .iaddr 2 none (.t 90) (.t 91)⟩,
    ⟨(some 93), (some (83, true)), .load (some 2) (.t 92)⟩,
    ⟨(some 94), (some (83, true)), .callv (.t 84) [(.t 89), (.t 93)]⟩,
    ⟨(some 95), (some (83, true)), .bin .lss .no (.t 94) (.c (.raw (.int .i64 0)))⟩,
    ⟨(some 96), (some (83, true)), .un .not (.t 95)⟩,
    ⟨(some 97), none, .pick (.t 83) (.t 96) (.c (.kb false))⟩]
    (.fl 0 (.fl 1 (.fl 2 (.fl 3 (.fl 4 (.fl 5 (.fl 6 (.fr 7 (.fr 8 (.fl 9 (.fl 10 (.fr 11 (.fr 12 (.st 13 [] (.fl 14 (.fl 15 (.fl 16 .done))))))))))))))))))
  (.cond (.t 97)
   (.seq (.reg [⟨(some 98), none, .mov (.t 0)⟩,
     ⟨(some 99), none, .mov (.t 1)⟩,
     ⟨(some 100), none, .mov (.t 2)⟩,
     ⟨(some 101), none, .mov (.t 13)⟩,
     ⟨(some 102), none, .mov (.t 4)⟩,
     ⟨(some 103), none, .call 100 [(.t 98), (.t 99), (.t 100), (.t 101), (.t 102)]⟩,
     ⟨(some 15), none, .mov (.t 103)⟩])
   (.seq (.reg [⟨(some 104), none, .mov (.t 15)⟩,
     ⟨(some 1), none, .mov (.t 104)⟩])
   (.exit 1)))
   .skip))
  (.seq (.reg [⟨(some 106), none, .mov (.t 0)⟩,
    ⟨(some 107), none, .mov (.t 1)⟩,
    ⟨(some 108), none, .mov (.t 2)⟩,
    ⟨(some 109), none, .mov (.t 13)⟩,
    ⟨(some 110), none, .mov (.t 4)⟩,
    ⟨(some 111), none, .call 101 [(.t 106), (.t 107), (.t 108), (.t 109), (.t 110)]⟩,
    ⟨(some 105), none, .mov (.t 111)⟩,
    ⟨(some 112), none, .extr (.t 105) 0⟩,
    ⟨(some 113), none, .extr (.t 105) 1⟩,
    ⟨(some 16), none, .mov (.t 112)⟩,
    ⟨(some 17), none, .mov (.t 113)⟩])
  (.seq (.reg [⟨(some 114), none, .mov (.t 17)⟩,
    ⟨(some 11), none, .mov (.t 114)⟩])
  (.seq (.reg [⟨(some 115), none, .mov (.t 16)⟩,
    ⟨(some 116), none, .mov (.t 1)⟩,
    ⟨(some 117), none, .bin .sub .no (.t 115) (.t 116)⟩,
    ⟨(some 118), none, .mov (.t 2)⟩,
    ⟨(some 119), none, .mov (.t 16)⟩,
    ⟨(some 120), none, .bin .sub .no (.t 118) (.t 119)⟩,
    ⟨(some 18), none, .mov (.t 117)⟩,
    ⟨(some 19), none, .mov (.t 120)⟩])
  (.seq (.reg [⟨(some 121), none, .mov (.t 12)⟩,
    ⟨(some 122), none, .bin .quo .no (.t 121) (.c (.raw (.int .i64 8)))⟩,
    ⟨(some 20), none, .mov (.t 122)⟩])
  (.seq (.reg [⟨(some 123), none, .mov (.t 18)⟩,
    ⟨(some 124), none, .mov (.t 19)⟩,
    ⟨(some 125), none, .bin .lss .no (.t 123) (.t 124)⟩])
  (.cond (.t 125)
   (.seq (.reg [⟨(some 126), none, .mov (.t 18)⟩,
     ⟨(some 127), none, .mov (.t 20)⟩,
     ⟨(some 128), none, .bin .geq .no (.t 126) (.t 127)⟩,
     ⟨(some 10), none, .mov (.t 128)⟩])
   (.seq (.reg [⟨(some 129), none, .mov (.t 0)⟩,
     ⟨(some 130), none, .mov (.t 1)⟩,
     ⟨(some 131), none, .mov (.t 16)⟩,
     ⟨(some 132), none, .mov (.t 3)⟩,
     ⟨(some 133), none, .mov (.t 4)⟩,
     ⟨(some 134), none, .call 70 [(.t 129), (.t 130), (.t 131), (.t 132), (.t 133)]⟩])
   (.reg [⟨(some 135), none, .mov (.t 16)⟩,
     ⟨(some 136), none, .bin .add .no (.t 135) (.c (.raw (.int .i64 1)))⟩,
     ⟨(some 1), none, .mov (.t 136)⟩])))
   (.seq (.reg [⟨(some 137), none, .mov (.t 19)⟩,
     ⟨(some 138), none, .mov (.t 20)⟩,
     ⟨(some 139), none, .bin .geq .no (.t 137) (.t 138)⟩,
     ⟨(some 10), none, .mov (.t 139)⟩])
   (.seq (.reg [⟨(some 140), none, .mov (.t 0)⟩,
     ⟨(some 141), none, .mov (.t 16)⟩,
     ⟨(some 142), none, .bin .add .no (.t 141) (.c (.raw (.int .i64 1)))⟩,
     ⟨(some 143), none, .mov (.t 2)⟩,
     ⟨(some 144), none, .mov (.t 3)⟩,
     ⟨(some 145), none, .mov (.t 4)⟩,
     ⟨(some 146), none, .call 70 [(.t 140), (.t 142), (.t 143), (.t 144), (.t 145)]⟩])
   (.reg [⟨(some 147), none, .mov (.t 16)⟩,
     ⟨(some 2), none, .mov (.t 147)⟩]))))))))))))))))))))))
theorem i_slices_pdqsortCmpFunc_api_Dot : Is Tryd.prog 70 148 [] c_slices_pdqsortCmpFunc_api_Dot := ⟨Tryd.f70, _, p_slices_pdqsortCmpFunc_api_Dot, rfl, rfl, by kernel_rfl, by kernel_rfl, rfl⟩
def p_cmp_Compare_int : List (Nat × Pl) := []
def c_cmp_Compare_int : VCode :=
 (.seq (.reg [⟨(some 4), none, .mov (.c (.raw (.int .i64 0)))⟩])
 (.seq (.reg [⟨(some 7), none, .mov (.t 0)⟩,
   ⟨(some 8), none, .call 102 [(.t 7)]⟩,
   ⟨(some 5), none, .mov (.t 8)⟩])
 (.seq (.reg [⟨(some 9), none, .mov (.t 1)⟩,
   ⟨(some 10), none, .call 102 [(.t 9)]⟩,
   ⟨(some 6), none, .mov (.t 10)⟩])
 (.seq (.seq (.reg [⟨(some 11), none, .mov (.t 5)⟩])
 (.cond (.t 11)
  (.seq (.seq (.reg [⟨(some 12), none, .mov (.t 6)⟩])
  (.cond (.t 12)
   (.seq (.reg [⟨(some 4), none, .mov (.c (.raw (.int .i64 0)))⟩])
   .ret)
   .skip))
  (.seq (.reg [⟨(some 4), none, .mov (.c (.raw (.int .i64 (-1))))⟩])
  .ret))
  .skip))
 (.seq (.seq (.reg [⟨(some 13), none, .mov (.t 6)⟩])
 (.cond (.t 13)
  (.seq (.reg [⟨(some 4), none, .mov (.c (.raw (.int .i64 1)))⟩])
  .ret)
  .skip))
 (.seq (.seq (.reg [⟨(some 14), none, .mov (.t 0)⟩,
   ⟨(some 15), none, .mov (.t 1)⟩,
   ⟨(some 16), none, .bin .lss .no (.t 14) (.t 15)⟩])
 (.cond (.t 16)
  (.seq (.reg [⟨(some 4), none, .mov (.c (.raw (.int .i64 (-1))))⟩])
  .ret)
  .skip))
 (.seq (.seq (.reg [⟨(some 17), none, .mov (.t 0)⟩,
   ⟨(some 18), none, .mov (.t 1)⟩,
   ⟨(some 19), none, .bin .gtr .no (.t 17) (.t 18)⟩])
 (.cond (.t 19)
  (.seq (.reg [⟨(some 4), none, .mov (.c (.raw (.int .i64 1)))⟩])
  .ret)
  .skip))
 (.seq (.reg [⟨(some 4), none, .mov (.c (.raw (.int .i64 0)))⟩])
 .ret))))))))
theorem i_cmp_Compare_int : Is Tryd.prog 71 20 [.t 4] c_cmp_Compare_int := ⟨Tryd.f71, _, p_cmp_Compare_int, rfl, rfl, by kernel_rfl, by kernel_rfl, rfl⟩
def p_cmp_isNaN_int64 : List (Nat × Pl) := []
def c_cmp_isNaN_int64 : VCode :=
 (.seq (.reg [⟨(some 2), none, .mov (.c (.kb false))⟩])
 (.seq (.reg [⟨(some 3), none, .mov (.t 0)⟩,
   ⟨(some 4), none, .mov (.t 0)⟩,
   ⟨(some 5), none, .bin .neq .no (.t 3) (.t 4)⟩,
   ⟨(some 2), none, .mov (.t 5)⟩])
 .ret))
theorem i_cmp_isNaN_int64 : Is Tryd.prog 72 6 [.t 2] c_cmp_isNaN_int64 := ⟨Tryd.f72, _, p_cmp_isNaN_int64, rfl, rfl, by kernel_rfl, by kernel_rfl, rfl⟩
def p_slices_IndexFunc_sl_api_Dot_api_Dot : List (Nat × Pl) := []
def c_slices_IndexFunc_sl_api_Dot_api_Dot : VCode :=
 (.seq (.reg [⟨(some 4), none, .mov (.c (.raw (.int .i64 0)))⟩])
 (.seq (.seq (.reg [⟨(some 6), none, .mov (.t 0)⟩,
   ⟨(some 7), none, .len .sl (.t 6)⟩,
   ⟨(some 8), none, .mov (.c (.raw (.int .i64 0)))⟩])
 (.block 0 (.loop (.seq (.reg [⟨(some 9), none, .bin .lss .no (.t 8) (.t 7)⟩])
  (.seq (.cond (.t 9)
   .skip
   (.exit 0))
  (.seq (.block 1 (.seq (.reg [⟨(some 10), none, .mov (.t 8)⟩,
    ⟨(some 5), none, .mov (.t 10)⟩])
  (.seq (.reg [⟨(some 11), none, .mov (.t 1)⟩,
    ⟨(some 12), none, .mov (.t 0)⟩,
    ⟨(some 13), none, .mov (.t 5)⟩,
    ⟨(some 14), none, .iaddr 2 none (.t 12) (.t 13)⟩,
    ⟨(some 15), none, .load (some 2) (.t 14)⟩,
    ⟨(some 16), none, .callv (.t 11) [(.t 15)]⟩])
  (.cond (.t 16)
   (.seq (.reg [⟨(some 17), none, .mov (.t 5)⟩,
     ⟨(some 4), none, .mov (.t 17)⟩])
   .ret)
   .skip))))
  (.reg [⟨(some 18), none, .bin .add .no (.t 8) (.c (.raw (.int .i64 1)))⟩,
    ⟨(some 8), none, .mov (.t 18)⟩])))))))
 (.seq (.reg [⟨(some 4), none, .mov (.c (.raw (.int .i64 (-1))))⟩])
 .ret)))
theorem i_slices_IndexFunc_sl_api_Dot_api_Dot : Is Tryd.prog 73 19 [.t 4] c_slices_IndexFunc_sl_api_Dot_api_Dot := ⟨Tryd.f73, _, p_slices_IndexFunc_sl_api_Dot_api_Dot, rfl, rfl, by kernel_rfl, by kernel_rfl, rfl⟩
def p_unicode_utf8_AppendRune : List (Nat × Pl) := []
def c_unicode_utf8_AppendRune : VCode :=
 (.seq (.reg [⟨(some 4), none, .mov (.c (.raw (.slice none 0 0)))⟩])
 (.seq (.seq (.reg [⟨(some 5), none, .mov (.t 1)⟩,
   ⟨(some 6), none, .conv (.int .u32) (.t 5)⟩,
   ⟨(some 7), none, .bin .leq .no (.t 6) (.c (.raw (.int .u32 127)))⟩])
 (.cond (.t 7)
  (.seq (.reg [⟨(some 8), none, .mov (.t 0)⟩,
    ⟨(some 9), none, .mov (.t 1)⟩,
    ⟨(some 10), none, .conv (.int .u8) (.t 9)⟩,
    ⟨(some 11), none, .bslice 5 1 [(.int .u8 0)] [(0, 1, (.t 10))]⟩,
    ⟨(some 12), none, .append 5 1 1 [(.int .u8 0)] (.t 8) (.t 11)⟩,
    ⟨(some 4), none, .mov (.t 12)⟩])
  .ret)
  .skip))
 (.seq (.reg [⟨(some 13), none, .mov (.t 0)⟩,
   ⟨(some 14), none, .mov (.t 1)⟩,
   ⟨(some 15), none, .call 104 [(.t 13), (.t 14)]⟩,
   ⟨(some 4), none, .mov (.t 15)⟩])
 .ret)))
theorem i_unicode_utf8_AppendRune : Is Tryd.prog 75 16 [.t 4] c_unicode_utf8_AppendRune := ⟨Tryd.f75, _, p_unicode_utf8_AppendRune, rfl, rfl, by kernel_rfl, by kernel_rfl, rfl⟩
def p_name_other : List (Nat × Pl) := []
def c_name_other : VCode :=
 (.seq (.reg [⟨(some 4), none, .mov (.c (.kb false))⟩])
 (.seq (.reg [⟨(some 5), none, .mov (.t 0)⟩,
   ⟨(some 6), none, .call 46 [(.t 5)]⟩,
   ⟨(some 7), none, .mov (.t 6)⟩,
   ⟨(some 8), (some (7, false)), .mov (.t 1)⟩,
   ⟨(some 9), (some (7, false)), .un .not (.t 8)⟩,
   ⟨(some 10), (some (7, false)), .mov (.t 9)⟩,
   ⟨(some 11), (some (10, true)), .mov (.t 0)⟩,
   ⟨(some 12), (some (10, true)), .call 48 [(.t 11)]⟩,
   ⟨(some 13), (some (10, true)), .mov (.t 12)⟩,
   ⟨(some 14), (some (13, false)), .mov (.t 0)⟩,
   ⟨(some 15), (some (13, false)), .bin .eql .no (.t 14) (.c (.raw (.int .i32 45)))⟩,
   ⟨(some 16), (some (10, true)), .pick (.t 13) (.c (.kb true)) (.t 15)⟩,
   ⟨(some 17), (some (7, false)), .pick (.t 10) (.t 16) (.c (.kb false))⟩,
   ⟨(some 18), none, .pick (.t 7) (.c (.kb true)) (.t 17)⟩,
   ⟨(some 4), none, .mov (.t 18)⟩])
 .ret))
theorem i_name_other : Is Tryd.prog 76 19 [.t 4] c_name_other := ⟨Tryd.f76, _, p_name_other, rfl, rfl, by kernel_rfl, by kernel_rfl, rfl⟩
def p_bytes_Clone : List (Nat × Pl) := []
def c_bytes_Clone : VCode :=
 (.seq (.reg [⟨(some 2), none, .mov (.c (.raw (.slice none 0 0)))⟩])
 (.seq (.seq (.reg [⟨(some 3), none, .mov (.t 0)⟩,
   ⟨(some 4), none, .bin .eql .sl (.t 3) (.c (.raw (.slice none 0 0)))⟩])
 (.cond (.t 4)
  (.seq (.reg [⟨(some 2), none, .mov (.c (.raw (.slice none 0 0)))⟩])
  .ret)
  .skip))
 (.seq (.reg [⟨(some 5), none, .bslice 5 0 [] []⟩,
   ⟨(some 6), none, .mov (.t 0)⟩,
   ⟨(some 7), none, .append 5 1 1 [(.int .u8 0)] (.t 5) (.t 6)⟩,
   ⟨(some 2), none, .mov (.t 7)⟩])
 .ret)))
theorem i_bytes_Clone : Is Tryd.prog 77 8 [.t 2] c_bytes_Clone := ⟨Tryd.f77, _, p_bytes_Clone, rfl, rfl, by kernel_rfl, by kernel_rfl, rfl⟩
def p_vec_Put : List (Nat × Pl) := []
def c_vec_Put : VCode :=
 (.seq (.reg [⟨(some 3), none, .box 32 (.t 1)⟩,
   ⟨(some 4), none, .mov (.c (.raw (.slice none 0 0)))⟩])
 (.seq (.seq (.reg [⟨(some 7), none, .load (some 7) (.t 3)⟩,
   ⟨(some 8), none, .mov (.c (.raw (.int .i64 0)))⟩])
 (.block 0 (.loop (.seq (.reg [⟨(some 9), none, .bin .lss .no (.t 8) (.c (.raw (.int .i64 7)))⟩])
  (.seq (.cond (.t 9)
   .skip
   (.exit 0))
  (.seq (.block 1 (.seq (.reg [⟨(some 10), none, .aindex 7 1 false (.t 7) (.t 8)⟩,
    ⟨(some 6), none, .mov (.t 10)⟩])
  (.reg [⟨(some 11), none, .mov (.t 0)⟩,
    ⟨(some 12), none, .mov (.t 6)⟩,
    ⟨(some 13), none, .call 64 [(.t 11), (.t 12)]⟩,
    ⟨(some 0), none, .mov (.t 13)⟩])))
  (.reg [⟨(some 14), none, .bin .add .no (.t 8) (.c (.raw (.int .i64 1)))⟩,
    ⟨(some 8), none, .mov (.t 14)⟩])))))))
 (.seq (.reg [⟨(some 15), none, .mov (.t 0)⟩,
   ⟨(some 4), none, .mov (.t 15)⟩])
 .ret)))
theorem i_vec_Put : Is Tryd.prog 78 16 [.t 4] c_vec_Put := ⟨Tryd.f78, _, p_vec_Put, rfl, rfl, by kernel_rfl, by kernel_rfl, rfl⟩
def p_pack_Text : List (Nat × Pl) := []
def c_pack_Text : VCode :=
 (.seq (.reg [⟨(some 4), none, .mov (.c (.raw (.slice none 0 0)))⟩])
 (.seq (.reg [⟨(some 5), none, .mov (.t 0)⟩,
   ⟨(some 6), none, .mov (.t 1)⟩,
   ⟨(some 7), none, .conv (.s2b 5) (.t 6)⟩,
   ⟨(some 8), none, .call 105 [(.t 5), (.t 7)]⟩,
   ⟨(some 4), none, .mov (.t 8)⟩])
 .ret))
theorem i_pack_Text : Is Tryd.prog 79 9 [.t 4] c_pack_Text := ⟨Tryd.f79, _, p_pack_Text, rfl, rfl, by kernel_rfl, by kernel_rfl, rfl⟩
def p_unicode_is16 : List (Nat × Pl) := [(9, (.fl 0 (.fr 1 (.fl 2 (.fr 3 (.fl 4 (.fl 5 (.fl 6 (.fl 7 (.fr 8 (.fl 9 (.fr 10 (.fl 11 (.fl 12 (.fr 13 (.fl 14 (.fr 15 (.fl 16 (.fl 17 (.fl 18 (.fl 19 .done))))))))))))))))))))), (18, (.fl 0 (.fr 1 (.fl 2 (.fr 3 (.fl 4 (.fl 5 (.fl 6 (.fl 7 (.fr 8 (.fl 9 (.fr 10 (.fl 11 (.fl 12 (.fr 13 (.fl 14 (.fr 15 (.fl 16 (.fl 17 (.fl 18 (.fl 19 .done)))))))))))))))))))))]
def c_unicode_is16 : VCode :=
 (.seq (.reg [⟨(some 4), none, .mov (.c (.kb false))⟩])
 (.seq (.seq (.reg [⟨(some 11), none, .mov (.t 0)⟩,
   ⟨(some 12), none, .len .sl (.t 11)⟩,
   ⟨(some 13), none, .bin .leq .no (.t 12) (.c (.raw (.int .i64 18)))⟩,
   ⟨(some 14), none, .mov (.t 13)⟩,
   ⟨(some 15), (some (14, false)), .mov (.t 1)⟩,
   ⟨(some 16), (some (14, false)), .bin .leq .no (.t 15) (.c (.raw (.int .u16 255)))⟩,
   ⟨(some 17), none, .pick (.t 14) (.c (.kb true)) (.t 16)⟩])
 (.cond (.t 17)
  (.seq (.seq (.reg [⟨(some 18), none, .mov (.t 0)⟩,
    ⟨(some 19), none, .len .sl (.t 18)⟩,
    ⟨(some 20), none, .mov (.c (.raw (.int .i64 0)))⟩])
  (.block 0 (.loop (.seq (.reg [⟨(some 21), none, .bin .lss .no (.t 20) (.t 19)⟩])
   (.seq (.cond (.t 21)
    .skip
    (.exit 0))
   (.seq (.block 1 (.seq (.reg [⟨(some 22), none, .mov (.t 20)⟩,
     ⟨(some 5), none, .mov (.t 22)⟩])
   (.seq (.reg [⟨(some 23), none, .mov (.t 0)⟩,
     ⟨(some 24), none, .mov (.t 5)⟩,
     ⟨(some 25), none, .iaddr 3 none (.t 23) (.t 24)⟩,
     ⟨(some 6), none, .mov (.t 25)⟩])
   (.seq (.seq (.reg [⟨(some 26), none, .mov (.t 1)⟩,
     ⟨(some 27), none, .mov (.t 6)⟩,
     ⟨(some 28), none, .nilck (.t 27)⟩,
     ⟨(some 29), none, .faddr 0 (.t 28)⟩,
     ⟨(some 30), none, .load none (.t 29)⟩,
     ⟨(some 31), none, .bin .lss .no (.t 26) (.t 30)⟩])
   (.cond (.t 31)
    (.seq (.reg [⟨(some 4), none, .mov (.c (.kb false))⟩])
    .ret)
    .skip))
   (.seq (.reg [⟨(some 32), none, .mov (.t 1)⟩,
     ⟨(some 33), none, .mov (.t 6)⟩,
     ⟨(some 34), none, .nilck (.t 33)⟩,
     ⟨(some 35), none, .faddr 1 (.t 34)⟩,
     ⟨(some 36), none, .load none (.t 35)⟩,
     ⟨(some 37), none, .bin .leq .no (.t 32) (.t 36)⟩])
   (.cond (.t 37)
    (.seq (.draw [⟨(some 38), none, .mov (.t 6)⟩,
      ⟨(some 39), none, .nilck (.t 38)⟩,
      ⟨(some 40), none, .faddr 2 (.t 39)⟩,
      ⟨(some 41), none, .load none (.t 40)⟩,
      ⟨(some 42), none, .bin .eql .no (.t 41) (.c (.raw (.int .u16 1)))⟩,
      ⟨(some 43), none, .mov (.t 42)⟩,
      ⟨(some 44), (some (43, false)), .mov (.t 1)⟩,
      ⟨(some 45), (some (43, false)), .mov (.t 6)⟩,
      ⟨(some 46), (some (43, false)), .nilck (.t 45)⟩,
      ⟨(some 47), (some (43, false)), .faddr 0 (.t 46)⟩,
      ⟨(some 48), (some (43, false)), .load none (.t 47)⟩,
      ⟨(some 49), (some (43, false)), .bin .sub .no (.t 44) (.t 48)⟩,
      ⟨(some 50), (some (43, false)), .mov (.t 6)⟩,
      ⟨(some 51), (some (43, false)), .nilck (.t 50)⟩,
      ⟨(some 52), (some (43, false)), .faddr 2 (.t 51)⟩,
      ⟨(some 53), (some (43, false)), .load none (.t 52)⟩,
      ⟨(some 54), (some (43, false)), .bin .rem .no (.t 49) (.t 53)⟩,
      ⟨(some 55), (some (43, false)), .bin .eql .no (.t 54) (.c (.raw (.int .u16 0)))⟩,
      ⟨(some 56), none, .pick (.t 43) (.c (.kb true)) (.t 55)⟩,
      ⟨(some 4), none, .mov (.t 56)⟩]
      (.fl 0 (.fr 1 (.fl 2 (.fr 3 (.fl 4 (.fl 5 (.fl 6 (.fl 7 (.fr 8 (.fl 9 (.fr 10 (.fl 11 (.fl 12 (.fr 13 (.fl 14 (.fr 15 (.fl 16 (.fl 17 (.fl 18 (.fl 19 .done)))))))))))))))))))))
    .ret)
    .skip))))))
   (.reg [⟨(some 57), none, .bin .add .no (.t 20) (.c (.raw (.int .i64 1)))⟩,
     ⟨(some 20), none, .mov (.t 57)⟩])))))))
  (.seq (.reg [⟨(some 4), none, .mov (.c (.kb false))⟩])
  .ret))
  .skip))
 (.seq (.reg [⟨(some 7), none, .mov (.c (.raw (.int .i64 0)))⟩])
 (.seq (.reg [⟨(some 58), none, .mov (.t 0)⟩,
   ⟨(some 59), none, .len .sl (.t 58)⟩,
   ⟨(some 8), none, .mov (.t 59)⟩])
 (.seq (.block 2 (.loop (.seq (.seq (.reg [⟨(some 60), none, .mov (.t 7)⟩,
    ⟨(some 61), none, .mov (.t 8)⟩,
    ⟨(some 62), none, .bin .lss .no (.t 60) (.t 61)⟩])
  (.cond (.t 62)
   .skip
   (.exit 2)))
  (.block 3 (.seq (.reg [⟨(some 63), none, .mov (.t 7)⟩,
    ⟨(some 64), none, .mov (.t 8)⟩,
    ⟨(some 65), none, .bin .add .no (.t 63) (.t 64)⟩,
    ⟨(some 66), none, .conv (.int .u64) (.t 65)⟩,
    ⟨(some 67), none, .bin .shr .no (.t 66) (.c (.raw (.int .u64 1)))⟩,
    ⟨(some 68), none, .conv (.int .i64) (.t 67)⟩,
    ⟨(some 9), none, .mov (.t 68)⟩])
  (.seq (.reg [⟨(some 69), none, .mov (.t 0)⟩,
    ⟨(some 70), none, .mov (.t 9)⟩,
    ⟨(some 71), none, .iaddr 3 none (.t 69) (.t 70)⟩,
    ⟨(some 10), none, .mov (.t 71)⟩])
  (.seq (.seq (.reg [⟨(some 72), none, .mov (.t 10)⟩,
    ⟨(some 73), none, .nilck (.t 72)⟩,
    ⟨(some 74), none, .faddr 0 (.t 73)⟩,
    ⟨(some 75), none, .load none (.t 74)⟩,
    ⟨(some 76), none, .mov (.t 1)⟩,
    ⟨(some 77), none, .bin .leq .no (.t 75) (.t 76)⟩,
    ⟨(some 78), none, .mov (.t 77)⟩,
    ⟨(some 79), (some (78, true)), .mov (.t 1)⟩,
    ⟨(some 80), (some (78, true)), .mov (.t 10)⟩,
    ⟨(some 81), (some (78, true)), .nilck (.t 80)⟩,
    ⟨(some 82), (some (78, true)), .faddr 1 (.t 81)⟩,
    ⟨(some 83), (some (78, true)), .load none (.t 82)⟩,
    ⟨(some 84), (some (78, true)), .bin .leq .no (.t 79) (.t 83)⟩,
    ⟨(some 85), none, .pick (.t 78) (.t 84) (.c (.kb false))⟩])
  (.cond (.t 85)
   (.seq (.draw [⟨(some 86), none, .mov (.t 10)⟩,
     ⟨(some 87), none, .nilck (.t 86)⟩,
     ⟨(some 88), none, .faddr 2 (.t 87)⟩,
     ⟨(some 89), none, .load none (.t 88)⟩,
     ⟨(some 90), none, .bin .eql .no (.t 89) (.c (.raw (.int .u16 1)))⟩,
     ⟨(some 91), none, .mov (.t 90)⟩,
     ⟨(some 92), (some (91, false)), .mov (.t 1)⟩,
     ⟨(some 93), (some (91, false)), .mov (.t 10)⟩,
     ⟨(some 94), (some (91, false)), .nilck (.t 93)⟩,
     ⟨(some 95), (some (91, false)), .faddr 0 (.t 94)⟩,
     ⟨(some 96), (some (91, false)), .load none (.t 95)⟩,
     ⟨(some 97), (some (91, false)), .bin .sub .no (.t 92) (.t 96)⟩,
     ⟨(some 98), (some (91, false)), .mov (.t 10)⟩,
     ⟨(some 99), (some (91, false)), .nilck (.t 98)⟩,
     ⟨(some 100), (some (91, false)), .faddr 2 (.t 99)⟩,
     ⟨(some 101), (some (91, false)), .load none (.t 100)⟩,
     ⟨(some 102), (some (91, false)), .bin .rem .no (.t 97) (.t 101)⟩,
     ⟨(some 103), (some (91, false)), .bin .eql .no (.t 102) (.c (.raw (.int .u16 0)))⟩,
     ⟨(some 104), none, .pick (.t 91) (.c (.kb true)) (.t 103)⟩,
     ⟨(some 4), none, .mov (.t 104)⟩]
     (.fl 0 (.fr 1 (.fl 2 (.fr 3 (.fl 4 (.fl 5 (.fl 6 (.fl 7 (.fr 8 (.fl 9 (.fr 10 (.fl 11 (.fl 12 (.fr 13 (.fl 14 (.fr 15 (.fl 16 (.fl 17 (.fl 18 (.fl 19 .done)))))))))))))))))))))
   .ret)
   .skip))
  (.seq (.reg [⟨(some 105), none, .mov (.t 1)⟩,
    ⟨(some 106), none, .mov (.t 10)⟩,
    ⟨(some 107), none, .nilck (.t 106)⟩,
    ⟨(some 108), none, .faddr 0 (.t 107)⟩,
    ⟨(some 109), none, .load none (.t 108)⟩,
    ⟨(some 110), none, .bin .lss .no (.t 105) (.t 109)⟩])
  (.cond (.t 110)
   (.reg [⟨(some 111), none, .mov (.t 9)⟩,
     ⟨(some 8), none, .mov (.t 111)⟩])
   (.reg [⟨(some 112), none, .mov (.t 9)⟩,
     ⟨(some 113), none, .bin .add .no (.t 112) (.c (.raw (.int .i64 1)))⟩,
     ⟨(some 7), none, .mov (.t 113)⟩]))))))))))
 (.seq (.reg [⟨(some 4), none, .mov (.c (.kb false))⟩])
 .ret))))))
theorem i_unicode_is16 : Is Tryd.prog 80 114 [.t 4] c_unicode_is16 := ⟨Tryd.f80, _, p_unicode_is16, rfl, rfl, by kernel_rfl, by kernel_rfl, rfl⟩
def p_unicode_is32 : List (Nat × Pl) := [(9, (.fl 0 (.fr 1 (.fl 2 (.fr 3 (.fl 4 (.fl 5 (.fl 6 (.fl 7 (.fr 8 (.fl 9 (.fr 10 (.fl 11 (.fl 12 (.fr 13 (.fl 14 (.fr 15 (.fl 16 (.fl 17 (.fl 18 (.fl 19 .done)))))))))))))))))))))]
def c_unicode_is32 : VCode :=
 (.seq (.reg [⟨(some 4), none, .mov (.c (.kb false))⟩])
 (.seq (.seq (.reg [⟨(some 11), none, .mov (.t 0)⟩,
   ⟨(some 12), none, .len .sl (.t 11)⟩,
   ⟨(some 13), none, .bin .leq .no (.t 12) (.c (.raw (.int .i64 18)))⟩])
 (.cond (.t 13)
  (.seq (.seq (.reg [⟨(some 14), none, .mov (.t 0)⟩,
    ⟨(some 15), none, .len .sl (.t 14)⟩,
    ⟨(some 16), none, .mov (.c (.raw (.int .i64 0)))⟩])
  (.block 0 (.loop (.seq (.reg [⟨(some 17), none, .bin .lss .no (.t 16) (.t 15)⟩])
   (.seq (.cond (.t 17)
    .skip
    (.exit 0))
   (.seq (.block 1 (.seq (.reg [⟨(some 18), none, .mov (.t 16)⟩,
     ⟨(some 5), none, .mov (.t 18)⟩])
   (.seq (.reg [⟨(some 19), none, .mov (.t 0)⟩,
     ⟨(some 20), none, .mov (.t 5)⟩,
     ⟨(some 21), none, .iaddr 3 none (.t 19) (.t 20)⟩,
     ⟨(some 6), none, .mov (.t 21)⟩])
   (.seq (.seq (.reg [⟨(some 22), none, .mov (.t 1)⟩,
     ⟨(some 23), none, .mov (.t 6)⟩,
     ⟨(some 24), none, .nilck (.t 23)⟩,
     ⟨(some 25), none, .faddr 0 (.t 24)⟩,
     ⟨(some 26), none, .load none (.t 25)⟩,
     ⟨(some 27), none, .bin .lss .no (.t 22) (.t 26)⟩])
   (.cond (.t 27)
    (.seq (.reg [⟨(some 4), none, .mov (.c (.kb false))⟩])
    .ret)
    .skip))
   (.seq (.reg [⟨(some 28), none, .mov (.t 1)⟩,
     ⟨(some 29), none, .mov (.t 6)⟩,
     ⟨(some 30), none, .nilck (.t 29)⟩,
     ⟨(some 31), none, .faddr 1 (.t 30)⟩,
     ⟨(some 32), none, .load none (.t 31)⟩,
     ⟨(some 33), none, .bin .leq .no (.t 28) (.t 32)⟩])
   (.cond (.t 33)
    (.seq (.draw [⟨(some 34), none, .mov (.t 6)⟩,
      ⟨(some 35), none, .nilck (.t 34)⟩,
      ⟨(some 36), none, .faddr 2 (.t 35)⟩,
      ⟨(some 37), none, .load none (.t 36)⟩,
      ⟨(some 38), none, .bin .eql .no (.t 37) (.c (.raw (.int .u32 1)))⟩,
      ⟨(some 39), none, .mov (.t 38)⟩,
      ⟨(some 40), (some (39, false)), .mov (.t 1)⟩,
      ⟨(some 41), (some (39, false)), .mov (.t 6)⟩,
      ⟨(some 42), (some (39, false)), .nilck (.t 41)⟩,
      ⟨(some 43), (some (39, false)), .faddr 0 (.t 42)⟩,
      ⟨(some 44), (some (39, false)), .load none (.t 43)⟩,
      ⟨(some 45), (some (39, false)), .bin .sub .no (.t 40) (.t 44)⟩,
      ⟨(some 46), (some (39, false)), .mov (.t 6)⟩,
      ⟨(some 47), (some (39, false)), .nilck (.t 46)⟩,
      ⟨(some 48), (some (39, false)), .faddr 2 (.t 47)⟩,
      ⟨(some 49), (some (39, false)), .load none (.t 48)⟩,
      ⟨(some 50), (some (39, false)), .bin .rem .no (.t 45) (.t 49)⟩,
      ⟨(some 51), (some (39, false)), .bin .eql .no (.t 50) (.c (.raw (.int .u32 0)))⟩,
      ⟨(some 52), none, .pick (.t 39) (.c (.kb true)) (.t 51)⟩,
      ⟨(some 4), none, .mov (.t 52)⟩]
      (.fl 0 (.fr 1 (.fl 2 (.fr 3 (.fl 4 (.fl 5 (.fl 6 (.fl 7 (.fr 8 (.fl 9 (.fr 10 (.fl 11 (.fl 12 (.fr 13 (.fl 14 (.fr 15 (.fl 16 (.fl 17 (.fl 18 (.fl 19 .done)))))))))))))))))))))
    .ret)
    .skip))))))
   (.reg [⟨(some 53), none, .bin .add .no (.t 16) (.c (.raw (.int .i64 1)))⟩,
     ⟨(some 16), none, .mov (.t 53)⟩])))))))
  (.seq (.reg [⟨(some 4), none, .mov (.c (.kb false))⟩])
  .ret))
  .skip))
 (.seq (.reg [⟨(some 7), none, .mov (.c (.raw (.int .i64 0)))⟩])
 (.seq (.reg [⟨(some 54), none, .mov (.t 0)⟩,
   ⟨(some 55), none, .len .sl (.t 54)⟩,
   ⟨(some 8), none, .mov (.t 55)⟩])
 (.seq (.block 2 (.loop (.seq (.seq (.reg [⟨(some 56), none, .mov (.t 7)⟩,
    ⟨(some 57), none, .mov (.t 8)⟩,
    ⟨(some 58), none, .bin .lss .no (.t 56) (.t 57)⟩])
  (.cond (.t 58)
   .skip
   (.exit 2)))
  (.block 3 (.seq (.reg [⟨(some 59), none, .mov (.t 7)⟩,
    ⟨(some 60), none, .mov (.t 8)⟩,
    ⟨(some 61), none, .bin .add .no (.t 59) (.t 60)⟩,
    ⟨(some 62), none, .conv (.int .u64) (.t 61)⟩,
    ⟨(some 63), none, .bin .shr .no (.t 62) (.c (.raw (.int .u64 1)))⟩,
    ⟨(some 64), none, .conv (.int .i64) (.t 63)⟩,
    ⟨(some 9), none, .mov (.t 64)⟩])
  (.seq (.reg [⟨(some 65), none, .mov (.t 0)⟩,
    ⟨(some 66), none, .mov (.t 9)⟩,
    ⟨(some 67), none, .iaddr 3 none (.t 65) (.t 66)⟩,
    ⟨(some 68), none, .load (some 3) (.t 67)⟩,
    ⟨(some 10), none, .new 142 [(.int .u32 0), (.int .u32 0), (.int .u32 0)]⟩,
    ⟨none, none, .store (some 3) (.t 10) (.t 68)⟩])
  (.seq (.seq (.reg [⟨(some 69), none, .faddr 0 (.t 10)⟩,
    ⟨(some 70), none, .load none (.t 69)⟩,
    ⟨(some 71), none, .mov (.t 1)⟩,
    ⟨(some 72), none, .bin .leq .no (.t 70) (.t 71)⟩,
    ⟨(some 73), none, .mov (.t 72)⟩,
    ⟨(some 74), (some (73, true)), .mov (.t 1)⟩,
    ⟨(some 75), (some (73, true)), .faddr 1 (.t 10)⟩,
    ⟨(some 76), (some (73, true)), .load none (.t 75)⟩,
    ⟨(some 77), (some (73, true)), .bin .leq .no (.t 74) (.t 76)⟩,
    ⟨(some 78), none, .pick (.t 73) (.t 77) (.c (.kb false))⟩])
  (.cond (.t 78)
   (.seq (.reg [⟨(some 79), none, .faddr 2 (.t 10)⟩,
     ⟨(some 80), none, .load none (.t 79)⟩,
     ⟨(some 81), none, .bin .eql .no (.t 80) (.c (.raw (.int .u32 1)))⟩,
     ⟨(some 82), none, .mov (.t 81)⟩,
     ⟨(some 83), (some (82, false)), .mov (.t 1)⟩,
     ⟨(some 84), (some (82, false)), .faddr 0 (.t 10)⟩,
     ⟨(some 85), (some (82, false)), .load none (.t 84)⟩,
     ⟨(some 86), (some (82, false)), .bin .sub .no (.t 83) (.t 85)⟩,
     ⟨(some 87), (some (82, false)), .faddr 2 (.t 10)⟩,
     ⟨(some 88), (some (82, false)), .load none (.t 87)⟩,
     ⟨(some 89), (some (82, false)), .bin .rem .no (.t 86) (.t 88)⟩,
     ⟨(some 90), (some (82, false)), .bin .eql .no (.t 89) (.c (.raw (.int .u32 0)))⟩,
     ⟨(some 91), none, .pick (.t 82) (.c (.kb true)) (.t 90)⟩,
     ⟨(some 4), none, .mov (.t 91)⟩])
   .ret)
   .skip))
  (.seq (.reg [⟨(some 92), none, .mov (.t 1)⟩,
    ⟨(some 93), none, .faddr 0 (.t 10)⟩,
    ⟨(some 94), none, .load none (.t 93)⟩,
    ⟨(some 95), none, .bin .lss .no (.t 92) (.t 94)⟩])
  (.cond (.t 95)
   (.reg [⟨(some 96), none, .mov (.t 9)⟩,
     ⟨(some 8), none, .mov (.t 96)⟩])
   (.reg [⟨(some 97), none, .mov (.t 9)⟩,
     ⟨(some 98), none, .bin .add .no (.t 97) (.c (.raw (.int .i64 1)))⟩,
     ⟨(some 7), none, .mov (.t 98)⟩]))))))))))
 (.seq (.reg [⟨(some 4), none, .mov (.c (.kb false))⟩])
 .ret))))))
theorem i_unicode_is32 : Is Tryd.prog 81 99 [.t 4] c_unicode_is32 := ⟨Tryd.f81, _, p_unicode_is32, rfl, rfl, by kernel_rfl, by kernel_rfl, rfl⟩
def p_unicode_to : List (Nat × Pl) := []
def c_unicode_to : VCode :=
 (.seq (.reg [⟨(some 6), none, .mov (.c (.raw (.int .i32 0)))⟩,
   ⟨(some 7), none, .mov (.c (.kb false))⟩])
 (.seq (.seq (.reg [⟨(some 9), none, .mov (.t 0)⟩,
   ⟨(some 10), none, .bin .lss .no (.t 9) (.c (.raw (.int .i64 0)))⟩,
   ⟨(some 11), none, .mov (.t 10)⟩,
   ⟨(some 12), (some (11, false)), .mov (.t 0)⟩,
   ⟨(some 13), (some (11, false)), .bin .leq .no (.c (.raw (.int .i64 3))) (.t 12)⟩,
   ⟨(some 14), none, .pick (.t 11) (.c (.kb true)) (.t 13)⟩])
 (.cond (.t 14)
  (.seq (.reg [⟨(some 6), none, .mov (.c (.raw (.int .i32 65533)))⟩,
    ⟨(some 7), none, .mov (.c (.kb false))⟩])
  .ret)
  .skip))
 (.seq (.seq (.reg [⟨(some 15), none, .mov (.t 1)⟩,
   ⟨(some 16), none, .mov (.t 2)⟩,
   ⟨(some 17), none, .call 106 [(.t 15), (.t 16)]⟩,
   ⟨(some 8), none, .mov (.t 17)⟩])
 (.seq (.reg [⟨(some 18), none, .mov (.t 8)⟩,
   ⟨(some 19), none, .bin .neq .p (.t 18) (.c (.raw (.pointer none)))⟩])
 (.cond (.t 19)
  (.seq (.reg [⟨(some 20), none, .mov (.t 0)⟩,
    ⟨(some 21), none, .mov (.t 1)⟩,
    ⟨(some 22), none, .mov (.t 8)⟩,
    ⟨(some 23), none, .call 107 [(.t 20), (.t 21), (.t 22)]⟩,
    ⟨(some 6), none, .mov (.t 23)⟩,
    ⟨(some 7), none, .mov (.c (.kb true))⟩])
  .ret)
  .skip)))
 (.seq (.reg [⟨(some 24), none, .mov (.t 1)⟩,
   ⟨(some 6), none, .mov (.t 24)⟩,
   ⟨(some 7), none, .mov (.c (.kb false))⟩])
 .ret))))
theorem i_unicode_to : Is Tryd.prog 82 25 [.t 6, .t 7] c_unicode_to := ⟨Tryd.f82, _, p_unicode_to, rfl, rfl, by kernel_rfl, by kernel_rfl, rfl⟩
def p_slices_insertionSortOrdered_string : List (Nat × Pl) := [(4, (.fl 0 (.fl 1 (.fl 2 (.fl 3 (.fl 4 (.fl 5 (.fr 6 (.fr 7 (.fl 8 (.fl 9 (.fl 10 (.fr 11 (.fr 12 (.st 13 [] (.fl 14 .done)))))))))))))))), (6, (.fl 0 (.fl 1 (.fl 2 (.fl 3 (.fl 4 (.fl 5 (.fl 6 (.fl 7 (.fr 8 (.fr 9 (.fl 10 (.fl 11 (.fr 12 (.fr 13 (.fr 14 (.st 15 [] (.fr 16 (.st 17 [] .done)))))))))))))))))))]
def c_slices_insertionSortOrdered_string : VCode :=
 (.seq (.reg [⟨(some 8), none, .mov (.t 1)⟩,
   ⟨(some 9), none, .bin .add .no (.t 8) (.c (.raw (.int .i64 1)))⟩,
   ⟨(some 6), none, .mov (.t 9)⟩])
 (.block 0 (.loop (.seq (.seq (.reg [⟨(some 10), none, .mov (.t 6)⟩,
    ⟨(some 11), none, .mov (.t 2)⟩,
    ⟨(some 12), none, .bin .lss .no (.t 10) (.t 11)⟩])
  (.cond (.t 12)
   .skip
   (.exit 0)))
  (.seq (.block 1 (.seq (.reg [⟨(some 15), none, .mov (.t 6)⟩,
    ⟨(some 7), none, .mov (.t 15)⟩])
  (.block 2 (.loop (.seq (.seq (.draw [⟨(some 16), none, .mov (.t 7)⟩,
     ⟨(some 17), none, .mov (.t 1)⟩,
     ⟨(some 18), none, .bin .gtr .no (.t 16) (.t 17)⟩,
     ⟨(some 19), none, .mov (.t 18)⟩,
     ⟨(some 20), (some (19, true)), .mov (.t 0)⟩,
     ⟨(some 21), (some (19, true)), .mov (.t 7)⟩,
     ⟨(some 22), (some (19, true)), .iaddr 1 none (.t 20) (.t 21)⟩,
     ⟨(some 23), (some (19, true)), .load none (.t 22)⟩,
     ⟨(some 24), (some (19, true)), .mov (.t 0)⟩,
     ⟨(some 25), (some (19, true)), .mov (.t 7)⟩,
     ⟨(some 26), (some (19, true)), .bin .sub .no (.t 25) (.c (.raw (.int .i64 1)))⟩,
     ⟨(some 27), (some (19, true)), .iaddr 1 none (.t 24) (.t 26)⟩,
     ⟨(some 28), (some (19, true)), .load none (.t 27)⟩,
     ⟨(some 29), (some (19, true)), .call 89 [(.t 23), (.t 28)]⟩,
     ⟨(some 30), none, .pick (.t 19) (.t 29) (.c (.kb false))⟩]
     (.fl 0 (.fl 1 (.fl 2 (.fl 3 (.fl 4 (.fl 5 (.fr 6 (.fr 7 (.fl 8 (.fl 9 (.fl 10 (.fr 11 (.fr 12 (.st 13 [] (.fl 14 .done))))))))))))))))
   (.cond (.t 30)
    .skip
    (.exit 2)))
   (.seq (.block 3 (.draw [⟨(some 33), none, .mov (.t 0)⟩,
     ⟨(some 34), none, .mov (.t 7)⟩,
     ⟨(some 35), none, .mov (.t 0)⟩,
     ⟨(some 36), none, .mov (.t 7)⟩,
     ⟨(some 37), none, .bin .sub .no (.t 36) (.c (.raw (.int .i64 1)))⟩,
     ⟨(some 38), none, .mov (.t 0)⟩,
     ⟨(some 39), none, .mov (.t 7)⟩,
     ⟨(some 40), none, .bin .sub .no (.t 39) (.c (.raw (.int .i64 1)))⟩,
     ⟨(some 41), none, .iaddr 1 none (.t 38) (.t 40)⟩,
     ⟨(some 42), none, .load none (.t 41)⟩,
     ⟨(some 43), none, .mov (.t 0)⟩,
     ⟨(some 44), none, .mov (.t 7)⟩,
     ⟨(some 45), none, .iaddr 1 none (.t 43) (.t 44)⟩,
     ⟨(some 46), none, .load none (.t 45)⟩,
     ⟨(some 47), none, .iaddr 1 none (.t 33) (.t 34)⟩,
     ⟨none, none, .store none (.t 47) (.t 42)⟩,
     ⟨(some 48), none, .iaddr 1 none (.t 35) (.t 37)⟩,
     ⟨none, none, .store none (.t 48) (.t 46)⟩]
     (.fl 0 (.fl 1 (.fl 2 (.fl 3 (.fl 4 (.fl 5 (.fl 6 (.fl 7 (.fr 8 (.fr 9 (.fl 10 (.fl 11 (.fr 12 (.fr 13 (.fr 14 (.st 15 [] (.fr 16 (.st 17 [] .done))))))))))))))))))))
   (.reg [⟨(some 31), none, .mov (.t 7)⟩,
     ⟨(some 32), none, .bin .sub .no (.t 31) (.c (.raw (.int .i64 1)))⟩,
     ⟨(some 7), none, .mov (.t 32)⟩])))))))
  (.reg [⟨(some 13), none, .mov (.t 6)⟩,
    ⟨(some 14), none, .bin .add .no (.t 13) (.c (.raw (.int .i64 1)))⟩,
    ⟨(some 6), none, .mov (.t 14)⟩]))))))
theorem i_slices_insertionSortOrdered_string : Is Tryd.prog 83 49 [] c_slices_insertionSortOrdered_string := ⟨Tryd.f83, _, p_slices_insertionSortOrdered_string, rfl, rfl, by kernel_rfl, by kernel_rfl, rfl⟩
def p_slices_heapSortOrdered_string : List (Nat × Pl) := [(10, (.fl 0 (.fl 1 (.fl 2 (.fl 3 (.fl 4 (.fl 5 (.fl 6 (.fl 7 (.fl 8 (.fl 9 (.fr 10 (.fr 11 (.fl 12 (.fl 13 (.fr 14 (.fr 15 (.fr 16 (.st 17 [] (.fr 18 (.st 19 [] .done)))))))))))))))))))))]
def c_slices_heapSortOrdered_string : VCode :=
 (.seq (.reg [⟨(some 11), none, .mov (.t 1)⟩,
   ⟨(some 6), none, .mov (.t 11)⟩])
 (.seq (.reg [⟨(some 7), none, .mov (.c (.raw (.int .i64 0)))⟩])
 (.seq (.reg [⟨(some 12), none, .mov (.t 2)⟩,
   ⟨(some 13), none, .mov (.t 1)⟩,
   ⟨(some 14), none, .bin .sub .no (.t 12) (.t 13)⟩,
   ⟨(some 8), none, .mov (.t 14)⟩])
 (.seq (.seq (.reg [⟨(some 15), none, .mov (.t 8)⟩,
   ⟨(some 16), none, .bin .sub .no (.t 15) (.c (.raw (.int .i64 1)))⟩,
   ⟨(some 17), none, .bin .quo .no (.t 16) (.c (.raw (.int .i64 2)))⟩,
   ⟨(some 9), none, .mov (.t 17)⟩])
 (.block 0 (.loop (.seq (.seq (.reg [⟨(some 18), none, .mov (.t 9)⟩,
    ⟨(some 19), none, .bin .geq .no (.t 18) (.c (.raw (.int .i64 0)))⟩])
  (.cond (.t 19)
   .skip
   (.exit 0)))
  (.seq (.block 1 (.reg [⟨(some 22), none, .mov (.t 0)⟩,
    ⟨(some 23), none, .mov (.t 9)⟩,
    ⟨(some 24), none, .mov (.t 8)⟩,
    ⟨(some 25), none, .mov (.t 6)⟩,
    ⟨(some 26), none, .call 108 [(.t 22), (.t 23), (.t 24), (.t 25)]⟩]))
  (.reg [⟨(some 20), none, .mov (.t 9)⟩,
    ⟨(some 21), none, .bin .sub .no (.t 20) (.c (.raw (.int .i64 1)))⟩,
    ⟨(some 9), none, .mov (.t 21)⟩]))))))
 (.seq (.reg [⟨(some 27), none, .mov (.t 8)⟩,
   ⟨(some 28), none, .bin .sub .no (.t 27) (.c (.raw (.int .i64 1)))⟩,
   ⟨(some 10), none, .mov (.t 28)⟩])
 (.block 2 (.loop (.seq (.seq (.reg [⟨(some 29), none, .mov (.t 10)⟩,
    ⟨(some 30), none, .bin .geq .no (.t 29) (.c (.raw (.int .i64 0)))⟩])
  (.cond (.t 30)
   .skip
   (.exit 2)))
  (.seq (.block 3 (.seq (.draw [⟨(some 33), none, .mov (.t 0)⟩,
    ⟨(some 34), none, .mov (.t 6)⟩,
    ⟨(some 35), none, .mov (.t 0)⟩,
    ⟨(some 36), none, .mov (.t 6)⟩,
    ⟨(some 37), none, .mov (.t 10)⟩,
    ⟨(some 38), none, .bin .add .no (.t 36) (.t 37)⟩,
    ⟨(some 39), none, .mov (.t 0)⟩,
    ⟨(some 40), none, .mov (.t 6)⟩,
    ⟨(some 41), none, .mov (.t 10)⟩,
    ⟨(some 42), none, .bin .add .no (.t 40) (.t 41)⟩,
    ⟨(some 43), none, .iaddr 1 none (.t 39) (.t 42)⟩,
    ⟨(some 44), none, .load none (.t 43)⟩,
    ⟨(some 45), none, .mov (.t 0)⟩,
    ⟨(some 46), none, .mov (.t 6)⟩,
    ⟨(some 47), none, .iaddr 1 none (.t 45) (.t 46)⟩,
    ⟨(some 48), none, .load none (.t 47)⟩,
    ⟨(some 49), none, .iaddr 1 none (.t 33) (.t 34)⟩,
    ⟨none, none, .store none (.t 49) (.t 44)⟩,
    ⟨(some 50), none, .iaddr 1 none (.t 35) (.t 38)⟩,
    ⟨none, none, .store none (.t 50) (.t 48)⟩]
    (.fl 0 (.fl 1 (.fl 2 (.fl 3 (.fl 4 (.fl 5 (.fl 6 (.fl 7 (.fl 8 (.fl 9 (.fr 10 (.fr 11 (.fl 12 (.fl 13 (.fr 14 (.fr 15 (.fr 16 (.st 17 [] (.fr 18 (.st 19 [] .done)))))))))))))))))))))
  (.reg [⟨(some 51), none, .mov (.t 0)⟩,
    ⟨(some 52), none, .mov (.t 7)⟩,
    ⟨(some 53), none, .mov (.t 10)⟩,
    ⟨(some 54), none, .mov (.t 6)⟩,
    ⟨(some 55), none, .call 108 [(.t 51), (.t 52), (.t 53), (.t 54)]⟩])))
  (.reg [⟨(some 31), none, .mov (.t 10)⟩,
    ⟨(some 32), none, .bin .sub .no (.t 31) (.c (.raw (.int .i64 1)))⟩,
    ⟨(some 10), none, .mov (.t 32)⟩]))))))))))
theorem i_slices_heapSortOrdered_string : Is Tryd.prog 84 56 [] c_slices_heapSortOrdered_string := ⟨Tryd.f84, _, p_slices_heapSortOrdered_string, rfl, rfl, by kernel_rfl, by kernel_rfl, rfl⟩
def p_slices_breakPatternsOrdered_string : List (Nat × Pl) := [(10, (.fl 0 (.fl 1 (.fl 2 (.fl 3 (.fl 4 (.fl 5 (.fl 6 (.fl 7 (.fl 8 (.fl 9 (.fr 10 (.fr 11 (.fl 12 (.fl 13 (.fr 14 (.fr 15 (.fr 16 (.st 17 [] (.fr 18 (.st 19 [] .done)))))))))))))))))))))]
def c_slices_breakPatternsOrdered_string : VCode :=
 (.seq (.reg [⟨(some 11), none, .mov (.t 2)⟩,
   ⟨(some 12), none, .mov (.t 1)⟩,
   ⟨(some 13), none, .bin .sub .no (.t 11) (.t 12)⟩,
   ⟨(some 6), none, .mov (.t 13)⟩])
 (.seq (.reg [⟨(some 14), none, .mov (.t 6)⟩,
   ⟨(some 15), none, .bin .geq .no (.t 14) (.c (.raw (.int .i64 8)))⟩])
 (.cond (.t 15)
  (.seq (.reg [⟨(some 16), none, .mov (.t 6)⟩,
    ⟨(some 17), none, .conv (.int .u64) (.t 16)⟩,
    ⟨(some 7), none, .new 171 [(.int .u64 0)]⟩,
    ⟨none, none, .store none (.t 7) (.t 17)⟩])
  (.seq (.reg [⟨(some 18), none, .mov (.t 6)⟩,
    ⟨(some 19), none, .call 109 [(.t 18)]⟩,
    ⟨(some 8), none, .mov (.t 19)⟩])
  (.seq (.reg [⟨(some 20), none, .mov (.t 1)⟩,
    ⟨(some 21), none, .mov (.t 6)⟩,
    ⟨(some 22), none, .bin .quo .no (.t 21) (.c (.raw (.int .i64 4)))⟩,
    ⟨(some 23), none, .bin .mul .no (.t 22) (.c (.raw (.int .i64 2)))⟩,
    ⟨(some 24), none, .bin .add .no (.t 20) (.t 23)⟩,
    ⟨(some 25), none, .bin .sub .no (.t 24) (.c (.raw (.int .i64 1)))⟩,
    ⟨(some 9), none, .mov (.t 25)⟩])
  (.block 0 (.loop (.seq (.seq (.reg [⟨(some 26), none, .mov (.t 9)⟩,
     ⟨(some 27), none, .mov (.t 1)⟩,
     ⟨(some 28), none, .mov (.t 6)⟩,
     ⟨(some 29), none, .bin .quo .no (.t 28) (.c (.raw (.int .i64 4)))⟩,
     ⟨(some 30), none, .bin .mul .no (.t 29) (.c (.raw (.int .i64 2)))⟩,
     ⟨(some 31), none, .bin .add .no (.t 27) (.t 30)⟩,
     ⟨(some 32), none, .bin .add .no (.t 31) (.c (.raw (.int .i64 1)))⟩,
     ⟨(some 33), none, .bin .leq .no (.t 26) (.t 32)⟩])
   (.cond (.t 33)
    .skip
    (.exit 0)))
   (.seq (.block 1 (.seq (.reg [⟨(some 36), none, .call 110 [(.t 7)]⟩,
     ⟨(some 37), none, .mov (.t 8)⟩,
     ⟨(some 38), none, .bin .sub .no (.t 37) (.c (.raw (.int .u64 1)))⟩,
     ⟨(some 39), none, .bin .and .no (.t 36) (.t 38)⟩,
     ⟨(some 40), none, .conv (.int .i64) (.t 39)⟩,
     ⟨(some 10), none, .mov (.t 40)⟩])
   (.seq (.seq (.reg [⟨(some 41), none, .mov (.t 10)⟩,
     ⟨(some 42), none, .mov (.t 6)⟩,
     ⟨(some 43), none, .bin .geq .no (.t 41) (.t 42)⟩])
   (.cond (.t 43)
    (.reg [⟨(some 44), none, .mov (.t 10)⟩,
      ⟨(some 45), none, .mov (.t 6)⟩,
      ⟨(some 46), none, .bin .sub .no (.t 44) (.t 45)⟩,
      ⟨(some 10), none, .mov (.t 46)⟩])
    .skip))
   (.draw [⟨(some 47), none, .mov (.t 0)⟩,
     ⟨(some 48), none, .mov (.t 9)⟩,
     ⟨(some 49), none, .mov (.t 0)⟩,
     ⟨(some 50), none, .mov (.t 1)⟩,
     ⟨(some 51), none, .mov (.t 10)⟩,
     ⟨(some 52), none, .bin .add .no (.t 50) (.t 51)⟩,
     ⟨(some 53), none, .mov (.t 0)⟩,
     ⟨(some 54), none, .mov (.t 1)⟩,
     ⟨(some 55), none, .mov (.t 10)⟩,
     ⟨(some 56), none, .bin .add .no (.t 54) (.t 55)⟩,
     ⟨(some 57), none, .iaddr 1 none (.t 53) (.t 56)⟩,
     ⟨(some 58), none, .load none (.t 57)⟩,
     ⟨(some 59), none, .mov (.t 0)⟩,
     ⟨(some 60), none, .mov (.t 9)⟩,
     ⟨(some 61), none, .iaddr 1 none (.t 59) (.t 60)⟩,
     ⟨(some 62), none, .load none (.t 61)⟩,
     ⟨(some 63), none, .iaddr 1 none (.t 47) (.t 48)⟩,
     ⟨none, none, .store none (.t 63) (.t 58)⟩,
     ⟨(some 64), none, .iaddr 1 none (.t 49) (.t 52)⟩,
     ⟨none, none, .store none (.t 64) (.t 62)⟩]
     (.fl 0 (.fl 1 (.fl 2 (.fl 3 (.fl 4 (.fl 5 (.fl 6 (.fl 7 (.fl 8 (.fl 9 (.fr 10 (.fr 11 (.fl 12 (.fl 13 (.fr 14 (.fr 15 (.fr 16 (.st 17 [] (.fr 18 (.st 19 [] .done))))))))))))))))))))))))
   (.reg [⟨(some 34), none, .mov (.t 9)⟩,
     ⟨(some 35), none, .bin .add .no (.t 34) (.c (.raw (.int .i64 1)))⟩,
     ⟨(some 9), none, .mov (.t 35)⟩]))))))))
  .skip)))
theorem i_slices_breakPatternsOrdered_string : Is Tryd.prog 85 65 [] c_slices_breakPatternsOrdered_string := ⟨Tryd.f85, _, p_slices_breakPatternsOrdered_string, rfl, rfl, by kernel_rfl, by kernel_rfl, rfl⟩
def p_slices_choosePivotOrdered_string : List (Nat × Pl) := []
def c_slices_choosePivotOrdered_string : VCode :=
 (.seq (.reg [⟨(some 6), none, .mov (.c (.raw (.int .i64 0)))⟩,
   ⟨(some 7), none, .mov (.c (.raw (.int .i64 0)))⟩])
 (.seq (.reg [⟨(some 13), none, .mov (.t 2)⟩,
   ⟨(some 14), none, .mov (.t 1)⟩,
   ⟨(some 15), none, .bin .sub .no (.t 13) (.t 14)⟩,
   ⟨(some 8), none, .mov (.t 15)⟩])
 (.seq (.reg [⟨(some 9), none, .new 3 [(.int .i64 0)]⟩])
 (.seq (.reg [⟨(some 16), none, .mov (.t 1)⟩,
   ⟨(some 17), none, .mov (.t 8)⟩,
   ⟨(some 18), none, .bin .quo .no (.t 17) (.c (.raw (.int .i64 4)))⟩,
   ⟨(some 19), none, .bin .mul .no (.t 18) (.c (.raw (.int .i64 1)))⟩,
   ⟨(some 20), none, .bin .add .no (.t 16) (.t 19)⟩,
   ⟨(some 10), none, .mov (.t 20)⟩])
 (.seq (.reg [⟨(some 21), none, .mov (.t 1)⟩,
   ⟨(some 22), none, .mov (.t 8)⟩,
   ⟨(some 23), none, .bin .quo .no (.t 22) (.c (.raw (.int .i64 4)))⟩,
   ⟨(some 24), none, .bin .mul .no (.t 23) (.c (.raw (.int .i64 2)))⟩,
   ⟨(some 25), none, .bin .add .no (.t 21) (.t 24)⟩,
   ⟨(some 11), none, .mov (.t 25)⟩])
 (.seq (.reg [⟨(some 26), none, .mov (.t 1)⟩,
   ⟨(some 27), none, .mov (.t 8)⟩,
   ⟨(some 28), none, .bin .quo .no (.t 27) (.c (.raw (.int .i64 4)))⟩,
   ⟨(some 29), none, .bin .mul .no (.t 28) (.c (.raw (.int .i64 3)))⟩,
   ⟨(some 30), none, .bin .add .no (.t 26) (.t 29)⟩,
   ⟨(some 12), none, .mov (.t 30)⟩])
 (.seq (.seq (.reg [⟨(some 31), none, .mov (.t 8)⟩,
   ⟨(some 32), none, .bin .geq .no (.t 31) (.c (.raw (.int .i64 8)))⟩])
 (.cond (.t 32)
  (.seq (.seq (.reg [⟨(some 33), none, .mov (.t 8)⟩,
    ⟨(some 34), none, .bin .geq .no (.t 33) (.c (.raw (.int .i64 50)))⟩])
  (.cond (.t 34)
   (.seq (.reg [⟨(some 35), none, .mov (.t 0)⟩,
     ⟨(some 36), none, .mov (.t 10)⟩,
     ⟨(some 37), none, .call 111 [(.t 35), (.t 36), (.t 9)]⟩,
     ⟨(some 10), none, .mov (.t 37)⟩])
   (.seq (.reg [⟨(some 38), none, .mov (.t 0)⟩,
     ⟨(some 39), none, .mov (.t 11)⟩,
     ⟨(some 40), none, .call 111 [(.t 38), (.t 39), (.t 9)]⟩,
     ⟨(some 11), none, .mov (.t 40)⟩])
   (.reg [⟨(some 41), none, .mov (.t 0)⟩,
     ⟨(some 42), none, .mov (.t 12)⟩,
     ⟨(some 43), none, .call 111 [(.t 41), (.t 42), (.t 9)]⟩,
     ⟨(some 12), none, .mov (.t 43)⟩])))
   .skip))
  (.reg [⟨(some 44), none, .mov (.t 0)⟩,
    ⟨(some 45), none, .mov (.t 10)⟩,
    ⟨(some 46), none, .mov (.t 11)⟩,
    ⟨(some 47), none, .mov (.t 12)⟩,
    ⟨(some 48), none, .call 112 [(.t 44), (.t 45), (.t 46), (.t 47), (.t 9)]⟩,
    ⟨(some 11), none, .mov (.t 48)⟩]))
  .skip))
 (.seq (.reg [⟨(some 49), none, .load none (.t 9)⟩])
 (.block 0 (.seq (.reg [⟨(some 52), none, .bin .eql .no (.t 49) (.c (.raw (.int .i64 0)))⟩,
   ⟨(some 51), none, .mov (.t 52)⟩])
 (.cond (.t 51)
  (.seq (.reg [⟨(some 53), none, .mov (.t 11)⟩,
    ⟨(some 6), none, .mov (.t 53)⟩,
    ⟨(some 7), none, .mov (.c (.raw (.int .i64 1)))⟩])
  .ret)
  (.seq (.reg [⟨(some 55), none, .bin .eql .no (.t 49) (.c (.raw (.int .i64 12)))⟩,
    ⟨(some 54), none, .mov (.t 55)⟩])
  (.cond (.t 54)
   (.seq (.reg [⟨(some 56), none, .mov (.t 11)⟩,
     ⟨(some 6), none, .mov (.t 56)⟩,
     ⟨(some 7), none, .mov (.c (.raw (.int .i64 2)))⟩])
   .ret)
   (.seq (.reg [⟨(some 50), none, .mov (.t 11)⟩,
     ⟨(some 6), none, .mov (.t 50)⟩,
     ⟨(some 7), none, .mov (.c (.raw (.int .i64 0)))⟩])
   .ret))))))))))))))
theorem i_slices_choosePivotOrdered_string : Is Tryd.prog 86 57 [.t 6, .t 7] c_slices_choosePivotOrdered_string := ⟨Tryd.f86, _, p_slices_choosePivotOrdered_string, rfl, rfl, by kernel_rfl, by kernel_rfl, rfl⟩
def p_slices_reverseRangeOrdered_string : List (Nat × Pl) := [(3, (.fl 0 (.fl 1 (.fl 2 (.fl 3 (.fl 4 (.fl 5 (.fr 6 (.fr 7 (.fl 8 (.fl 9 (.fr 10 (.fr 11 (.fr 12 (.st 13 [] (.fr 14 (.st 15 [] .done)))))))))))))))))]
def c_slices_reverseRangeOrdered_string : VCode :=
 (.seq (.reg [⟨(some 8), none, .mov (.t 1)⟩,
   ⟨(some 6), none, .mov (.t 8)⟩])
 (.seq (.reg [⟨(some 9), none, .mov (.t 2)⟩,
   ⟨(some 10), none, .bin .sub .no (.t 9) (.c (.raw (.int .i64 1)))⟩,
   ⟨(some 7), none, .mov (.t 10)⟩])
 (.block 0 (.loop (.seq (.seq (.reg [⟨(some 11), none, .mov (.t 6)⟩,
    ⟨(some 12), none, .mov (.t 7)⟩,
    ⟨(some 13), none, .bin .lss .no (.t 11) (.t 12)⟩])
  (.cond (.t 13)
   .skip
   (.exit 0)))
  (.block 1 (.seq (.draw [⟨(some 14), none, .mov (.t 0)⟩,
    ⟨(some 15), none, .mov (.t 6)⟩,
    ⟨(some 16), none, .mov (.t 0)⟩,
    ⟨(some 17), none, .mov (.t 7)⟩,
    ⟨(some 18), none, .mov (.t 0)⟩,
    ⟨(some 19), none, .mov (.t 7)⟩,
    ⟨(some 20), none, .iaddr 1 none (.t 18) (.t 19)⟩,
    ⟨(some 21), none, .load none (.t 20)⟩,
    ⟨(some 22), none, .mov (.t 0)⟩,
    ⟨(some 23), none, .mov (.t 6)⟩,
    ⟨(some 24), none, .iaddr 1 none (.t 22) (.t 23)⟩,
    ⟨(some 25), none, .load none (.t 24)⟩,
    ⟨(some 26), none, .iaddr 1 none (.t 14) (.t 15)⟩,
    ⟨none, none, .store none (.t 26) (.t 21)⟩,
    ⟨(some 27), none, .iaddr 1 none (.t 16) (.t 17)⟩,
    ⟨none, none, .store none (.t 27) (.t 25)⟩]
    (.fl 0 (.fl 1 (.fl 2 (.fl 3 (.fl 4 (.fl 5 (.fr 6 (.fr 7 (.fl 8 (.fl 9 (.fr 10 (.fr 11 (.fr 12 (.st 13 [] (.fr 14 (.st 15 [] .done)))))))))))))))))
  (.seq (.reg [⟨(some 28), none, .mov (.t 6)⟩,
    ⟨(some 29), none, .bin .add .no (.t 28) (.c (.raw (.int .i64 1)))⟩,
    ⟨(some 6), none, .mov (.t 29)⟩])
  (.reg [⟨(some 30), none, .mov (.t 7)⟩,
    ⟨(some 31), none, .bin .sub .no (.t 30) (.c (.raw (.int .i64 1)))⟩,
    ⟨(some 7), none, .mov (.t 31)⟩])))))))))
theorem i_slices_reverseRangeOrdered_string : Is Tryd.prog 87 32 [] c_slices_reverseRangeOrdered_string := ⟨Tryd.f87, _, p_slices_reverseRangeOrdered_string, rfl, rfl, by kernel_rfl, by kernel_rfl, rfl⟩
def p_slices_partialInsertionSortOrdered_string : List (Nat × Pl) := [(5, (.fl 0 (.fl 1 (.fl 2 (.fl 3 (.fl 4 (.fl 5 (.fr 6 (.fr 7 (.fl 8 (.fl 9 (.fl 10 (.fr 11 (.fr 12 (.st 13 [] (.fl 14 (.fl 15 .done))))))))))))))))), (11, (.fl 0 (.fl 1 (.fl 2 (.fl 3 (.fl 4 (.fl 5 (.fl 6 (.fl 7 (.fr 8 (.fr 9 (.fl 10 (.fl 11 (.fr 12 (.fr 13 (.fr 14 (.st 15 [] (.fr 16 (.st 17 [] .done))))))))))))))))))), (16, (.fl 0 (.fl 1 (.fr 2 (.fr 3 (.fl 4 (.fl 5 (.fl 6 (.fr 7 (.fr 8 (.st 9 [] (.fl 10 .done)))))))))))), (17, (.fl 0 (.fl 1 (.fl 2 (.fl 3 (.fl 4 (.fl 5 (.fl 6 (.fl 7 (.fr 8 (.fr 9 (.fl 10 (.fl 11 (.fr 12 (.fr 13 (.fr 14 (.st 15 [] (.fr 16 (.st 17 [] .done))))))))))))))))))), (22, (.fl 0 (.fl 1 (.fr 2 (.fr 3 (.fl 4 (.fl 5 (.fl 6 (.fr 7 (.fr 8 (.st 9 [] (.fl 10 .done)))))))))))), (23, (.fl 0 (.fl 1 (.fl 2 (.fl 3 (.fl 4 (.fl 5 (.fl 6 (.fl 7 (.fr 8 (.fr 9 (.fl 10 (.fl 11 (.fr 12 (.fr 13 (.fr 14 (.st 15 [] (.fr 16 (.st 17 [] .done)))))))))))))))))))]
def c_slices_partialInsertionSortOrdered_string : VCode :=
 (.seq (.reg [⟨(some 6), none, .mov (.c (.kb false))⟩])
 (.seq (.reg [⟨(some 11), none, .mov (.t 1)⟩,
   ⟨(some 12), none, .bin .add .no (.t 11) (.c (.raw (.int .i64 1)))⟩,
   ⟨(some 7), none, .mov (.t 12)⟩])
 (.seq (.seq (.reg [⟨(some 8), none, .mov (.c (.raw (.int .i64 0)))⟩])
 (.block 0 (.loop (.seq (.seq (.reg [⟨(some 13), none, .mov (.t 8)⟩,
    ⟨(some 14), none, .bin .lss .no (.t 13) (.c (.raw (.int .i64 5)))⟩])
  (.cond (.t 14)
   .skip
   (.exit 0)))
  (.seq (.block 1 (.seq (.block 2 (.loop (.seq (.seq (.draw [⟨(some 17), none, .mov (.t 7)⟩,
     ⟨(some 18), none, .mov (.t 2)⟩,
     ⟨(some 19), none, .bin .lss .no (.t 17) (.t 18)⟩,
     ⟨(some 20), none, .mov (.t 19)⟩,
     ⟨(some 21), (some (20, true)), .mov (.t 0)⟩,
     ⟨(some 22), (some (20, true)), .mov (.t 7)⟩,
     ⟨(some 23), (some (20, true)), .iaddr 1 none (.t 21) (.t 22)⟩,
     ⟨(some 24), (some (20, true)), .load none (.t 23)⟩,
     ⟨(some 25), (some (20, true)), .mov (.t 0)⟩,
     ⟨(some 26), (some (20, true)), .mov (.t 7)⟩,
     ⟨(some 27), (some (20, true)), .bin .sub .no (.t 26) (.c (.raw (.int .i64 1)))⟩,
     ⟨(some 28), (some (20, true)), .iaddr 1 none (.t 25) (.t 27)⟩,
     ⟨(some 29), (some (20, true)), .load none (.t 28)⟩,
     ⟨(some 30), (some (20, true)), .call 89 [(.t 24), (.t 29)]⟩,
     ⟨(some 31), (some (20, true)), .un .not (.t 30)⟩,
     ⟨(some 32), none, .pick (.t 20) (.t 31) (.c (.kb false))⟩]
     (.fl 0 (.fl 1 (.fl 2 (.fl 3 (.fl 4 (.fl 5 (.fr 6 (.fr 7 (.fl 8 (.fl 9 (.fl 10 (.fr 11 (.fr 12 (.st 13 [] (.fl 14 (.fl 15 .done)))))))))))))))))
   (.cond (.t 32)
    .skip
    (.exit 2)))
   (.block 3 (.reg [⟨(some 33), none, .mov (.t 7)⟩,
     ⟨(some 34), none, .bin .add .no (.t 33) (.c (.raw (.int .i64 1)))⟩,
     ⟨(some 7), none, .mov (.t 34)⟩])))))
  (.seq (.seq (.reg [⟨(some 35), none, .mov (.t 7)⟩,
    ⟨(some 36), none, .mov (.t 2)⟩,
    ⟨(some 37), none, .bin .eql .no (.t 35) (.t 36)⟩])
  (.cond (.t 37)
   (.seq (.reg [⟨(some 6), none, .mov (.c (.kb true))⟩])
   .ret)
   .skip))
  (.seq (.seq (.reg [⟨(some 38), none, .mov (.t 2)⟩,
    ⟨(some 39), none, .mov (.t 1)⟩,
    ⟨(some 40), none, .bin .sub .no (.t 38) (.t 39)⟩,
    ⟨(some 41), none, .bin .lss .no (.t 40) (.c (.raw (.int .i64 50)))⟩])
  (.cond (.t 41)
   (.seq (.reg [⟨(some 6), none, .mov (.c (.kb false))⟩])
   .ret)
   .skip))
  (.seq (.draw [⟨(some 42), none, .mov (.t 0)⟩,
    ⟨(some 43), none, .mov (.t 7)⟩,
    ⟨(some 44), none, .mov (.t 0)⟩,
    ⟨(some 45), none, .mov (.t 7)⟩,
    ⟨(some 46), none, .bin .sub .no (.t 45) (.c (.raw (.int .i64 1)))⟩,
    ⟨(some 47), none, .mov (.t 0)⟩,
    ⟨(some 48), none, .mov (.t 7)⟩,
    ⟨(some 49), none, .bin .sub .no (.t 48) (.c (.raw (.int .i64 1)))⟩,
    ⟨(some 50), none, .iaddr 1 none (.t 47) (.t 49)⟩,
    ⟨(some 51), none, .load none (.t 50)⟩,
    ⟨(some 52), none, .mov (.t 0)⟩,
    ⟨(some 53), none, .mov (.t 7)⟩,
    ⟨(some 54), none, .iaddr 1 none (.t 52) (.t 53)⟩,
    ⟨(some 55), none, .load none (.t 54)⟩,
    ⟨(some 56), none, .iaddr 1 none (.t 42) (.t 43)⟩,
    ⟨none, none, .store none (.t 56) (.t 51)⟩,
    ⟨(some 57), none, .iaddr 1 none (.t 44) (.t 46)⟩,
    ⟨none, none, .store none (.t 57) (.t 55)⟩]
    (.fl 0 (.fl 1 (.fl 2 (.fl 3 (.fl 4 (.fl 5 (.fl 6 (.fl 7 (.fr 8 (.fr 9 (.fl 10 (.fl 11 (.fr 12 (.fr 13 (.fr 14 (.st 15 [] (.fr 16 (.st 17 [] .done)))))))))))))))))))
  (.seq (.seq (.reg [⟨(some 58), none, .mov (.t 7)⟩,
    ⟨(some 59), none, .mov (.t 1)⟩,
    ⟨(some 60), none, .bin .sub .no (.t 58) (.t 59)⟩,
    ⟨(some 61), none, .bin .geq .no (.t 60) (.c (.raw (.int .i64 2)))⟩])
  (.cond (.t 61)
   (.seq (.reg [⟨(some 62), none, .mov (.t 7)⟩,
     ⟨(some 63), none, .bin .sub .no (.t 62) (.c (.raw (.int .i64 1)))⟩,
     ⟨(some 9), none, .mov (.t 63)⟩])
   (.block 4 (.loop (.seq (.seq (.reg [⟨(some 64), none, .mov (.t 9)⟩,
      ⟨(some 65), none, .bin .geq .no (.t 64) (.c (.raw (.int .i64 1)))⟩])
    (.cond (.t 65)
     .skip
     (.exit 4)))
    (.seq (.block 5 (.seq (.seq (.draw [⟨(some 68), none, .mov (.t 0)⟩,
      ⟨(some 69), none, .mov (.t 9)⟩,
      ⟨(some 70), none, .iaddr 1 none (.t 68) (.t 69)⟩,
      ⟨(some 71), none, .load none (.t 70)⟩,
      ⟨(some 72), none, .mov (.t 0)⟩,
      ⟨(some 73), none, .mov (.t 9)⟩,
      ⟨(some 74), none, .bin .sub .no (.t 73) (.c (.raw (.int .i64 1)))⟩,
      ⟨(some 75), none, .iaddr 1 none (.t 72) (.t 74)⟩,
      ⟨(some 76), none, .load none (.t 75)⟩,
      ⟨(some 77), none, .call 89 [(.t 71), (.t 76)]⟩,
      ⟨(some 78), none, .un .not (.t 77)⟩]
      (.fl 0 (.fl 1 (.fr 2 (.fr 3 (.fl 4 (.fl 5 (.fl 6 (.fr 7 (.fr 8 (.st 9 [] (.fl 10 .done))))))))))))
    (.cond (.t 78)
     (.exit 4)
     .skip))
    (.draw [⟨(some 79), none, .mov (.t 0)⟩,
      ⟨(some 80), none, .mov (.t 9)⟩,
      ⟨(some 81), none, .mov (.t 0)⟩,
      ⟨(some 82), none, .mov (.t 9)⟩,
      ⟨(some 83), none, .bin .sub .no (.t 82) (.c (.raw (.int .i64 1)))⟩,
      ⟨(some 84), none, .mov (.t 0)⟩,
      ⟨(some 85), none, .mov (.t 9)⟩,
      ⟨(some 86), none, .bin .sub .no (.t 85) (.c (.raw (.int .i64 1)))⟩,
      ⟨(some 87), none, .iaddr 1 none (.t 84) (.t 86)⟩,
      ⟨(some 88), none, .load none (.t 87)⟩,
      ⟨(some 89), none, .mov (.t 0)⟩,
      ⟨(some 90), none, .mov (.t 9)⟩,
      ⟨(some 91), none, .iaddr 1 none (.t 89) (.t 90)⟩,
      ⟨(some 92), none, .load none (.t 91)⟩,
      ⟨(some 93), none, .iaddr 1 none (.t 79) (.t 80)⟩,
      ⟨none, none, .store none (.t 93) (.t 88)⟩,
      ⟨(some 94), none, .iaddr 1 none (.t 81) (.t 83)⟩,
      ⟨none, none, .store none (.t 94) (.t 92)⟩]
      (.fl 0 (.fl 1 (.fl 2 (.fl 3 (.fl 4 (.fl 5 (.fl 6 (.fl 7 (.fr 8 (.fr 9 (.fl 10 (.fl 11 (.fr 12 (.fr 13 (.fr 14 (.st 15 [] (.fr 16 (.st 17 [] .done)))))))))))))))))))))
    (.reg [⟨(some 66), none, .mov (.t 9)⟩,
      ⟨(some 67), none, .bin .sub .no (.t 66) (.c (.raw (.int .i64 1)))⟩,
      ⟨(some 9), none, .mov (.t 67)⟩]))))))
   .skip))
  (.seq (.reg [⟨(some 95), none, .mov (.t 2)⟩,
    ⟨(some 96), none, .mov (.t 7)⟩,
    ⟨(some 97), none, .bin .sub .no (.t 95) (.t 96)⟩,
    ⟨(some 98), none, .bin .geq .no (.t 97) (.c (.raw (.int .i64 2)))⟩])
  (.cond (.t 98)
   (.seq (.reg [⟨(some 99), none, .mov (.t 7)⟩,
     ⟨(some 100), none, .bin .add .no (.t 99) (.c (.raw (.int .i64 1)))⟩,
     ⟨(some 10), none, .mov (.t 100)⟩])
   (.block 6 (.loop (.seq (.seq (.reg [⟨(some 101), none, .mov (.t 10)⟩,
      ⟨(some 102), none, .mov (.t 2)⟩,
      ⟨(some 103), none, .bin .lss .no (.t 101) (.t 102)⟩])
    (.cond (.t 103)
     .skip
     (.exit 6)))
    (.seq (.block 7 (.seq (.seq (.draw [⟨(some 106), none, .mov (.t 0)⟩,
      ⟨(some 107), none, .mov (.t 10)⟩,
      ⟨(some 108), none, .iaddr 1 none (.t 106) (.t 107)⟩,
      ⟨(some 109), none, .load none (.t 108)⟩,
      ⟨(some 110), none, .mov (.t 0)⟩,
      ⟨(some 111), none, .mov (.t 10)⟩,
      ⟨(some 112), none, .bin .sub .no (.t 111) (.c (.raw (.int .i64 1)))⟩,
      ⟨(some 113), none, .iaddr 1 none (.t 110) (.t 112)⟩,
      ⟨(some 114), none, .load none (.t 113)⟩,
      ⟨(some 115), none, .call 89 [(.t 109), (.t 114)]⟩,
      ⟨(some 116), none, .un .not (.t 115)⟩]
      (.fl 0 (.fl 1 (.fr 2 (.fr 3 (.fl 4 (.fl 5 (.fl 6 (.fr 7 (.fr 8 (.st 9 [] (.fl 10 .done))))))))))))
    (.cond (.t 116)
     (.exit 6)
     .skip))
    (.draw [⟨(some 117), none, .mov (.t 0)⟩,
      ⟨(some 118), none, .mov (.t 10)⟩,
      ⟨(some 119), none, .mov (.t 0)⟩,
      ⟨(some 120), none, .mov (.t 10)⟩,
      ⟨(some 121), none, .bin .sub .no (.t 120) (.c (.raw (.int .i64 1)))⟩,
      ⟨(some 122), none, .mov (.t 0)⟩,
      ⟨(some 123), none, .mov (.t 10)⟩,
      ⟨(some 124), none, .bin .sub .no (.t 123) (.c (.raw (.int .i64 1)))⟩,
      ⟨(some 125), none, .iaddr 1 none (.t 122) (.t 124)⟩,
      ⟨(some 126), none, .load none (.t 125)⟩,
      ⟨(some 127), none, .mov (.t 0)⟩,
      ⟨(some 128), none, .mov (.t 10)⟩,
      ⟨(some 129), none, .iaddr 1 none (.t 127) (.t 128)⟩,
      ⟨(some 130), none, .load none (.t 129)⟩,
      ⟨(some 131), none, .iaddr 1 none (.t 117) (.t 118)⟩,
      ⟨none, none, .store none (.t 131) (.t 126)⟩,
      ⟨(some 132), none, .iaddr 1 none (.t 119) (.t 121)⟩,
      ⟨none, none, .store none (.t 132) (.t 130)⟩]
      (.fl 0 (.fl 1 (.fl 2 (.fl 3 (.fl 4 (.fl 5 (.fl 6 (.fl 7 (.fr 8 (.fr 9 (.fl 10 (.fl 11 (.fr 12 (.fr 13 (.fr 14 (.st 15 [] (.fr 16 (.st 17 [] .done)))))))))))))))))))))
    (.reg [⟨(some 104), none, .mov (.t 10)⟩,
      ⟨(some 105), none, .bin .add .no (.t 104) (.c (.raw (.int .i64 1)))⟩,
      ⟨(some 10), none, .mov (.t 105)⟩]))))))
   .skip))))))))
  (.reg [⟨(some 15), none, .mov (.t 8)⟩,
    ⟨(some 16), none, .bin .add .no (.t 15) (.c (.raw (.int .i64 1)))⟩,
    ⟨(some 8), none, .mov (.t 16)⟩]))))))
 (.seq (.reg [⟨(some 6), none, .mov (.c (.kb false))⟩])
 .ret))))
theorem i_slices_partialInsertionSortOrdered_string : Is Tryd.prog 88 133 [.t 6] c_slices_partialInsertionSortOrdered_string := ⟨Tryd.f88, _, p_slices_partialInsertionSortOrdered_string, rfl, rfl, by kernel_rfl, by kernel_rfl, rfl⟩
def p_cmp_Less_string : List (Nat × Pl) := []
def c_cmp_Less_string : VCode :=
 (.seq (.reg [⟨(some 4), none, .mov (.c (.kb false))⟩])
 (.seq (.reg [⟨(some 5), none, .mov (.t 0)⟩,
   ⟨(some 6), none, .call 113 [(.t 5)]⟩,
   ⟨(some 7), none, .mov (.t 6)⟩,
   ⟨(some 8), (some (7, true)), .mov (.t 1)⟩,
   ⟨(some 9), (some (7, true)), .call 113 [(.t 8)]⟩,
   ⟨(some 10), (some (7, true)), .un .not (.t 9)⟩,
   ⟨(some 11), none, .pick (.t 7) (.t 10) (.c (.kb false))⟩,
   ⟨(some 12), none, .mov (.t 11)⟩,
   ⟨(some 13), (some (12, false)), .mov (.t 0)⟩,
   ⟨(some 14), (some (12, false)), .mov (.t 1)⟩,
   ⟨(some 15), (some (12, false)), .bin .lss .no (.t 13) (.t 14)⟩,
   ⟨(some 16), none, .pick (.t 12) (.c (.kb true)) (.t 15)⟩,
   ⟨(some 4), none, .mov (.t 16)⟩])
 .ret))
theorem i_cmp_Less_string : Is Tryd.prog 89 17 [.t 4] c_cmp_Less_string := ⟨Tryd.f89, _, p_cmp_Less_string, rfl, rfl, by kernel_rfl, by kernel_rfl, rfl⟩
def p_slices_partitionEqualOrdered_string : List (Nat × Pl) := [(1, (.fl 0 (.fl 1 (.fl 2 (.fl 3 (.fl 4 (.fl 5 (.fr 6 (.fr 7 (.fl 8 (.fl 9 (.fr 10 (.fr 11 (.fr 12 (.st 13 [] (.fr 14 (.st 15 [] .done))))))))))))))))), (3, (.fl 0 (.fl 1 (.fl 2 (.fl 3 (.fl 4 (.fl 5 (.fr 6 (.fr 7 (.fl 8 (.fl 9 (.fr 10 (.fr 11 (.st 12 [] (.fl 13 (.fl 14 .done)))))))))))))))), (5, (.fl 0 (.fl 1 (.fl 2 (.fl 3 (.fl 4 (.fl 5 (.fr 6 (.fr 7 (.fl 8 (.fl 9 (.fr 10 (.fr 11 (.st 12 [] (.fl 13 .done))))))))))))))), (8, (.fl 0 (.fl 1 (.fl 2 (.fl 3 (.fl 4 (.fl 5 (.fr 6 (.fr 7 (.fl 8 (.fl 9 (.fr 10 (.fr 11 (.fr 12 (.st 13 [] (.fr 14 (.st 15 [] .done)))))))))))))))))]
def c_slices_partitionEqualOrdered_string : VCode :=
 (.seq (.reg [⟨(some 8), none, .mov (.c (.raw (.int .i64 0)))⟩])
 (.seq (.draw [⟨(some 11), none, .mov (.t 0)⟩,
   ⟨(some 12), none, .mov (.t 1)⟩,
   ⟨(some 13), none, .mov (.t 0)⟩,
   ⟨(some 14), none, .mov (.t 3)⟩,
   ⟨(some 15), none, .mov (.t 0)⟩,
   ⟨(some 16), none, .mov (.t 3)⟩,
   ⟨(some 17), none, .iaddr 1 none (.t 15) (.t 16)⟩,
   ⟨(some 18), none, .load none (.t 17)⟩,
   ⟨(some 19), none, .mov (.t 0)⟩,
   ⟨(some 20), none, .mov (.t 1)⟩,
   ⟨(some 21), none, .iaddr 1 none (.t 19) (.t 20)⟩,
   ⟨(some 22), none, .load none (.t 21)⟩,
   ⟨(some 23), none, .iaddr 1 none (.t 11) (.t 12)⟩,
   ⟨none, none, .store none (.t 23) (.t 18)⟩,
   ⟨(some 24), none, .iaddr 1 none (.t 13) (.t 14)⟩,
   ⟨none, none, .store none (.t 24) (.t 22)⟩]
   (.fl 0 (.fl 1 (.fl 2 (.fl 3 (.fl 4 (.fl 5 (.fr 6 (.fr 7 (.fl 8 (.fl 9 (.fr 10 (.fr 11 (.fr 12 (.st 13 [] (.fr 14 (.st 15 [] .done)))))))))))))))))
 (.seq (.reg [⟨(some 25), none, .mov (.t 1)⟩,
   ⟨(some 26), none, .bin .add .no (.t 25) (.c (.raw (.int .i64 1)))⟩,
   ⟨(some 27), none, .mov (.t 2)⟩,
   ⟨(some 28), none, .bin .sub .no (.t 27) (.c (.raw (.int .i64 1)))⟩,
   ⟨(some 9), none, .mov (.t 26)⟩,
   ⟨(some 10), none, .mov (.t 28)⟩])
 (.seq (.block 0 (.loop (.block 1 (.seq (.block 2 (.loop (.seq (.seq (.draw [⟨(some 29), none, .mov (.t 9)⟩,
     ⟨(some 30), none, .mov (.t 10)⟩,
     ⟨(some 31), none, .bin .leq .no (.t 29) (.t 30)⟩,
     ⟨(some 32), none, .mov (.t 31)⟩,
     ⟨(some 33), (some (32, true)), .mov (.t 0)⟩,
     ⟨(some 34), (some (32, true)), .mov (.t 1)⟩,
     ⟨(some 35), (some (32, true)), .iaddr 1 none (.t 33) (.t 34)⟩,
     ⟨(some 36), (some (32, true)), .load none (.t 35)⟩,
     ⟨(some 37), (some (32, true)), .mov (.t 0)⟩,
     ⟨(some 38), (some (32, true)), .mov (.t 9)⟩,
     ⟨(some 39), (some (32, true)), .iaddr 1 none (.t 37) (.t 38)⟩,
     ⟨(some 40), (some (32, true)), .load none (.t 39)⟩,
     ⟨(some 41), (some (32, true)), .call 89 [(.t 36), (.t 40)]⟩,
     ⟨(some 42), (some (32, true)), .un .not (.t 41)⟩,
     ⟨(some 43), none, .pick (.t 32) (.t 42) (.c (.kb false))⟩]
     (.fl 0 (.fl 1 (.fl 2 (.fl 3 (.fl 4 (.fl 5 (.fr 6 (.fr 7 (.fl 8 (.fl 9 (.fr 10 (.fr 11 (.st 12 [] (.fl 13 (.fl 14 .done))))))))))))))))
   (.cond (.t 43)
    .skip
    (.exit 2)))
   (.block 3 (.reg [⟨(some 44), none, .mov (.t 9)⟩,
     ⟨(some 45), none, .bin .add .no (.t 44) (.c (.raw (.int .i64 1)))⟩,
     ⟨(some 9), none, .mov (.t 45)⟩])))))
  (.seq (.block 4 (.loop (.seq (.seq (.draw [⟨(some 46), none, .mov (.t 9)⟩,
     ⟨(some 47), none, .mov (.t 10)⟩,
     ⟨(some 48), none, .bin .leq .no (.t 46) (.t 47)⟩,
     ⟨(some 49), none, .mov (.t 48)⟩,
     ⟨(some 50), (some (49, true)), .mov (.t 0)⟩,
     ⟨(some 51), (some (49, true)), .mov (.t 1)⟩,
     ⟨(some 52), (some (49, true)), .iaddr 1 none (.t 50) (.t 51)⟩,
     ⟨(some 53), (some (49, true)), .load none (.t 52)⟩,
     ⟨(some 54), (some (49, true)), .mov (.t 0)⟩,
     ⟨(some 55), (some (49, true)), .mov (.t 10)⟩,
     ⟨(some 56), (some (49, true)), .iaddr 1 none (.t 54) (.t 55)⟩,
     ⟨(some 57), (some (49, true)), .load none (.t 56)⟩,
     ⟨(some 58), (some (49, true)), .call 89 [(.t 53), (.t 57)]⟩,
     ⟨(some 59), none, .pick (.t 49) (.t 58) (.c (.kb false))⟩]
     (.fl 0 (.fl 1 (.fl 2 (.fl 3 (.fl 4 (.fl 5 (.fr 6 (.fr 7 (.fl 8 (.fl 9 (.fr 10 (.fr 11 (.st 12 [] (.fl 13 .done)))))))))))))))
   (.cond (.t 59)
    .skip
    (.exit 4)))
   (.block 5 (.reg [⟨(some 60), none, .mov (.t 10)⟩,
     ⟨(some 61), none, .bin .sub .no (.t 60) (.c (.raw (.int .i64 1)))⟩,
     ⟨(some 10), none, .mov (.t 61)⟩])))))
  (.seq (.seq (.reg [⟨(some 62), none, .mov (.t 9)⟩,
    ⟨(some 63), none, .mov (.t 10)⟩,
    ⟨(some 64), none, .bin .gtr .no (.t 62) (.t 63)⟩])
  (.cond (.t 64)
   (.exit 0)
   .skip))
  (.seq (.draw [⟨(some 65), none, .mov (.t 0)⟩,
    ⟨(some 66), none, .mov (.t 9)⟩,
    ⟨(some 67), none, .mov (.t 0)⟩,
    ⟨(some 68), none, .mov (.t 10)⟩,
    ⟨(some 69), none, .mov (.t 0)⟩,
    ⟨(some 70), none, .mov (.t 10)⟩,
    ⟨(some 71), none, .iaddr 1 none (.t 69) (.t 70)⟩,
    ⟨(some 72), none, .load none (.t 71)⟩,
    ⟨(some 73), none, .mov (.t 0)⟩,
    ⟨(some 74), none, .mov (.t 9)⟩,
    ⟨(some 75), none, .iaddr 1 none (.t 73) (.t 74)⟩,
    ⟨(some 76), none, .load none (.t 75)⟩,
    ⟨(some 77), none, .iaddr 1 none (.t 65) (.t 66)⟩,
    ⟨none, none, .store none (.t 77) (.t 72)⟩,
    ⟨(some 78), none, .iaddr 1 none (.t 67) (.t 68)⟩,
    ⟨none, none, .store none (.t 78) (.t 76)⟩]
    (.fl 0 (.fl 1 (.fl 2 (.fl 3 (.fl 4 (.fl 5 (.fr 6 (.fr 7 (.fl 8 (.fl 9 (.fr 10 (.fr 11 (.fr 12 (.st 13 [] (.fr 14 (.st 15 [] .done)))))))))))))))))
  (.seq (.reg [⟨(some 79), none, .mov (.t 9)⟩,
    ⟨(some 80), none, .bin .add .no (.t 79) (.c (.raw (.int .i64 1)))⟩,
    ⟨(some 9), none, .mov (.t 80)⟩])
  (.reg [⟨(some 81), none, .mov (.t 10)⟩,
    ⟨(some 82), none, .bin .sub .no (.t 81) (.c (.raw (.int .i64 1)))⟩,
    ⟨(some 10), none, .mov (.t 82)⟩])))))))))
 (.seq (.reg [⟨(some 83), none, .mov (.t 9)⟩,
   ⟨(some 8), none, .mov (.t 83)⟩])
 .ret)))))
theorem i_slices_partitionEqualOrdered_string : Is Tryd.prog 90 84 [.t 8] c_slices_partitionEqualOrdered_string := ⟨Tryd.f90, _, p_slices_partitionEqualOrdered_string, rfl, rfl, by kernel_rfl, by kernel_rfl, rfl⟩
def p_slices_partitionOrdered_string : List (Nat × Pl) := [(1, (.fl 0 (.fl 1 (.fl 2 (.fl 3 (.fl 4 (.fl 5 (.fr 6 (.fr 7 (.fl 8 (.fl 9 (.fr 10 (.fr 11 (.fr 12 (.st 13 [] (.fr 14 (.st 15 [] .done))))))))))))))))), (3, (.fl 0 (.fl 1 (.fl 2 (.fl 3 (.fl 4 (.fl 5 (.fr 6 (.fr 7 (.fl 8 (.fl 9 (.fr 10 (.fr 11 (.st 12 [] (.fl 13 .done))))))))))))))), (5, (.fl 0 (.fl 1 (.fl 2 (.fl 3 (.fl 4 (.fl 5 (.fr 6 (.fr 7 (.fl 8 (.fl 9 (.fr 10 (.fr 11 (.st 12 [] (.fl 13 (.fl 14 .done)))))))))))))))), (8, (.fl 0 (.fl 1 (.fl 2 (.fl 3 (.fl 4 (.fl 5 (.fr 6 (.fr 7 (.fl 8 (.fl 9 (.fr 10 (.fr 11 (.fr 12 (.st 13 [] (.fr 14 (.st 15 [] .done))))))))))))))))), (10, (.fl 0 (.fl 1 (.fl 2 (.fl 3 (.fl 4 (.fl 5 (.fr 6 (.fr 7 (.fl 8 (.fl 9 (.fr 10 (.fr 11 (.fr 12 (.st 13 [] (.fr 14 (.st 15 [] .done))))))))))))))))), (13, (.fl 0 (.fl 1 (.fl 2 (.fl 3 (.fl 4 (.fl 5 (.fr 6 (.fr 7 (.fl 8 (.fl 9 (.fr 10 (.fr 11 (.st 12 [] (.fl 13 .done))))))))))))))), (15, (.fl 0 (.fl 1 (.fl 2 (.fl 3 (.fl 4 (.fl 5 (.fr 6 (.fr 7 (.fl 8 (.fl 9 (.fr 10 (.fr 11 (.st 12 [] (.fl 13 (.fl 14 .done)))))))))))))))), (18, (.fl 0 (.fl 1 (.fl 2 (.fl 3 (.fl 4 (.fl 5 (.fr 6 (.fr 7 (.fl 8 (.fl 9 (.fr 10 (.fr 11 (.fr 12 (.st 13 [] (.fr 14 (.st 15 [] .done))))))))))))))))), (21, (.fl 0 (.fl 1 (.fl 2 (.fl 3 (.fl 4 (.fl 5 (.fr 6 (.fr 7 (.fl 8 (.fl 9 (.fr 10 (.fr 11 (.fr 12 (.st 13 [] (.fr 14 (.st 15 [] .done)))))))))))))))))]
def c_slices_partitionOrdered_string : VCode :=
 (.seq (.reg [⟨(some 8), none, .mov (.c (.raw (.int .i64 0)))⟩,
   ⟨(some 9), none, .mov (.c (.kb false))⟩])
 (.seq (.draw [⟨(some 12), none, .mov (.t 0)⟩,
   ⟨(some 13), none, .mov (.t 1)⟩,
   ⟨(some 14), none, .mov (.t 0)⟩,
   ⟨(some 15), none, .mov (.t 3)⟩,
   ⟨(some 16), none, .mov (.t 0)⟩,
   ⟨(some 17), none, .mov (.t 3)⟩,
   ⟨(some 18), none, .iaddr 1 none (.t 16) (.t 17)⟩,
   ⟨(some 19), none, .load none (.t 18)⟩,
   ⟨(some 20), none, .mov (.t 0)⟩,
   ⟨(some 21), none, .mov (.t 1)⟩,
   ⟨(some 22), none, .iaddr 1 none (.t 20) (.t 21)⟩,
   ⟨(some 23), none, .load none (.t 22)⟩,
   ⟨(some 24), none, .iaddr 1 none (.t 12) (.t 13)⟩,
   ⟨none, none, .store none (.t 24) (.t 19)⟩,
   ⟨(some 25), none, .iaddr 1 none (.t 14) (.t 15)⟩,
   ⟨none, none, .store none (.t 25) (.t 23)⟩]
   (.fl 0 (.fl 1 (.fl 2 (.fl 3 (.fl 4 (.fl 5 (.fr 6 (.fr 7 (.fl 8 (.fl 9 (.fr 10 (.fr 11 (.fr 12 (.st 13 [] (.fr 14 (.st 15 [] .done)))))))))))))))))
 (.seq (.reg [⟨(some 26), none, .mov (.t 1)⟩,
   ⟨(some 27), none, .bin .add .no (.t 26) (.c (.raw (.int .i64 1)))⟩,
   ⟨(some 28), none, .mov (.t 2)⟩,
   ⟨(some 29), none, .bin .sub .no (.t 28) (.c (.raw (.int .i64 1)))⟩,
   ⟨(some 10), none, .mov (.t 27)⟩,
   ⟨(some 11), none, .mov (.t 29)⟩])
 (.seq (.block 0 (.loop (.seq (.seq (.draw [⟨(some 30), none, .mov (.t 10)⟩,
    ⟨(some 31), none, .mov (.t 11)⟩,
    ⟨(some 32), none, .bin .leq .no (.t 30) (.t 31)⟩,
    ⟨(some 33), none, .mov (.t 32)⟩,
    ⟨(some 34), (some (33, true)), .mov (.t 0)⟩,
    ⟨(some 35), (some (33, true)), .mov (.t 10)⟩,
    ⟨(some 36), (some (33, true)), .iaddr 1 none (.t 34) (.t 35)⟩,
    ⟨(some 37), (some (33, true)), .load none (.t 36)⟩,
    ⟨(some 38), (some (33, true)), .mov (.t 0)⟩,
    ⟨(some 39), (some (33, true)), .mov (.t 1)⟩,
    ⟨(some 40), (some (33, true)), .iaddr 1 none (.t 38) (.t 39)⟩,
    ⟨(some 41), (some (33, true)), .load none (.t 40)⟩,
    ⟨(some 42), (some (33, true)), .call 89 [(.t 37), (.t 41)]⟩,
    ⟨(some 43), none, .pick (.t 33) (.t 42) (.c (.kb false))⟩]
    (.fl 0 (.fl 1 (.fl 2 (.fl 3 (.fl 4 (.fl 5 (.fr 6 (.fr 7 (.fl 8 (.fl 9 (.fr 10 (.fr 11 (.st 12 [] (.fl 13 .done)))))))))))))))
  (.cond (.t 43)
   .skip
   (.exit 0)))
  (.block 1 (.reg [⟨(some 44), none, .mov (.t 10)⟩,
    ⟨(some 45), none, .bin .add .no (.t 44) (.c (.raw (.int .i64 1)))⟩,
    ⟨(some 10), none, .mov (.t 45)⟩])))))
 (.seq (.block 2 (.loop (.seq (.seq (.draw [⟨(some 46), none, .mov (.t 10)⟩,
    ⟨(some 47), none, .mov (.t 11)⟩,
    ⟨(some 48), none, .bin .leq .no (.t 46) (.t 47)⟩,
    ⟨(some 49), none, .mov (.t 48)⟩,
    ⟨(some 50), (some (49, true)), .mov (.t 0)⟩,
    ⟨(some 51), (some (49, true)), .mov (.t 11)⟩,
    ⟨(some 52), (some (49, true)), .iaddr 1 none (.t 50) (.t 51)⟩,
    ⟨(some 53), (some (49, true)), .load none (.t 52)⟩,
    ⟨(some 54), (some (49, true)), .mov (.t 0)⟩,
    ⟨(some 55), (some (49, true)), .mov (.t 1)⟩,
    ⟨(some 56), (some (49, true)), .iaddr 1 none (.t 54) (.t 55)⟩,
    ⟨(some 57), (some (49, true)), .load none (.t 56)⟩,
    ⟨(some 58), (some (49, true)), .call 89 [(.t 53), (.t 57)]⟩,
    ⟨(some 59), (some (49, true)), .un .not (.t 58)⟩,
    ⟨(some 60), none, .pick (.t 49) (.t 59) (.c (.kb false))⟩]
    (.fl 0 (.fl 1 (.fl 2 (.fl 3 (.fl 4 (.fl 5 (.fr 6 (.fr 7 (.fl 8 (.fl 9 (.fr 10 (.fr 11 (.st 12 [] (.fl 13 (.fl 14 .done))))))))))))))))
  (.cond (.t 60)
   .skip
   (.exit 2)))
  (.block 3 (.reg [⟨(some 61), none, .mov (.t 11)⟩,
    ⟨(some 62), none, .bin .sub .no (.t 61) (.c (.raw (.int .i64 1)))⟩,
    ⟨(some 11), none, .mov (.t 62)⟩])))))
 (.seq (.seq (.reg [⟨(some 63), none, .mov (.t 10)⟩,
   ⟨(some 64), none, .mov (.t 11)⟩,
   ⟨(some 65), none, .bin .gtr .no (.t 63) (.t 64)⟩])
 (.cond (.t 65)
  (.seq (.draw [⟨(some 66), none, .mov (.t 0)⟩,
    ⟨(some 67), none, .mov (.t 11)⟩,
    ⟨(some 68), none, .mov (.t 0)⟩,
    ⟨(some 69), none, .mov (.t 1)⟩,
    ⟨(some 70), none, .mov (.t 0)⟩,
    ⟨(some 71), none, .mov (.t 1)⟩,
    ⟨(some 72), none, .iaddr 1 none (.t 70) (.t 71)⟩,
    ⟨(some 73), none, .load none (.t 72)⟩,
    ⟨(some 74), none, .mov (.t 0)⟩,
    ⟨(some 75), none, .mov (.t 11)⟩,
    ⟨(some 76), none, .iaddr 1 none (.t 74) (.t 75)⟩,
    ⟨(some 77), none, .load none (.t 76)⟩,
    ⟨(some 78), none, .iaddr 1 none (.t 66) (.t 67)⟩,
    ⟨none, none, .store none (.t 78) (.t 73)⟩,
    ⟨(some 79), none, .iaddr 1 none (.t 68) (.t 69)⟩,
    ⟨none, none, .store none (.t 79) (.t 77)⟩]
    (.fl 0 (.fl 1 (.fl 2 (.fl 3 (.fl 4 (.fl 5 (.fr 6 (.fr 7 (.fl 8 (.fl 9 (.fr 10 (.fr 11 (.fr 12 (.st 13 [] (.fr 14 (.st 15 [] .done)))))))))))))))))
  (.seq (.reg [⟨(some 80), none, .mov (.t 11)⟩,
    ⟨(some 8), none, .mov (.t 80)⟩,
    ⟨(some 9), none, .mov (.c (.kb true))⟩])
  .ret))
  .skip))
 (.seq (.draw [⟨(some 81), none, .mov (.t 0)⟩,
   ⟨(some 82), none, .mov (.t 10)⟩,
   ⟨(some 83), none, .mov (.t 0)⟩,
   ⟨(some 84), none, .mov (.t 11)⟩,
   ⟨(some 85), none, .mov (.t 0)⟩,
   ⟨(some 86), none, .mov (.t 11)⟩,
   ⟨(some 87), none, .iaddr 1 none (.t 85) (.t 86)⟩,
   ⟨(some 88), none, .load none (.t 87)⟩,
   ⟨(some 89), none, .mov (.t 0)⟩,
   ⟨(some 90), none, .mov (.t 10)⟩,
   ⟨(some 91), none, .iaddr 1 none (.t 89) (.t 90)⟩,
   ⟨(some 92), none, .load none (.t 91)⟩,
   ⟨(some 93), none, .iaddr 1 none (.t 81) (.t 82)⟩,
   ⟨none, none, .store none (.t 93) (.t 88)⟩,
   ⟨(some 94), none, .iaddr 1 none (.t 83) (.t 84)⟩,
   ⟨none, none, .store none (.t 94) (.t 92)⟩]
   (.fl 0 (.fl 1 (.fl 2 (.fl 3 (.fl 4 (.fl 5 (.fr 6 (.fr 7 (.fl 8 (.fl 9 (.fr 10 (.fr 11 (.fr 12 (.st 13 [] (.fr 14 (.st 15 [] .done)))))))))))))))))
 (.seq (.reg [⟨(some 95), none, .mov (.t 10)⟩,
   ⟨(some 96), none, .bin .add .no (.t 95) (.c (.raw (.int .i64 1)))⟩,
   ⟨(some 10), none, .mov (.t 96)⟩])
 (.seq (.reg [⟨(some 97), none, .mov (.t 11)⟩,
   ⟨(some 98), none, .bin .sub .no (.t 97) (.c (.raw (.int .i64 1)))⟩,
   ⟨(some 11), none, .mov (.t 98)⟩])
 (.seq (.block 4 (.loop (.block 5 (.seq (.block 6 (.loop (.seq (.seq (.draw [⟨(some 99), none, .mov (.t 10)⟩,
     ⟨(some 100), none, .mov (.t 11)⟩,
     ⟨(some 101), none, .bin .leq .no (.t 99) (.t 100)⟩,
     ⟨(some 102), none, .mov (.t 101)⟩,
     ⟨(some 103), (some (102, true)), .mov (.t 0)⟩,
     ⟨(some 104), (some (102, true)), .mov (.t 10)⟩,
     ⟨(some 105), (some (102, true)), .iaddr 1 none (.t 103) (.t 104)⟩,
     ⟨(some 106), (some (102, true)), .load none (.t 105)⟩,
     ⟨(some 107), (some (102, true)), .mov (.t 0)⟩,
     ⟨(some 108), (some (102, true)), .mov (.t 1)⟩,
     ⟨(some 109), (some (102, true)), .iaddr 1 none (.t 107) (.t 108)⟩,
     ⟨(some 110), (some (102, true)), .load none (.t 109)⟩,
     ⟨(some 111), (some (102, true)), .call 89 [(.t 106), (.t 110)]⟩,
     ⟨(some 112), none, .pick (.t 102) (.t 111) (.c (.kb false))⟩]
     (.fl 0 (.fl 1 (.fl 2 (.fl 3 (.fl 4 (.fl 5 (.fr 6 (.fr 7 (.fl 8 (.fl 9 (.fr 10 (.fr 11 (.st 12 [] (.fl 13 .done)))))))))))))))
   (.cond (.t 112)
    .skip
    (.exit 6)))
   (.block 7 (.reg [⟨(some 113), none, .mov (.t 10)⟩,
     ⟨(some 114), none, .bin .add .no (.t 113) (.c (.raw (.int .i64 1)))⟩,
     ⟨(some 10), none, .mov (.t 114)⟩])))))
  (.seq (.block 8 (.loop (.seq (.seq (.draw [⟨(some 115), none, .mov (.t 10)⟩,
     ⟨(some 116), none, .mov (.t 11)⟩,
     ⟨(some 117), none, .bin .leq .no (.t 115) (.t 116)⟩,
     ⟨(some 118), none, .mov (.t 117)⟩,
     ⟨(some 119), (some (118, true)), .mov (.t 0)⟩,
     ⟨(some 120), (some (118, true)), .mov (.t 11)⟩,
     ⟨(some 121), (some (118, true)), .iaddr 1 none (.t 119) (.t 120)⟩,
     ⟨(some 122), (some (118, true)), .load none (.t 121)⟩,
     ⟨(some 123), (some (118, true)), .mov (.t 0)⟩,
     ⟨(some 124), (some (118, true)), .mov (.t 1)⟩,
     ⟨(some 125), (some (118, true)), .iaddr 1 none (.t 123) (.t 124)⟩,
     ⟨(some 126), (some (118, true)), .load none (.t 125)⟩,
     ⟨(some 127), (some (118, true)), .call 89 [(.t 122), (.t 126)]⟩,
     ⟨(some 128), (some (118, true)), .un .not (.t 127)⟩,
     ⟨(some 129), none, .pick (.t 118) (.t 128) (.c (.kb false))⟩]
     (.fl 0 (.fl 1 (.fl 2 (.fl 3 (.fl 4 (.fl 5 (.fr 6 (.fr 7 (.fl 8 (.fl 9 (.fr 10 (.fr 11 (.st 12 [] (.fl 13 (.fl 14 .done))))))))))))))))
   (.cond (.t 129)
    .skip
    (.exit 8)))
   (.block 9 (.reg [⟨(some 130), none, .mov (.t 11)⟩,
     ⟨(some 131), none, .bin .sub .no (.t 130) (.c (.raw (.int .i64 1)))⟩,
     ⟨(some 11), none, .mov (.t 131)⟩])))))
  (.seq (.seq (.reg [⟨(some 132), none, .mov (.t 10)⟩,
    ⟨(some 133), none, .mov (.t 11)⟩,
    ⟨(some 134), none, .bin .gtr .no (.t 132) (.t 133)⟩])
  (.cond (.t 134)
   (.exit 4)
   .skip))
  (.seq (.draw [⟨(some 135), none, .mov (.t 0)⟩,
    ⟨(some 136), none, .mov (.t 10)⟩,
    ⟨(some 137), none, .mov (.t 0)⟩,
    ⟨(some 138), none, .mov (.t 11)⟩,
    ⟨(some 139), none, .mov (.t 0)⟩,
    ⟨(some 140), none, .mov (.t 11)⟩,
    ⟨(some 141), none, .iaddr 1 none (.t 139) (.t 140)⟩,
    ⟨(some 142), none, .load none (.t 141)⟩,
    ⟨(some 143), none, .mov (.t 0)⟩,
    ⟨(some 144), none, .mov (.t 10)⟩,
    ⟨(some 145), none, .iaddr 1 none (.t 143) (.t 144)⟩,
    ⟨(some 146), none, .load none (.t 145)⟩,
    ⟨(some 147), none, .iaddr 1 none (.t 135) (.t 136)⟩,
    ⟨none, none, .store none (.t 147) (.t 142)⟩,
    ⟨(some 148), none, .iaddr 1 none (.t 137) (.t 138)⟩,
    ⟨none, none, .store none (.t 148) (.t 146)⟩]
    (.fl 0 (.fl 1 (.fl 2 (.fl 3 (.fl 4 (.fl 5 (.fr 6 (.fr 7 (.fl 8 (.fl 9 (.fr 10 (.fr 11 (.fr 12 (.st 13 [] (.fr 14 (.st 15 [] .done)))))))))))))))))
  (.seq (.reg [⟨(some 149), none, .mov (.t 10)⟩,
    ⟨(some 150), none, .bin .add .no (.t 149) (.c (.raw (.int .i64 1)))⟩,
    ⟨(some 10), none, .mov (.t 150)⟩])
  (.reg [⟨(some 151), none, .mov (.t 11)⟩,
    ⟨(some 152), none, .bin .sub .no (.t 151) (.c (.raw (.int .i64 1)))⟩,
    ⟨(some 11), none, .mov (.t 152)⟩])))))))))
 (.seq (.draw [⟨(some 153), none, .mov (.t 0)⟩,
   ⟨(some 154), none, .mov (.t 11)⟩,
   ⟨(some 155), none, .mov (.t 0)⟩,
   ⟨(some 156), none, .mov (.t 1)⟩,
   ⟨(some 157), none, .mov (.t 0)⟩,
   ⟨(some 158), none, .mov (.t 1)⟩,
   ⟨(some 159), none, .iaddr 1 none (.t 157) (.t 158)⟩,
   ⟨(some 160), none, .load none (.t 159)⟩,
   ⟨(some 161), none, .mov (.t 0)⟩,
   ⟨(some 162), none, .mov (.t 11)⟩,
   ⟨(some 163), none, .iaddr 1 none (.t 161) (.t 162)⟩,
   ⟨(some 164), none, .load none (.t 163)⟩,
   ⟨(some 165), none, .iaddr 1 none (.t 153) (.t 154)⟩,
   ⟨none, none, .store none (.t 165) (.t 160)⟩,
   ⟨(some 166), none, .iaddr 1 none (.t 155) (.t 156)⟩,
   ⟨none, none, .store none (.t 166) (.t 164)⟩]
   (.fl 0 (.fl 1 (.fl 2 (.fl 3 (.fl 4 (.fl 5 (.fr 6 (.fr 7 (.fl 8 (.fl 9 (.fr 10 (.fr 11 (.fr 12 (.st 13 [] (.fr 14 (.st 15 [] .done)))))))))))))))))
 (.seq (.reg [⟨(some 167), none, .mov (.t 11)⟩,
   ⟨(some 8), none, .mov (.t 167)⟩,
   ⟨(some 9), none, .mov (.c (.kb false))⟩])
 .ret))))))))))))
theorem i_slices_partitionOrdered_string : Is Tryd.prog 91 168 [.t 8, .t 9] c_slices_partitionOrdered_string := ⟨Tryd.f91, _, p_slices_partitionOrdered_string, rfl, rfl, by kernel_rfl, by kernel_rfl, rfl⟩
def p_math_bits_Len32 : List (Nat × Pl) := []
def c_math_bits_Len32 : VCode :=
 (.seq (.reg [⟨(some 2), none, .mov (.c (.raw (.int .i64 0)))⟩])
 (.seq (.seq (.reg [⟨(some 3), none, .mov (.t 0)⟩,
   ⟨(some 4), none, .bin .geq .no (.t 3) (.c (.raw (.int .u32 65536)))⟩])
 (.cond (.t 4)
  (.seq (.reg [⟨(some 5), none, .mov (.t 0)⟩,
    ⟨(some 6), none, .bin .shr .no (.t 5) (.c (.raw (.int .u64 16)))⟩,
    ⟨(some 0), none, .mov (.t 6)⟩])
  (.reg [⟨(some 2), none, .mov (.c (.raw (.int .i64 16)))⟩]))
  .skip))
 (.seq (.seq (.reg [⟨(some 7), none, .mov (.t 0)⟩,
   ⟨(some 8), none, .bin .geq .no (.t 7) (.c (.raw (.int .u32 256)))⟩])
 (.cond (.t 8)
  (.seq (.reg [⟨(some 9), none, .mov (.t 0)⟩,
    ⟨(some 10), none, .bin .shr .no (.t 9) (.c (.raw (.int .u64 8)))⟩,
    ⟨(some 0), none, .mov (.t 10)⟩])
  (.reg [⟨(some 11), none, .mov (.t 2)⟩,
    ⟨(some 12), none, .bin .add .no (.t 11) (.c (.raw (.int .i64 8)))⟩,
    ⟨(some 2), none, .mov (.t 12)⟩]))
  .skip))
 (.seq (.reg [⟨(some 13), none, .mov (.t 2)⟩,
   ⟨(some 14), none, .mov (.t 0)⟩,
   ⟨(some 15), none, .conv (.int .u8) (.t 14)⟩,
   ⟨(some 16), none, .sindex (.c (.raw (.string (ByteArray.mk #[0, 1, 2, 2, 3, 3, 3, 3, 4, 4, 4, 4, 4, 4, 4, 4, 5, 5, 5, 5, 5, 5, 5, 5, 5, 5, 5, 5, 5, 5, 5, 5, 6, 6, 6, 6, 6, 6, 6, 6, 6, 6, 6, 6, 6, 6, 6, 6, 6, 6, 6, 6, 6, 6, 6, 6, 6, 6, 6, 6, 6, 6, 6, 6, 7, 7, 7, 7, 7, 7, 7, 7, 7, 7, 7, 7, 7, 7, 7, 7, 7, 7, 7, 7, 7, 7, 7, 7, 7, 7, 7, 7, 7, 7, 7, 7, 7, 7, 7, 7, 7, 7, 7, 7, 7, 7, 7, 7, 7, 7, 7, 7, 7, 7, 7, 7, 7, 7, 7, 7, 7, 7, 7, 7, 7, 7, 7, 7, 8, 8, 8, 8, 8, 8, 8, 8, 8, 8, 8, 8, 8, 8, 8, 8, 8, 8, 8, 8, 8, 8, 8, 8, 8, 8, 8, 8, 8, 8, 8, 8, 8, 8, 8, 8, 8, 8, 8, 8, 8, 8, 8, 8, 8, 8, 8, 8, 8, 8, 8, 8, 8, 8, 8, 8, 8, 8, 8, 8, 8, 8, 8, 8, 8, 8, 8, 8, 8, 8, 8, 8, 8, 8, 8, 8, 8, 8, 8, 8, 8, 8, 8, 8, 8, 8, 8, 8, 8, 8, 8, 8, 8, 8, 8, 8, 8, 8, 8, 8, 8, 8, 8, 8, 8, 8, 8, 8, 8, 8, 8, 8, 8, 8, 8, 8, 8, 8, 8, 8, 8, 8, 8, 8, 8, 8, 8, 8])))) (.t 15)⟩,
   ⟨(some 17), none, .conv (.int .i64) (.t 16)⟩,
   ⟨(some 18), none, .bin .add .no (.t 13) (.t 17)⟩,
   ⟨(some 2), none, .mov (.t 18)⟩])
 .ret))))
theorem i_math_bits_Len32 : Is Tryd.prog 92 19 [.t 2] c_math_bits_Len32 := ⟨Tryd.f92, _, p_math_bits_Len32, rfl, rfl, by kernel_rfl, by kernel_rfl, rfl⟩
def p_math_bits_Len64 : List (Nat × Pl) := []
def c_math_bits_Len64 : VCode :=
 (.seq (.reg [⟨(some 2), none, .mov (.c (.raw (.int .i64 0)))⟩])
 (.seq (.seq (.reg [⟨(some 3), none, .mov (.t 0)⟩,
   ⟨(some 4), none, .bin .geq .no (.t 3) (.c (.raw (.int .u64 4294967296)))⟩])
 (.cond (.t 4)
  (.seq (.reg [⟨(some 5), none, .mov (.t 0)⟩,
    ⟨(some 6), none, .bin .shr .no (.t 5) (.c (.raw (.int .u64 32)))⟩,
    ⟨(some 0), none, .mov (.t 6)⟩])
  (.reg [⟨(some 2), none, .mov (.c (.raw (.int .i64 32)))⟩]))
  .skip))
 (.seq (.seq (.reg [⟨(some 7), none, .mov (.t 0)⟩,
   ⟨(some 8), none, .bin .geq .no (.t 7) (.c (.raw (.int .u64 65536)))⟩])
 (.cond (.t 8)
  (.seq (.reg [⟨(some 9), none, .mov (.t 0)⟩,
    ⟨(some 10), none, .bin .shr .no (.t 9) (.c (.raw (.int .u64 16)))⟩,
    ⟨(some 0), none, .mov (.t 10)⟩])
  (.reg [⟨(some 11), none, .mov (.t 2)⟩,
    ⟨(some 12), none, .bin .add .no (.t 11) (.c (.raw (.int .i64 16)))⟩,
    ⟨(some 2), none, .mov (.t 12)⟩]))
  .skip))
 (.seq (.seq (.reg [⟨(some 13), none, .mov (.t 0)⟩,
   ⟨(some 14), none, .bin .geq .no (.t 13) (.c (.raw (.int .u64 256)))⟩])
 (.cond (.t 14)
  (.seq (.reg [⟨(some 15), none, .mov (.t 0)⟩,
    ⟨(some 16), none, .bin .shr .no (.t 15) (.c (.raw (.int .u64 8)))⟩,
    ⟨(some 0), none, .mov (.t 16)⟩])
  (.reg [⟨(some 17), none, .mov (.t 2)⟩,
    ⟨(some 18), none, .bin .add .no (.t 17) (.c (.raw (.int .i64 8)))⟩,
    ⟨(some 2), none, .mov (.t 18)⟩]))
  .skip))
 (.seq (.reg [⟨(some 19), none, .mov (.t 2)⟩,
   ⟨(some 20), none, .mov (.t 0)⟩,
   ⟨(some 21), none, .conv (.int .u8) (.t 20)⟩,
   ⟨(some 22), none, .sindex (.c (.raw (.string (ByteArray.mk #[0, 1, 2, 2, 3, 3, 3, 3, 4, 4, 4, 4, 4, 4, 4, 4, 5, 5, 5, 5, 5, 5, 5, 5, 5, 5, 5, 5, 5, 5, 5, 5, 6, 6, 6, 6, 6, 6, 6, 6, 6, 6, 6, 6, 6, 6, 6, 6, 6, 6, 6, 6, 6, 6, 6, 6, 6, 6, 6, 6, 6, 6, 6, 6, 7, 7, 7, 7, 7, 7, 7, 7, 7, 7, 7, 7, 7, 7, 7, 7, 7, 7, 7, 7, 7, 7, 7, 7, 7, 7, 7, 7, 7, 7, 7, 7, 7, 7, 7, 7, 7, 7, 7, 7, 7, 7, 7, 7, 7, 7, 7, 7, 7, 7, 7, 7, 7, 7, 7, 7, 7, 7, 7, 7, 7, 7, 7, 7, 8, 8, 8, 8, 8, 8, 8, 8, 8, 8, 8, 8, 8, 8, 8, 8, 8, 8, 8, 8, 8, 8, 8, 8, 8, 8, 8, 8, 8, 8, 8, 8, 8, 8, 8, 8, 8, 8, 8, 8, 8, 8, 8, 8, 8, 8, 8, 8, 8, 8, 8, 8, 8, 8, 8, 8, 8, 8, 8, 8, 8, 8, 8, 8, 8, 8, 8, 8, 8, 8, 8, 8, 8, 8, 8, 8, 8, 8, 8, 8, 8, 8, 8, 8, 8, 8, 8, 8, 8, 8, 8, 8, 8, 8, 8, 8, 8, 8, 8, 8, 8, 8, 8, 8, 8, 8, 8, 8, 8, 8, 8, 8, 8, 8, 8, 8, 8, 8, 8, 8, 8, 8, 8, 8, 8, 8, 8, 8])))) (.t 21)⟩,
   ⟨(some 23), none, .conv (.int .i64) (.t 22)⟩,
   ⟨(some 24), none, .bin .add .no (.t 19) (.t 23)⟩,
   ⟨(some 2), none, .mov (.t 24)⟩])
 .ret)))))
theorem i_math_bits_Len64 : Is Tryd.prog 93 25 [.t 2] c_math_bits_Len64 := ⟨Tryd.f93, _, p_math_bits_Len64, rfl, rfl, by kernel_rfl, by kernel_rfl, rfl⟩
def p_slices_insertionSortCmpFunc_api_Dot : List (Nat × Pl) := [(4, (.fl 0 (.fl 1 (.fl 2 (.fl 3 (.fl 4 (.fl 5 (.fl 6 (.fr 7 (.fr 8 (.fl 9 (.fl 10 (.fl 11 (.fr 12 (.fr 13 (.st 14 [] (.fl 15 (.fl 16 .done)))))))))))))))))), (6, (.fl 0 (.fl 1 (.fl 2 (.fl 3 (.fl 4 (.fl 5 (.fl 6 (.fl 7 (.fr 8 (.fr 9 (.fl 10 (.fl 11 (.fr 12 (.fr 13 (.fr 14 (.st 15 [] (.fr 16 (.st 17 [] .done)))))))))))))))))))]
def c_slices_insertionSortCmpFunc_api_Dot : VCode :=
 (.seq (.reg [⟨(some 10), none, .mov (.t 1)⟩,
   ⟨(some 11), none, .bin .add .no (.t 10) (.c (.raw (.int .i64 1)))⟩,
   ⟨(some 8), none, .mov (.t 11)⟩])
 (.block 0 (.loop (.seq (.seq (.reg [⟨(some 12), none, .mov (.t 8)⟩,
    ⟨(some 13), none, .mov (.t 2)⟩,
    ⟨(some 14), none, .bin .lss .no (.t 12) (.t 13)⟩])
  (.cond (.t 14)
   .skip
   (.exit 0)))
  (.seq (.block 1 (.seq (.reg [⟨(some 17), none, .mov (.t 8)⟩,
    ⟨(some 9), none, .mov (.t 17)⟩])
  (.block 2 (.loop (.seq (.seq (.draw [⟨(some 18), none, .mov (.t 9)⟩,
     ⟨(some 19), none, .mov (.t 1)⟩,
     ⟨(some 20), none, .bin .gtr .no (.t 18) (.t 19)⟩,
     ⟨(some 21), none, .mov (.t 20)⟩,
     ⟨(some 22), (some (21, true)), .mov (.t 3)⟩,
     ⟨(some 23), (some (21, true)), .mov (.t 0)⟩,
     ⟨(some 24), (some (21, true)), .mov (.t 9)⟩,
     ⟨(some 25), (some (21, true)), .iaddr 2 none (.t 23) (.t 24)⟩,
     ⟨(some 26), (some (21, true)), .load (some 2) (.t 25)⟩,
     ⟨(some 27), (some (21, true)), .mov (.t 0)⟩,
     ⟨(some 28), (some (21, true)), .mov (.t 9)⟩,
     ⟨(some 29), (some (21, true)), .bin .sub .no (.t 28) (.c (.raw (.int .i64 1)))⟩,
     ⟨(some 30), (some (21, true)), .iaddr 2 none (.t 27) (.t 29)⟩,
     ⟨(some 31), (some (21, true)), .load (some 2) (.t 30)⟩,
     ⟨(some 32), (some (21, true)), .callv (.t 22) [(.t 26), (.t 31)]⟩,
     ⟨(some 33), (some (21, true)), .bin .lss .no (.t 32) (.c (.raw (.int .i64 0)))⟩,
     ⟨(some 34), none, .pick (.t 21) (.t 33) (.c (.kb false))⟩]
     (.fl 0 (.fl 1 (.fl 2 (.fl 3 (.fl 4 (.fl 5 (.fl 6 (.fr 7 (.fr 8 (.fl 9 (.fl 10 (.fl 11 (.fr 12 (.fr 13 (.st 14 [] (.fl 15 (.fl 16 .done))))))))))))))))))
   (.cond (.t 34)
    .skip
    (.exit 2)))
   (.seq (.block 3 (.draw [⟨(some 37), none, .mov (.t 0)⟩,
     ⟨(some 38), none, .mov (.t 9)⟩,
     ⟨(some 39), none, .mov (.t 0)⟩,
     ⟨(some 40), none, .mov (.t 9)⟩,
     ⟨(some 41), none, .bin .sub .no (.t 40) (.c (.raw (.int .i64 1)))⟩,
     ⟨(some 42), none, .mov (.t 0)⟩,
     ⟨(some 43), none, .mov (.t 9)⟩,
     ⟨(some 44), none, .bin .sub .no (.t 43) (.c (.raw (.int .i64 1)))⟩,
     ⟨(some 45), none, .iaddr 2 none (.t 42) (.t 44)⟩,
     ⟨(some 46), none, .load (some 2) (.t 45)⟩,
     ⟨(some 47), none, .mov (.t 0)⟩,
     ⟨(some 48), none, .mov (.t 9)⟩,
     ⟨(some 49), none, .iaddr 2 none (.t 47) (.t 48)⟩,
     ⟨(some 50), none, .load (some 2) (.t 49)⟩,
     ⟨(some 51), none, .iaddr 2 none (.t 37) (.t 38)⟩,
     ⟨none, none, .store (some 2) (.t 51) (.t 46)⟩,
     ⟨(some 52), none, .iaddr 2 none (.t 39) (.t 41)⟩,
     ⟨none, none, .store (some 2) (.t 52) (.t 50)⟩]
     (.fl 0 (.fl 1 (.fl 2 (.fl 3 (.fl 4 (.fl 5 (.fl 6 (.fl 7 (.fr 8 (.fr 9 (.fl 10 (.fl 11 (.fr 12 (.fr 13 (.fr 14 (.st 15 [] (.fr 16 (.st 17 [] .done))))))))))))))))))))
   (.reg [⟨(some 35), none, .mov (.t 9)⟩,
     ⟨(some 36), none, .bin .sub .no (.t 35) (.c (.raw (.int .i64 1)))⟩,
     ⟨(some 9), none, .mov (.t 36)⟩])))))))
  (.reg [⟨(some 15), none, .mov (.t 8)⟩,
    ⟨(some 16), none, .bin .add .no (.t 15) (.c (.raw (.int .i64 1)))⟩,
    ⟨(some 8), none, .mov (.t 16)⟩]))))))
theorem i_slices_insertionSortCmpFunc_api_Dot : Is Tryd.prog 94 53 [] c_slices_insertionSortCmpFunc_api_Dot := ⟨Tryd.f94, _, p_slices_insertionSortCmpFunc_api_Dot, rfl, rfl, by kernel_rfl, by kernel_rfl, rfl⟩
def p_slices_heapSortCmpFunc_api_Dot : List (Nat × Pl) := [(10, (.fl 0 (.fl 1 (.fl 2 (.fl 3 (.fl 4 (.fl 5 (.fl 6 (.fl 7 (.fl 8 (.fl 9 (.fr 10 (.fr 11 (.fl 12 (.fl 13 (.fr 14 (.fr 15 (.fr 16 (.st 17 [] (.fr 18 (.st 19 [] .done)))))))))))))))))))))]
def c_slices_heapSortCmpFunc_api_Dot : VCode :=
 (.seq (.reg [⟨(some 13), none, .mov (.t 1)⟩,
   ⟨(some 8), none, .mov (.t 13)⟩])
 (.seq (.reg [⟨(some 9), none, .mov (.c (.raw (.int .i64 0)))⟩])
 (.seq (.reg [⟨(some 14), none, .mov (.t 2)⟩,
   ⟨(some 15), none, .mov (.t 1)⟩,
   ⟨(some 16), none, .bin .sub .no (.t 14) (.t 15)⟩,
   ⟨(some 10), none, .mov (.t 16)⟩])
 (.seq (.seq (.reg [⟨(some 17), none, .mov (.t 10)⟩,
   ⟨(some 18), none, .bin .sub .no (.t 17) (.c (.raw (.int .i64 1)))⟩,
   ⟨(some 19), none, .bin .quo .no (.t 18) (.c (.raw (.int .i64 2)))⟩,
   ⟨(some 11), none, .mov (.t 19)⟩])
 (.block 0 (.loop (.seq (.seq (.reg [⟨(some 20), none, .mov (.t 11)⟩,
    ⟨(some 21), none, .bin .geq .no (.t 20) (.c (.raw (.int .i64 0)))⟩])
  (.cond (.t 21)
   .skip
   (.exit 0)))
  (.seq (.block 1 (.reg [⟨(some 24), none, .mov (.t 0)⟩,
    ⟨(some 25), none, .mov (.t 11)⟩,
    ⟨(some 26), none, .mov (.t 10)⟩,
    ⟨(some 27), none, .mov (.t 8)⟩,
    ⟨(some 28), none, .mov (.t 3)⟩,
    ⟨(some 29), none, .call 114 [(.t 24), (.t 25), (.t 26), (.t 27), (.t 28)]⟩]))
  (.reg [⟨(some 22), none, .mov (.t 11)⟩,
    ⟨(some 23), none, .bin .sub .no (.t 22) (.c (.raw (.int .i64 1)))⟩,
    ⟨(some 11), none, .mov (.t 23)⟩]))))))
 (.seq (.reg [⟨(some 30), none, .mov (.t 10)⟩,
   ⟨(some 31), none, .bin .sub .no (.t 30) (.c (.raw (.int .i64 1)))⟩,
   ⟨(some 12), none, .mov (.t 31)⟩])
 (.block 2 (.loop (.seq (.seq (.reg [⟨(some 32), none, .mov (.t 12)⟩,
    ⟨(some 33), none, .bin .geq .no (.t 32) (.c (.raw (.int .i64 0)))⟩])
  (.cond (.t 33)
   .skip
   (.exit 2)))
  (.seq (.block 3 (.seq (.draw [⟨(some 36), none, .mov (.t 0)⟩,
    ⟨(some 37), none, .mov (.t 8)⟩,
    ⟨(some 38), none, .mov (.t 0)⟩,
    ⟨(some 39), none, .mov (.t 8)⟩,
    ⟨(some 40), none, .mov (.t 12)⟩,
    ⟨(some 41), none, .bin .add .no (.t 39) (.t 40)⟩,
    ⟨(some 42), none, .mov (.t 0)⟩,
    ⟨(some 43), none, .mov (.t 8)⟩,
    ⟨(some 44), none, .mov (.t 12)⟩,
    ⟨(some 45), none, .bin .add .no (.t 43) (.t 44)⟩,
    ⟨(some 46), none, .iaddr 2 none (.t 42) (.t 45)⟩,
    ⟨(some 47), none, .load (some 2) (.t 46)⟩,
    ⟨(some 48), none, .mov (.t 0)⟩,
    ⟨(some 49), none, .mov (.t 8)⟩,
    ⟨(some 50), none, .iaddr 2 none (.t 48) (.t 49)⟩,
    ⟨(some 51), none, .load (some 2) (.t 50)⟩,
    ⟨(some 52), none, .iaddr 2 none (.t 36) (.t 37)⟩,
    ⟨none, none, .store (some 2) (.t 52) (.t 47)⟩,
    ⟨(some 53), none, .iaddr 2 none (.t 38) (.t 41)⟩,
    ⟨none, none, .store (some 2) (.t 53) (.t 51)⟩]
    (.fl 0 (.fl 1 (.fl 2 (.fl 3 (.fl 4 (.fl 5 (.fl 6 (.fl 7 (.fl 8 (.fl 9 (.fr 10 (.fr 11 (.fl 12 (.fl 13 (.fr 14 (.fr 15 (.fr 16 (.st 17 [] (.fr 18 (.st 19 [] .done)))))))))))))))))))))
  (.reg [⟨(some 54), none, .mov (.t 0)⟩,
    ⟨(some 55), none, .mov (.t 9)⟩,
    ⟨(some 56), none, .mov (.t 12)⟩,
    ⟨(some 57), none, .mov (.t 8)⟩,
    ⟨(some 58), none, .mov (.t 3)⟩,
    ⟨(some 59), none, .call 114 [(.t 54), (.t 55), (.t 56), (.t 57), (.t 58)]⟩])))
  (.reg [⟨(some 34), none, .mov (.t 12)⟩,
    ⟨(some 35), none, .bin .sub .no (.t 34) (.c (.raw (.int .i64 1)))⟩,
    ⟨(some 12), none, .mov (.t 35)⟩]))))))))))
theorem i_slices_heapSortCmpFunc_api_Dot : Is Tryd.prog 95 60 [] c_slices_heapSortCmpFunc_api_Dot := ⟨Tryd.f95, _, p_slices_heapSortCmpFunc_api_Dot, rfl, rfl, by kernel_rfl, by kernel_rfl, rfl⟩
def p_slices_breakPatternsCmpFunc_api_Dot : List (Nat × Pl) := [(10, (.fl 0 (.fl 1 (.fl 2 (.fl 3 (.fl 4 (.fl 5 (.fl 6 (.fl 7 (.fl 8 (.fl 9 (.fr 10 (.fr 11 (.fl 12 (.fl 13 (.fr 14 (.fr 15 (.fr 16 (.st 17 [] (.fr 18 (.st 19 [] .done)))))))))))))))))))))]
def c_slices_breakPatternsCmpFunc_api_Dot : VCode :=
 (.seq (.reg [⟨(some 13), none, .mov (.t 2)⟩,
   ⟨(some 14), none, .mov (.t 1)⟩,
   ⟨(some 15), none, .bin .sub .no (.t 13) (.t 14)⟩,
   ⟨(some 8), none, .mov (.t 15)⟩])
 (.seq (.reg [⟨(some 16), none, .mov (.t 8)⟩,
   ⟨(some 17), none, .bin .geq .no (.t 16) (.c (.raw (.int .i64 8)))⟩])
 (.cond (.t 17)
  (.seq (.reg [⟨(some 18), none, .mov (.t 8)⟩,
    ⟨(some 19), none, .conv (.int .u64) (.t 18)⟩,
    ⟨(some 9), none, .new 171 [(.int .u64 0)]⟩,
    ⟨none, none, .store none (.t 9) (.t 19)⟩])
  (.seq (.reg [⟨(some 20), none, .mov (.t 8)⟩,
    ⟨(some 21), none, .call 109 [(.t 20)]⟩,
    ⟨(some 10), none, .mov (.t 21)⟩])
  (.seq (.reg [⟨(some 22), none, .mov (.t 1)⟩,
    ⟨(some 23), none, .mov (.t 8)⟩,
    ⟨(some 24), none, .bin .quo .no (.t 23) (.c (.raw (.int .i64 4)))⟩,
    ⟨(some 25), none, .bin .mul .no (.t 24) (.c (.raw (.int .i64 2)))⟩,
    ⟨(some 26), none, .bin .add .no (.t 22) (.t 25)⟩,
    ⟨(some 27), none, .bin .sub .no (.t 26) (.c (.raw (.int .i64 1)))⟩,
    ⟨(some 11), none, .mov (.t 27)⟩])
  (.block 0 (.loop (.seq (.seq (.reg [⟨(some 28), none, .mov (.t 11)⟩,
     ⟨(some 29), none, .mov (.t 1)⟩,
     ⟨(some 30), none, .mov (.t 8)⟩,
     ⟨(some 31), none, .bin .quo .no (.t 30) (.c (.raw (.int .i64 4)))⟩,
     ⟨(some 32), none, .bin .mul .no (.t 31) (.c (.raw (.int .i64 2)))⟩,
     ⟨(some 33), none, .bin .add .no (.t 29) (.t 32)⟩,
     ⟨(some 34), none, .bin .add .no (.t 33) (.c (.raw (.int .i64 1)))⟩,
     ⟨(some 35), none, .bin .leq .no (.t 28) (.t 34)⟩])
   (.cond (.t 35)
    .skip
    (.exit 0)))
   (.seq (.block 1 (.seq (.reg [⟨(some 38), none, .call 110 [(.t 9)]⟩,
     ⟨(some 39), none, .mov (.t 10)⟩,
     ⟨(some 40), none, .bin .sub .no (.t 39) (.c (.raw (.int .u64 1)))⟩,
     ⟨(some 41), none, .bin .and .no (.t 38) (.t 40)⟩,
     ⟨(some 42), none, .conv (.int .i64) (.t 41)⟩,
     ⟨(some 12), none, .mov (.t 42)⟩])
   (.seq (.seq (.reg [⟨(some 43), none, .mov (.t 12)⟩,
     ⟨(some 44), none, .mov (.t 8)⟩,
     ⟨(some 45), none, .bin .geq .no (.t 43) (.t 44)⟩])
   (.cond (.t 45)
    (.reg [⟨(some 46), none, .mov (.t 12)⟩,
      ⟨(some 47), none, .mov (.t 8)⟩,
      ⟨(some 48), none, .bin .sub .no (.t 46) (.t 47)⟩,
      ⟨(some 12), none, .mov (.t 48)⟩])
    .skip))
   (.draw [⟨(some 49), none, .mov (.t 0)⟩,
     ⟨(some 50), none, .mov (.t 11)⟩,
     ⟨(some 51), none, .mov (.t 0)⟩,
     ⟨(some 52), none, .mov (.t 1)⟩,
     ⟨(some 53), none, .mov (.t 12)⟩,
     ⟨(some 54), none, .bin .add .no (.t 52) (.t 53)⟩,
     ⟨(some 55), none, .mov (.t 0)⟩,
     ⟨(some 56), none, .mov (.t 1)⟩,
     ⟨(some 57), none, .mov (.t 12)⟩,
     ⟨(some 58), none, .bin .add .no (.t 56) (.t 57)⟩,
     ⟨(some 59), none, .iaddr 2 none (.t 55) (.t 58)⟩,
     ⟨(some 60), none, .load (some 2) (.t 59)⟩,
     ⟨(some 61), none, .mov (.t 0)⟩,
     ⟨(some 62), none, .mov (.t 11)⟩,
     ⟨(some 63), none, .iaddr 2 none (.t 61) (.t 62)⟩,
     ⟨(some 64), none, .load (some 2) (.t 63)⟩,
     ⟨(some 65), none, .iaddr 2 none (.t 49) (.t 50)⟩,
     ⟨none, none, .store (some 2) (.t 65) (.t 60)⟩,
     ⟨(some 66), none, .iaddr 2 none (.t 51) (.t 54)⟩,
     ⟨none, none, .store (some 2) (.t 66) (.t 64)⟩]
     (.fl 0 (.fl 1 (.fl 2 (.fl 3 (.fl 4 (.fl 5 (.fl 6 (.fl 7 (.fl 8 (.fl 9 (.fr 10 (.fr 11 (.fl 12 (.fl 13 (.fr 14 (.fr 15 (.fr 16 (.st 17 [] (.fr 18 (.st 19 [] .done))))))))))))))))))))))))
   (.reg [⟨(some 36), none, .mov (.t 11)⟩,
     ⟨(some 37), none, .bin .add .no (.t 36) (.c (.raw (.int .i64 1)))⟩,
     ⟨(some 11), none, .mov (.t 37)⟩]))))))))
  .skip)))
theorem i_slices_breakPatternsCmpFunc_api_Dot : Is Tryd.prog 96 67 [] c_slices_breakPatternsCmpFunc_api_Dot := ⟨Tryd.f96, _, p_slices_breakPatternsCmpFunc_api_Dot, rfl, rfl, by kernel_rfl, by kernel_rfl, rfl⟩
def p_slices_choosePivotCmpFunc_api_Dot : List (Nat × Pl) := []
def c_slices_choosePivotCmpFunc_api_Dot : VCode :=
 (.seq (.reg [⟨(some 8), none, .mov (.c (.raw (.int .i64 0)))⟩,
   ⟨(some 9), none, .mov (.c (.raw (.int .i64 0)))⟩])
 (.seq (.reg [⟨(some 15), none, .mov (.t 2)⟩,
   ⟨(some 16), none, .mov (.t 1)⟩,
   ⟨(some 17), none, .bin .sub .no (.t 15) (.t 16)⟩,
   ⟨(some 10), none, .mov (.t 17)⟩])
 (.seq (.reg [⟨(some 11), none, .new 3 [(.int .i64 0)]⟩])
 (.seq (.reg [⟨(some 18), none, .mov (.t 1)⟩,
   ⟨(some 19), none, .mov (.t 10)⟩,
   ⟨(some 20), none, .bin .quo .no (.t 19) (.c (.raw (.int .i64 4)))⟩,
   ⟨(some 21), none, .bin .mul .no (.t 20) (.c (.raw (.int .i64 1)))⟩,
   ⟨(some 22), none, .bin .add .no (.t 18) (.t 21)⟩,
   ⟨(some 12), none, .mov (.t 22)⟩])
 (.seq (.reg [⟨(some 23), none, .mov (.t 1)⟩,
   ⟨(some 24), none, .mov (.t 10)⟩,
   ⟨(some 25), none, .bin .quo .no (.t 24) (.c (.raw (.int .i64 4)))⟩,
   ⟨(some 26), none, .bin .mul .no (.t 25) (.c (.raw (.int .i64 2)))⟩,
   ⟨(some 27), none, .bin .add .no (.t 23) (.t 26)⟩,
   ⟨(some 13), none, .mov (.t 27)⟩])
 (.seq (.reg [⟨(some 28), none, .mov (.t 1)⟩,
   ⟨(some 29), none, .mov (.t 10)⟩,
   ⟨(some 30), none, .bin .quo .no (.t 29) (.c (.raw (.int .i64 4)))⟩,
   ⟨(some 31), none, .bin .mul .no (.t 30) (.c (.raw (.int .i64 3)))⟩,
   ⟨(some 32), none, .bin .add .no (.t 28) (.t 31)⟩,
   ⟨(some 14), none, .mov (.t 32)⟩])
 (.seq (.seq (.reg [⟨(some 33), none, .mov (.t 10)⟩,
   ⟨(some 34), none, .bin .geq .no (.t 33) (.c (.raw (.int .i64 8)))⟩])
 (.cond (.t 34)
  (.seq (.seq (.reg [⟨(some 35), none, .mov (.t 10)⟩,
    ⟨(some 36), none, .bin .geq .no (.t 35) (.c (.raw (.int .i64 50)))⟩])
  (.cond (.t 36)
   (.seq (.reg [⟨(some 37), none, .mov (.t 0)⟩,
     ⟨(some 38), none, .mov (.t 12)⟩,
     ⟨(some 39), none, .mov (.t 3)⟩,
     ⟨(some 40), none, .call 115 [(.t 37), (.t 38), (.t 11), (.t 39)]⟩,
     ⟨(some 12), none, .mov (.t 40)⟩])
   (.seq (.reg [⟨(some 41), none, .mov (.t 0)⟩,
     ⟨(some 42), none, .mov (.t 13)⟩,
     ⟨(some 43), none, .mov (.t 3)⟩,
     ⟨(some 44), none, .call 115 [(.t 41), (.t 42), (.t 11), (.t 43)]⟩,
     ⟨(some 13), none, .mov (.t 44)⟩])
   (.reg [⟨(some 45), none, .mov (.t 0)⟩,
     ⟨(some 46), none, .mov (.t 14)⟩,
     ⟨(some 47), none, .mov (.t 3)⟩,
     ⟨(some 48), none, .call 115 [(.t 45), (.t 46), (.t 11), (.t 47)]⟩,
     ⟨(some 14), none, .mov (.t 48)⟩])))
   .skip))
  (.reg [⟨(some 49), none, .mov (.t 0)⟩,
    ⟨(some 50), none, .mov (.t 12)⟩,
    ⟨(some 51), none, .mov (.t 13)⟩,
    ⟨(some 52), none, .mov (.t 14)⟩,
    ⟨(some 53), none, .mov (.t 3)⟩,
    ⟨(some 54), none, .call 116 [(.t 49), (.t 50), (.t 51), (.t 52), (.t 11), (.t 53)]⟩,
    ⟨(some 13), none, .mov (.t 54)⟩]))
  .skip))
 (.seq (.reg [⟨(some 55), none, .load none (.t 11)⟩])
 (.block 0 (.seq (.reg [⟨(some 58), none, .bin .eql .no (.t 55) (.c (.raw (.int .i64 0)))⟩,
   ⟨(some 57), none, .mov (.t 58)⟩])
 (.cond (.t 57)
  (.seq (.reg [⟨(some 59), none, .mov (.t 13)⟩,
    ⟨(some 8), none, .mov (.t 59)⟩,
    ⟨(some 9), none, .mov (.c (.raw (.int .i64 1)))⟩])
  .ret)
  (.seq (.reg [⟨(some 61), none, .bin .eql .no (.t 55) (.c (.raw (.int .i64 12)))⟩,
    ⟨(some 60), none, .mov (.t 61)⟩])
  (.cond (.t 60)
   (.seq (.reg [⟨(some 62), none, .mov (.t 13)⟩,
     ⟨(some 8), none, .mov (.t 62)⟩,
     ⟨(some 9), none, .mov (.c (.raw (.int .i64 2)))⟩])
   .ret)
   (.seq (.reg [⟨(some 56), none, .mov (.t 13)⟩,
     ⟨(some 8), none, .mov (.t 56)⟩,
     ⟨(some 9), none, .mov (.c (.raw (.int .i64 0)))⟩])
   .ret))))))))))))))
theorem i_slices_choosePivotCmpFunc_api_Dot : Is Tryd.prog 97 63 [.t 8, .t 9] c_slices_choosePivotCmpFunc_api_Dot := ⟨Tryd.f97, _, p_slices_choosePivotCmpFunc_api_Dot, rfl, rfl, by kernel_rfl, by kernel_rfl, rfl⟩
def p_slices_reverseRangeCmpFunc_api_Dot : List (Nat × Pl) := [(3, (.fl 0 (.fl 1 (.fl 2 (.fl 3 (.fl 4 (.fl 5 (.fr 6 (.fr 7 (.fl 8 (.fl 9 (.fr 10 (.fr 11 (.fr 12 (.st 13 [] (.fr 14 (.st 15 [] .done)))))))))))))))))]
def c_slices_reverseRangeCmpFunc_api_Dot : VCode :=
 (.seq (.reg [⟨(some 10), none, .mov (.t 1)⟩,
   ⟨(some 8), none, .mov (.t 10)⟩])
 (.seq (.reg [⟨(some 11), none, .mov (.t 2)⟩,
   ⟨(some 12), none, .bin .sub .no (.t 11) (.c (.raw (.int .i64 1)))⟩,
   ⟨(some 9), none, .mov (.t 12)⟩])
 (.block 0 (.loop (.seq (.seq (.reg [⟨(some 13), none, .mov (.t 8)⟩,
    ⟨(some 14), none, .mov (.t 9)⟩,
    ⟨(some 15), none, .bin .lss .no (.t 13) (.t 14)⟩])
  (.cond (.t 15)
   .skip
   (.exit 0)))
  (.block 1 (.seq (.draw [⟨(some 16), none, .mov (.t 0)⟩,
    ⟨(some 17), none, .mov (.t 8)⟩,
    ⟨(some 18), none, .mov (.t 0)⟩,
    ⟨(some 19), none, .mov (.t 9)⟩,
    ⟨(some 20), none, .mov (.t 0)⟩,
    ⟨(some 21), none, .mov (.t 9)⟩,
    ⟨(some 22), none, .iaddr 2 none (.t 20) (.t 21)⟩,
    ⟨(some 23), none, .load (some 2) (.t 22)⟩,
    ⟨(some 24), none, .mov (.t 0)⟩,
    ⟨(some 25), none, .mov (.t 8)⟩,
    ⟨(some 26), none, .iaddr 2 none (.t 24) (.t 25)⟩,
    ⟨(some 27), none, .load (some 2) (.t 26)⟩,
    ⟨(some 28), none, .iaddr 2 none (.t 16) (.t 17)⟩,
    ⟨none, none, .store (some 2) (.t 28) (.t 23)⟩,
    ⟨(some 29), none, .iaddr 2 none (.t 18) (.t 19)⟩,
    ⟨none, none, .store (some 2) (.t 29) (.t 27)⟩]
    (.fl 0 (.fl 1 (.fl 2 (.fl 3 (.fl 4 (.fl 5 (.fr 6 (.fr 7 (.fl 8 (.fl 9 (.fr 10 (.fr 11 (.fr 12 (.st 13 [] (.fr 14 (.st 15 [] .done)))))))))))))))))
  (.seq (.reg [⟨(some 30), none, .mov (.t 8)⟩,
    ⟨(some 31), none, .bin .add .no (.t 30) (.c (.raw (.int .i64 1)))⟩,
    ⟨(some 8), none, .mov (.t 31)⟩])
  (.reg [⟨(some 32), none, .mov (.t 9)⟩,
    ⟨(some 33), none, .bin .sub .no (.t 32) (.c (.raw (.int .i64 1)))⟩,
    ⟨(some 9), none, .mov (.t 33)⟩])))))))))
theorem i_slices_reverseRangeCmpFunc_api_Dot : Is Tryd.prog 98 34 [] c_slices_reverseRangeCmpFunc_api_Dot := ⟨Tryd.f98, _, p_slices_reverseRangeCmpFunc_api_Dot, rfl, rfl, by kernel_rfl, by kernel_rfl, rfl⟩
def p_slices_partialInsertionSortCmpFunc_api_Dot : List (Nat × Pl) := [(5, (.fl 0 (.fl 1 (.fl 2 (.fl 3 (.fl 4 (.fl 5 (.fl 6 (.fr 7 (.fr 8 (.fl 9 (.fl 10 (.fl 11 (.fr 12 (.fr 13 (.st 14 [] (.fl 15 (.fl 16 (.fl 17 .done))))))))))))))))))), (11, (.fl 0 (.fl 1 (.fl 2 (.fl 3 (.fl 4 (.fl 5 (.fl 6 (.fl 7 (.fr 8 (.fr 9 (.fl 10 (.fl 11 (.fr 12 (.fr 13 (.fr 14 (.st 15 [] (.fr 16 (.st 17 [] .done))))))))))))))))))), (16, (.fl 0 (.fl 1 (.fl 2 (.fr 3 (.fr 4 (.fl 5 (.fl 6 (.fl 7 (.fr 8 (.fr 9 (.st 10 [] (.fl 11 (.fl 12 .done)))))))))))))), (17, (.fl 0 (.fl 1 (.fl 2 (.fl 3 (.fl 4 (.fl 5 (.fl 6 (.fl 7 (.fr 8 (.fr 9 (.fl 10 (.fl 11 (.fr 12 (.fr 13 (.fr 14 (.st 15 [] (.fr 16 (.st 17 [] .done))))))))))))))))))), (22, (.fl 0 (.fl 1 (.fl 2 (.fr 3 (.fr 4 (.fl 5 (.fl 6 (.fl 7 (.fr 8 (.fr 9 (.st 10 [] (.fl 11 (.fl 12 .done)))))))))))))), (23, (.fl 0 (.fl 1 (.fl 2 (.fl 3 (.fl 4 (.fl 5 (.fl 6 (.fl 7 (.fr 8 (.fr 9 (.fl 10 (.fl 11 (.fr 12 (.fr 13 (.fr 14 (.st 15 [] (.fr 16 (.st 17 [] .done)))))))))))))))))))]
def c_slices_partialInsertionSortCmpFunc_api_Dot : VCode :=
 (.seq (.reg [⟨(some 8), none, .mov (.c (.kb false))⟩])
 (.seq (.reg [⟨(some 13), none, .mov (.t 1)⟩,
   ⟨(some 14), none, .bin .add .no (.t 13) (.c (.raw (.int .i64 1)))⟩,
   ⟨(some 9), none, .mov (.t 14)⟩])
 (.seq (.seq (.reg [⟨(some 10), none, .mov (.c (.raw (.int .i64 0)))⟩])
 (.block 0 (.loop (.seq (.seq (.reg [⟨(some 15), none, .mov (.t 10)⟩,
    ⟨(some 16), none, .bin .lss .no (.t 15) (.c (.raw (.int .i64 5)))⟩])
  (.cond (.t 16)
   .skip
   (.exit 0)))
  (.seq (.block 1 (.seq (.block 2 (.loop (.seq (.seq (.draw [⟨(some 19), none, .mov (.t 9)⟩,
     ⟨(some 20), none, .mov (.t 2)⟩,
     ⟨(some 21), none, .bin .lss .no (.t 19) (.t 20)⟩,
     ⟨(some 22), none, .mov (.t 21)⟩,
     ⟨(some 23), (some (22, true)), .mov (.t 3)⟩,
     ⟨(some 24), (some (22, true)), .mov (.t 0)⟩,
     ⟨(some 25), (some (22, true)), .mov (.t 9)⟩,
     ⟨(some 26), (some (22, true)), .iaddr 2 none (.t 24) (.t 25)⟩,
     ⟨(some 27), (some (22, true)), .load (some 2) (.t 26)⟩,
     ⟨(some 28), (some (22, true)), .mov (.t 0)⟩,
     ⟨(some 29), (some (22, true)), .mov (.t 9)⟩,
     ⟨(some 30), (some (22, true)), .bin .sub .no (.t 29) (.c (.raw (.int .i64 1)))⟩,
     ⟨(some 31), (some (22, true)), .iaddr 2 none (.t 28) (.t 30)⟩,
     ⟨(some 32), (some (22, true)), .load (some 2) (.t 31)⟩,
     ⟨(some 33), (some (22, true)), .callv (.t 23) [(.t 27), (.t 32)]⟩,
     ⟨(some 34), (some (22, true)), .bin .lss .no (.t 33) (.c (.raw (.int .i64 0)))⟩,
     ⟨(some 35), (some (22, true)), .un .not (.t 34)⟩,
     ⟨(some 36), none, .pick (.t 22) (.t 35) (.c (.kb false))⟩]
     (.fl 0 (.fl 1 (.fl 2 (.fl 3 (.fl 4 (.fl 5 (.fl 6 (.fr 7 (.fr 8 (.fl 9 (.fl 10 (.fl 11 (.fr 12 (.fr 13 (.st 14 [] (.fl 15 (.fl 16 (.fl 17 .done)))))))))))))))))))
   (.cond (.t 36)
    .skip
    (.exit 2)))
   (.block 3 (.reg [⟨(some 37), none, .mov (.t 9)⟩,
     ⟨(some 38), none, .bin .add .no (.t 37) (.c (.raw (.int .i64 1)))⟩,
     ⟨(some 9), none, .mov (.t 38)⟩])))))
  (.seq (.seq (.reg [⟨(some 39), none, .mov (.t 9)⟩,
    ⟨(some 40), none, .mov (.t 2)⟩,
    ⟨(some 41), none, .bin .eql .no (.t 39) (.t 40)⟩])
  (.cond (.t 41)
   (.seq (.reg [⟨(some 8), none, .mov (.c (.kb true))⟩])
   .ret)
   .skip))
  (.seq (.seq (.reg [⟨(some 42), none, .mov (.t 2)⟩,
    ⟨(some 43), none, .mov (.t 1)⟩,
    ⟨(some 44), none, .bin .sub .no (.t 42) (.t 43)⟩,
    ⟨(some 45), none, .bin .lss .no (.t 44) (.c (.raw (.int .i64 50)))⟩])
  (.cond (.t 45)
   (.seq (.reg [⟨(some 8), none, .mov (.c (.kb false))⟩])
   .ret)
   .skip))
  (.seq (.draw [⟨(some 46), none, .mov (.t 0)⟩,
    ⟨(some 47), none, .mov (.t 9)⟩,
    ⟨(some 48), none, .mov (.t 0)⟩,
    ⟨(some 49), none, .mov (.t 9)⟩,
    ⟨(some 50), none, .bin .sub .no (.t 49) (.c (.raw (.int .i64 1)))⟩,
    ⟨(some 51), none, .mov (.t 0)⟩,
    ⟨(some 52), none, .mov (.t 9)⟩,
    ⟨(some 53), none, .bin .sub .no (.t 52) (.c (.raw (.int .i64 1)))⟩,
    ⟨(some 54), none, .iaddr 2 none (.t 51) (.t 53)⟩,
    ⟨(some 55), none, .load (some 2) (.t 54)⟩,
    ⟨(some 56), none, .mov (.t 0)⟩,
    ⟨(some 57), none, .mov (.t 9)⟩,
    ⟨(some 58), none, .iaddr 2 none (.t 56) (.t 57)⟩,
    ⟨(some 59), none, .load (some 2) (.t 58)⟩,
    ⟨(some 60), none, .iaddr 2 none (.t 46) (.t 47)⟩,
    ⟨none, none, .store (some 2) (.t 60) (.t 55)⟩,
    ⟨(some 61), none, .iaddr 2 none (.t 48) (.t 50)⟩,
    ⟨none, none, .store (some 2) (.t 61) (.t 59)⟩]
    (.fl 0 (.fl 1 (.fl 2 (.fl 3 (.fl 4 (.fl 5 (.fl 6 (.fl 7 (.fr 8 (.fr 9 (.fl 10 (.fl 11 (.fr 12 (.fr 13 (.fr 14 (.st 15 [] (.fr 16 (.st 17 [] .done)))))))))))))))))))
  (.seq (.seq (.reg [⟨(some 62), none, .mov (.t 9)⟩,
    ⟨(some 63), none, .mov (.t 1)⟩,
    ⟨(some 64), none, .bin .sub .no (.t 62) (.t 63)⟩,
    ⟨(some 65), none, .bin .geq .no (.t 64) (.c (.raw (.int .i64 2)))⟩])
  (.cond (.t 65)
   (.seq (.reg [⟨(some 66), none, .mov (.t 9)⟩,
     ⟨(some 67), none, .bin .sub .no (.t 66) (.c (.raw (.int .i64 1)))⟩,
     ⟨(some 11), none, .mov (.t 67)⟩])
   (.block 4 (.loop (.seq (.seq (.reg [⟨(some 68), none, .mov (.t 11)⟩,
      ⟨(some 69), none, .bin .geq .no (.t 68) (.c (.raw (.int .i64 1)))⟩])
    (.cond (.t 69)
     .skip
     (.exit 4)))
    (.seq (.block 5 (.seq (.seq (.draw [⟨(some 72), none, .mov (.t 3)⟩,
      ⟨(some 73), none, .mov (.t 0)⟩,
      ⟨(some 74), none, .mov (.t 11)⟩,
      ⟨(some 75), none, .iaddr 2 none (.t 73) (.t 74)⟩,
      ⟨(some 76), none, .load (some 2) (.t 75)⟩,
      ⟨(some 77), none, .mov (.t 0)⟩,
      ⟨(some 78), none, .mov (.t 11)⟩,
      ⟨(some 79), none, .bin .sub .no (.t 78) (.c (.raw (.int .i64 1)))⟩,
      ⟨(some 80), none, .iaddr 2 none (.t 77) (.t 79)⟩,
      ⟨(some 81), none, .load (some 2) (.t 80)⟩,
      ⟨(some 82), none, .callv (.t 72) [(.t 76), (.t 81)]⟩,
      ⟨(some 83), none, .bin .lss .no (.t 82) (.c (.raw (.int .i64 0)))⟩,
      ⟨(some 84), none, .un .not (.t 83)⟩]
      (.fl 0 (.fl 1 (.fl 2 (.fr 3 (.fr 4 (.fl 5 (.fl 6 (.fl 7 (.fr 8 (.fr 9 (.st 10 [] (.fl 11 (.fl 12 .done))))))))))))))
    (.cond (.t 84)
     (.exit 4)
     .skip))
    (.draw [⟨(some 85), none, .mov (.t 0)⟩,
      ⟨(some 86), none, .mov (.t 11)⟩,
      ⟨(some 87), none, .mov (.t 0)⟩,
      ⟨(some 88), none, .mov (.t 11)⟩,
      ⟨(some 89), none, .bin .sub .no (.t 88) (.c (.raw (.int .i64 1)))⟩,
      ⟨(some 90), none, .mov (.t 0)⟩,
      ⟨(some 91), none, .mov (.t 11)⟩,
      ⟨(some 92), none, .bin .sub .no (.t 91) (.c (.raw (.int .i64 1)))⟩,
      ⟨(some 93), none, .iaddr 2 none (.t 90) (.t 92)⟩,
      ⟨(some 94), none, .load (some 2) (.t 93)⟩,
      ⟨(some 95), none, .mov (.t 0)⟩,
      ⟨(some 96), none, .mov (.t 11)⟩,
      ⟨(some 97), none, .iaddr 2 none (.t 95) (.t 96)⟩,
      ⟨(some 98), none, .load (some 2) (.t 97)⟩,
      ⟨(some 99), none, .iaddr 2 none (.t 85) (.t 86)⟩,
      ⟨none, none, .store (some 2) (.t 99) (.t 94)⟩,
      ⟨(some 100), none, .iaddr 2 none (.t 87) (.t 89)⟩,
      ⟨none, none, .store (some 2) (.t 100) (.t 98)⟩]
      (.fl 0 (.fl 1 (.fl 2 (.fl 3 (.fl 4 (.fl 5 (.fl 6 (.fl 7 (.fr 8 (.fr 9 (.fl 10 (.fl 11 (.fr 12 (.fr 13 (.fr 14 (.st 15 [] (.fr 16 (.st 17 [] .done)))))))))))))))))))))
    (.reg [⟨(some 70), none, .mov (.t 11)⟩,
      ⟨(some 71), none, .bin .sub .no (.t 70) (.c (.raw (.int .i64 1)))⟩,
      ⟨(some 11), none, .mov (.t 71)⟩]))))))
   .skip))
  (.seq (.reg [⟨(some 101), none, .mov (.t 2)⟩,
    ⟨(some 102), none, .mov (.t 9)⟩,
    ⟨(some 103), none, .bin .sub .no (.t 101) (.t 102)⟩,
    ⟨(some 104), none, .bin .geq .no (.t 103) (.c (.raw (.int .i64 2)))⟩])
  (.cond (.t 104)
   (.seq (.reg [⟨(some 105), none, .mov (.t 9)⟩,
     ⟨(some 106), none, .bin .add .no (.t 105) (.c (.raw (.int .i64 1)))⟩,
     ⟨(some 12), none, .mov (.t 106)⟩])
   (.block 6 (.loop (.seq (.seq (.reg [⟨(some 107), none, .mov (.t 12)⟩,
      ⟨(some 108), none, .mov (.t 2)⟩,
      ⟨(some 109), none, .bin .lss .no (.t 107) (.t 108)⟩])
    (.cond (.t 109)
     .skip
     (.exit 6)))
    (.seq (.block 7 (.seq (.seq (.draw [⟨(some 112), none, .mov (.t 3)⟩,
      ⟨(some 113), none, .mov (.t 0)⟩,
      ⟨(some 114), none, .mov (.t 12)⟩,
      ⟨(some 115), none, .iaddr 2 none (.t 113) (.t 114)⟩,
      ⟨(some 116), none, .load (some 2) (.t 115)⟩,
      ⟨(some 117), none, .mov (.t 0)⟩,
      ⟨(some 118), none, .mov (.t 12)⟩,
      ⟨(some 119), none, .bin .sub .no (.t 118) (.c (.raw (.int .i64 1)))⟩,
      ⟨(some 120), none, .iaddr 2 none (.t 117) (.t 119)⟩,
      ⟨(some 121), none, .load (some 2) (.t 120)⟩,
      ⟨(some 122), none, .callv (.t 112) [(.t 116), (.t 121)]⟩,
      ⟨(some 123), none, .bin .lss .no (.t 122) (.c (.raw (.int .i64 0)))⟩,
      ⟨(some 124), none, .un .not (.t 123)⟩]
      (.fl 0 (.fl 1 (.fl 2 (.fr 3 (.fr 4 (.fl 5 (.fl 6 (.fl 7 (.fr 8 (.fr 9 (.st 10 [] (.fl 11 (.fl 12 .done))))))))))))))
    (.cond (.t 124)
     (.exit 6)
     .skip))
    (.draw [⟨(some 125), none, .mov (.t 0)⟩,
      ⟨(some 126), none, .mov (.t 12)⟩,
      ⟨(some 127), none, .mov (.t 0)⟩,
      ⟨(some 128), none, .mov (.t 12)⟩,
      ⟨(some 129), none, .bin .sub .no (.t 128) (.c (.raw (.int .i64 1)))⟩,
      ⟨(some 130), none, .mov (.t 0)⟩,
      ⟨(some 131), none, .mov (.t 12)⟩,
      ⟨(some 132), none, .bin .sub .no (.t 131) (.c (.raw (.int .i64 1)))⟩,
      ⟨(some 133), none, .iaddr 2 none (.t 130) (.t 132)⟩,
      ⟨(some 134), none, .load (some 2) (.t 133)⟩,
      ⟨(some 135), none, .mov (.t 0)⟩,
      ⟨(some 136), none, .mov (.t 12)⟩,
      ⟨(some 137), none, .iaddr 2 none (.t 135) (.t 136)⟩,
      ⟨(some 138), none, .load (some 2) (.t 137)⟩,
      ⟨(some 139), none, .iaddr 2 none (.t 125) (.t 126)⟩,
      ⟨none, none, .store (some 2) (.t 139) (.t 134)⟩,
      ⟨(some 140), none, .iaddr 2 none (.t 127) (.t 129)⟩,
      ⟨none, none, .store (some 2) (.t 140) (.t 138)⟩]
      (.fl 0 (.fl 1 (.fl 2 (.fl 3 (.fl 4 (.fl 5 (.fl 6 (.fl 7 (.fr 8 (.fr 9 (.fl 10 (.fl 11 (.fr 12 (.fr 13 (.fr 14 (.st 15 [] (.fr 16 (.st 17 [] .done)))))))))))))))))))))
    (.reg [⟨(some 110), none, .mov (.t 12)⟩,
      ⟨(some 111), none, .bin .add .no (.t 110) (.c (.raw (.int .i64 1)))⟩,
      ⟨(some 12), none, .mov (.t 111)⟩]))))))
   .skip))))))))
  (.reg [⟨(some 17), none, .mov (.t 10)⟩,
    ⟨(some 18), none, .bin .add .no (.t 17) (.c (.raw (.int .i64 1)))⟩,
    ⟨(some 10), none, .mov (.t 18)⟩]))))))
 (.seq (.reg [⟨(some 8), none, .mov (.c (.kb false))⟩])
 .ret))))
theorem i_slices_partialInsertionSortCmpFunc_api_Dot : Is Tryd.prog 99 141 [.t 8] c_slices_partialInsertionSortCmpFunc_api_Dot := ⟨Tryd.f99, _, p_slices_partialInsertionSortCmpFunc_api_Dot, rfl, rfl, by kernel_rfl, by kernel_rfl, rfl⟩
def p_slices_partitionEqualCmpFunc_api_Dot : List (Nat × Pl) := [(1, (.fl 0 (.fl 1 (.fl 2 (.fl 3 (.fl 4 (.fl 5 (.fr 6 (.fr 7 (.fl 8 (.fl 9 (.fr 10 (.fr 11 (.fr 12 (.st 13 [] (.fr 14 (.st 15 [] .done))))))))))))))))), (3, (.fl 0 (.fl 1 (.fl 2 (.fl 3 (.fl 4 (.fl 5 (.fl 6 (.fr 7 (.fr 8 (.fl 9 (.fl 10 (.fr 11 (.fr 12 (.st 13 [] (.fl 14 (.fl 15 (.fl 16 .done)))))))))))))))))), (5, (.fl 0 (.fl 1 (.fl 2 (.fl 3 (.fl 4 (.fl 5 (.fl 6 (.fr 7 (.fr 8 (.fl 9 (.fl 10 (.fr 11 (.fr 12 (.st 13 [] (.fl 14 (.fl 15 .done))))))))))))))))), (8, (.fl 0 (.fl 1 (.fl 2 (.fl 3 (.fl 4 (.fl 5 (.fr 6 (.fr 7 (.fl 8 (.fl 9 (.fr 10 (.fr 11 (.fr 12 (.st 13 [] (.fr 14 (.st 15 [] .done)))))))))))))))))]
def c_slices_partitionEqualCmpFunc_api_Dot : VCode :=
 (.seq (.reg [⟨(some 10), none, .mov (.c (.raw (.int .i64 0)))⟩])
 (.seq (.draw [⟨(some 13), none, .mov (.t 0)⟩,
   ⟨(some 14), none, .mov (.t 1)⟩,
   ⟨(some 15), none, .mov (.t 0)⟩,
   ⟨(some 16), none, .mov (.t 3)⟩,
   ⟨(some 17), none, .mov (.t 0)⟩,
   ⟨(some 18), none, .mov (.t 3)⟩,
   ⟨(some 19), none, .iaddr 2 none (.t 17) (.t 18)⟩,
   ⟨(some 20), none, .load (some 2) (.t 19)⟩,
   ⟨(some 21), none, .mov (.t 0)⟩,
   ⟨(some 22), none, .mov (.t 1)⟩,
   ⟨(some 23), none, .iaddr 2 none (.t 21) (.t 22)⟩,
   ⟨(some 24), none, .load (some 2) (.t 23)⟩,
   ⟨(some 25), none, .iaddr 2 none (.t 13) (.t 14)⟩,
   ⟨none, none, .store (some 2) (.t 25) (.t 20)⟩,
   ⟨(some 26), none, .iaddr 2 none (.t 15) (.t 16)⟩,
   ⟨none, none, .store (some 2) (.t 26) (.t 24)⟩]
   (.fl 0 (.fl 1 (.fl 2 (.fl 3 (.fl 4 (.fl 5 (.fr 6 (.fr 7 (.fl 8 (.fl 9 (.fr 10 (.fr 11 (.fr 12 (.st 13 [] (.fr 14 (.st 15 [] .done)))))))))))))))))
 (.seq (.reg [⟨(some 27), none, .mov (.t 1)⟩,
   ⟨(some 28), none, .bin .add .no (.t 27) (.c (.raw (.int .i64 1)))⟩,
   ⟨(some 29), none, .mov (.t 2)⟩,
   ⟨(some 30), none, .bin .sub .no (.t 29) (.c (.raw (.int .i64 1)))⟩,
   ⟨(some 11), none, .mov (.t 28)⟩,
   ⟨(some 12), none, .mov (.t 30)⟩])
 (.seq (.block 0 (.loop (.block 1 (.seq (.block 2 (.loop (.seq (.seq (.draw [⟨(some 31), none, .mov (.t 11)⟩,
     ⟨(some 32), none, .mov (.t 12)⟩,
     ⟨(some 33), none, .bin .leq .no (.t 31) (.t 32)⟩,
     ⟨(some 34), none, .mov (.t 33)⟩,
     ⟨(some 35), (some (34, true)), .mov (.t 4)⟩,
     ⟨(some 36), (some (34, true)), .mov (.t 0)⟩,
     ⟨(some 37), (some (34, true)), .mov (.t 1)⟩,
     ⟨(some 38), (some (34, true)), .iaddr 2 none (.t 36) (.t 37)⟩,
     ⟨(some 39), (some (34, true)), .load (some 2) (.t 38)⟩,
     ⟨(some 40), (some (34, true)), .mov (.t 0)⟩,
     ⟨(some 41), (some (34, true)), .mov (.t 11)⟩,
     ⟨(some 42), (some (34, true)), .iaddr 2 none (.t 40) (.t 41)⟩,
     ⟨(some 43), (some (34, true)), .load (some 2) (.t 42)⟩,
     ⟨(some 44), (some (34, true)), .callv (.t 35) [(.t 39), (.t 43)]⟩,
     ⟨(some 45), (some (34, true)), .bin .lss .no (.t 44) (.c (.raw (.int .i64 0)))⟩,
     ⟨(some 46), (some (34, true)), .un .not (.t 45)⟩,
     ⟨(some 47), none, .pick (.t 34) (.t 46) (.c (.kb false))⟩]
     (.fl 0 (.fl 1 (.fl 2 (.fl 3 (.fl 4 (.fl 5 (.fl 6 (.fr 7 (.fr 8 (.fl 9 (.fl 10 (.fr 11 (.fr 12 (.st 13 [] (.fl 14 (.fl 15 (.fl 16 .done))))))))))))))))))
   (.cond (.t 47)
    .skip
    (.exit 2)))
   (.block 3 (.reg [⟨(some 48), none, .mov (.t 11)⟩,
     ⟨(some 49), none, .bin .add .no (.t 48) (.c (.raw (.int .i64 1)))⟩,
     ⟨(some 11), none, .mov (.t 49)⟩])))))
  (.seq (.block 4 (.loop (.seq (.seq (.draw [⟨(some 50), none, .mov (.t 11)⟩,
     ⟨(some 51), none, .mov (.t 12)⟩,
     ⟨(some 52), none, .bin .leq .no (.t 50) (.t 51)⟩,
     ⟨(some 53), none, .mov (.t 52)⟩,
     ⟨(some 54), (some (53, true)), .mov (.t 4)⟩,
     ⟨(some 55), (some (53, true)), .mov (.t 0)⟩,
     ⟨(some 56), (some (53, true)), .mov (.t 1)⟩,
     ⟨(some 57), (some (53, true)), .iaddr 2 none (.t 55) (.t 56)⟩,
     ⟨(some 58), (some (53, true)), .load (some 2) (.t 57)⟩,
     ⟨(some 59), (some (53, true)), .mov (.t 0)⟩,
     ⟨(some 60), (some (53, true)), .mov (.t 12)⟩,
     ⟨(some 61), (some (53, true)), .iaddr 2 none (.t 59) (.t 60)⟩,
     ⟨(some 62), (some (53, true)), .load (some 2) (.t 61)⟩,
     ⟨(some 63), (some (53, true)), .callv (.t 54) [(.t 58), (.t 62)]⟩,
     ⟨(some 64), (some (53, true)), .bin .lss .no (.t 63) (.c (.raw (.int .i64 0)))⟩,
     ⟨(some 65), none, .pick (.t 53) (.t 64) (.c (.kb false))⟩]
     (.fl 0 (.fl 1 (.fl 2 (.fl 3 (.fl 4 (.fl 5 (.fl 6 (.fr 7 (.fr 8 (.fl 9 (.fl 10 (.fr 11 (.fr 12 (.st 13 [] (.fl 14 (.fl 15 .done)))))))))))))))))
   (.cond (.t 65)
    .skip
    (.exit 4)))
   (.block 5 (.reg [⟨(some 66), none, .mov (.t 12)⟩,
     ⟨(some 67), none, .bin .sub .no (.t 66) (.c (.raw (.int .i64 1)))⟩,
     ⟨(some 12), none, .mov (.t 67)⟩])))))
  (.seq (.seq (.reg [⟨(some 68), none, .mov (.t 11)⟩,
    ⟨(some 69), none, .mov (.t 12)⟩,
    ⟨(some 70), none, .bin .gtr .no (.t 68) (.t 69)⟩])
  (.cond (.t 70)
   (.exit 0)
   .skip))
  (.seq (.draw [⟨(some 71), none, .mov (.t 0)⟩,
    ⟨(some 72), none, .mov (.t 11)⟩,
    ⟨(some 73), none, .mov (.t 0)⟩,
    ⟨(some 74), none, .mov (.t 12)⟩,
    ⟨(some 75), none, .mov (.t 0)⟩,
    ⟨(some 76), none, .mov (.t 12)⟩,
    ⟨(some 77), none, .iaddr 2 none (.t 75) (.t 76)⟩,
    ⟨(some 78), none, .load (some 2) (.t 77)⟩,
    ⟨(some 79), none, .mov (.t 0)⟩,
    ⟨(some 80), none, .mov (.t 11)⟩,
    ⟨(some 81), none, .iaddr 2 none (.t 79) (.t 80)⟩,
    ⟨(some 82), none, .load (some 2) (.t 81)⟩,
    ⟨(some 83), none, .iaddr 2 none (.t 71) (.t 72)⟩,
    ⟨none, none, .store (some 2) (.t 83) (.t 78)⟩,
    ⟨(some 84), none, .iaddr 2 none (.t 73) (.t 74)⟩,
    ⟨none, none, .store (some 2) (.t 84) (.t 82)⟩]
    (.fl 0 (.fl 1 (.fl 2 (.fl 3 (.fl 4 (.fl 5 (.fr 6 (.fr 7 (.fl 8 (.fl 9 (.fr 10 (.fr 11 (.fr 12 (.st 13 [] (.fr 14 (.st 15 [] .done)))))))))))))))))
  (.seq (.reg [⟨(some 85), none, .mov (.t 11)⟩,
    ⟨(some 86), none, .bin .add .no (.t 85) (.c (.raw (.int .i64 1)))⟩,
    ⟨(some 11), none, .mov (.t 86)⟩])
  (.reg [⟨(some 87), none, .mov (.t 12)⟩,
    ⟨(some 88), none, .bin .sub .no (.t 87) (.c (.raw (.int .i64 1)))⟩,
    ⟨(some 12), none, .mov (.t 88)⟩])))))))))
 (.seq (.reg [⟨(some 89), none, .mov (.t 11)⟩,
   ⟨(some 10), none, .mov (.t 89)⟩])
 .ret)))))
theorem i_slices_partitionEqualCmpFunc_api_Dot : Is Tryd.prog 100 90 [.t 10] c_slices_partitionEqualCmpFunc_api_Dot := ⟨Tryd.f100, _, p_slices_partitionEqualCmpFunc_api_Dot, rfl, rfl, by kernel_rfl, by kernel_rfl, rfl⟩
def p_slices_partitionCmpFunc_api_Dot : List (Nat × Pl) := [(1, (.fl 0 (.fl 1 (.fl 2 (.fl 3 (.fl 4 (.fl 5 (.fr 6 (.fr 7 (.fl 8 (.fl 9 (.fr 10 (.fr 11 (.fr 12 (.st 13 [] (.fr 14 (.st 15 [] .done))))))))))))))))), (3, (.fl 0 (.fl 1 (.fl 2 (.fl 3 (.fl 4 (.fl 5 (.fl 6 (.fr 7 (.fr 8 (.fl 9 (.fl 10 (.fr 11 (.fr 12 (.st 13 [] (.fl 14 (.fl 15 .done))))))))))))))))), (5, (.fl 0 (.fl 1 (.fl 2 (.fl 3 (.fl 4 (.fl 5 (.fl 6 (.fr 7 (.fr 8 (.fl 9 (.fl 10 (.fr 11 (.fr 12 (.st 13 [] (.fl 14 (.fl 15 (.fl 16 .done)))))))))))))))))), (8, (.fl 0 (.fl 1 (.fl 2 (.fl 3 (.fl 4 (.fl 5 (.fr 6 (.fr 7 (.fl 8 (.fl 9 (.fr 10 (.fr 11 (.fr 12 (.st 13 [] (.fr 14 (.st 15 [] .done))))))))))))))))), (10, (.fl 0 (.fl 1 (.fl 2 (.fl 3 (.fl 4 (.fl 5 (.fr 6 (.fr 7 (.fl 8 (.fl 9 (.fr 10 (.fr 11 (.fr 12 (.st 13 [] (.fr 14 (.st 15 [] .done))))))))))))))))), (13, (.fl 0 (.fl 1 (.fl 2 (.fl 3 (.fl 4 (.fl 5 (.fl 6 (.fr 7 (.fr 8 (.fl 9 (.fl 10 (.fr 11 (.fr 12 (.st 13 [] (.fl 14 (.fl 15 .done))))))))))))))))), (15, (.fl 0 (.fl 1 (.fl 2 (.fl 3 (.fl 4 (.fl 5 (.fl 6 (.fr 7 (.fr 8 (.fl 9 (.fl 10 (.fr 11 (.fr 12 (.st 13 [] (.fl 14 (.fl 15 (.fl 16 .done)))))))))))))))))), (18, (.fl 0 (.fl 1 (.fl 2 (.fl 3 (.fl 4 (.fl 5 (.fr 6 (.fr 7 (.fl 8 (.fl 9 (.fr 10 (.fr 11 (.fr 12 (.st 13 [] (.fr 14 (.st 15 [] .done))))))))))))))))), (21, (.fl 0 (.fl 1 (.fl 2 (.fl 3 (.fl 4 (.fl 5 (.fr 6 (.fr 7 (.fl 8 (.fl 9 (.fr 10 (.fr 11 (.fr 12 (.st 13 [] (.fr 14 (.st 15 [] .done)))))))))))))))))]
def c_slices_partitionCmpFunc_api_Dot : VCode :=
 (.seq (.reg [⟨(some 10), none, .mov (.c (.raw (.int .i64 0)))⟩,
   ⟨(some 11), none, .mov (.c (.kb false))⟩])
 (.seq (.draw [⟨(some 14), none, .mov (.t 0)⟩,
   ⟨(some 15), none, .mov (.t 1)⟩,
   ⟨(some 16), none, .mov (.t 0)⟩,
   ⟨(some 17), none, .mov (.t 3)⟩,
   ⟨(some 18), none, .mov (.t 0)⟩,
   ⟨(some 19), none, .mov (.t 3)⟩,
   ⟨(some 20), none, .iaddr 2 none (.t 18) (.t 19)⟩,
   ⟨(some 21), none, .load (some 2) (.t 20)⟩,
   ⟨(some 22), none, .mov (.t 0)⟩,
   ⟨(some 23), none, .mov (.t 1)⟩,
   ⟨(some 24), none, .iaddr 2 none (.t 22) (.t 23)⟩,
   ⟨(some 25), none, .load (some 2) (.t 24)⟩,
   ⟨(some 26), none, .iaddr 2 none (.t 14) (.t 15)⟩,
   ⟨none, none, .store (some 2) (.t 26) (.t 21)⟩,
   ⟨(some 27), none, .iaddr 2 none (.t 16) (.t 17)⟩,
   ⟨none, none, .store (some 2) (.t 27) (.t 25)⟩]
   (.fl 0 (.fl 1 (.fl 2 (.fl 3 (.fl 4 (.fl 5 (.fr 6 (.fr 7 (.fl 8 (.fl 9 (.fr 10 (.fr 11 (.fr 12 (.st 13 [] (.fr 14 (.st 15 [] .done)))))))))))))))))
 (.seq (.reg [⟨(some 28), none, .mov (.t 1)⟩,
   ⟨(some 29), none, .bin .add .no (.t 28) (.c (.raw (.int .i64 1)))⟩,
   ⟨(some 30), none, .mov (.t 2)⟩,
   ⟨(some 31), none, .bin .sub .no (.t 30) (.c (.raw (.int .i64 1)))⟩,
   ⟨(some 12), none, .mov (.t 29)⟩,
   ⟨(some 13), none, .mov (.t 31)⟩])
 (.seq (.block 0 (.loop (.seq (.seq (.draw [⟨(some 32), none, .mov (.t 12)⟩,
    ⟨(some 33), none, .mov (.t 13)⟩,
    ⟨(some 34), none, .bin .leq .no (.t 32) (.t 33)⟩,
    ⟨(some 35), none, .mov (.t 34)⟩,
    ⟨(some 36), (some (35, true)), .mov (.t 4)⟩,
    ⟨(some 37), (some (35, true)), .mov (.t 0)⟩,
    ⟨(some 38), (some (35, true)), .mov (.t 12)⟩,
    ⟨(some 39), (some (35, true)), .iaddr 2 none (.t 37) (.t 38)⟩,
    ⟨(some 40), (some (35, true)), .load (some 2) (.t 39)⟩,
    ⟨(some 41), (some (35, true)), .mov (.t 0)⟩,
    ⟨(some 42), (some (35, true)), .mov (.t 1)⟩,
    ⟨(some 43), (some (35, true)), .iaddr 2 none (.t 41) (.t 42)⟩,
    ⟨(some 44), (some (35, true)), .load (some 2) (.t 43)⟩,
    ⟨(some 45), (some (35, true)), .callv (.t 36) [(.t 40), (.t 44)]⟩,
    ⟨(some 46), (some (35, true)), .bin .lss .no (.t 45) (.c (.raw (.int .i64 0)))⟩,
    ⟨(some 47), none, .pick (.t 35) (.t 46) (.c (.kb false))⟩]
    (.fl 0 (.fl 1 (.fl 2 (.fl 3 (.fl 4 (.fl 5 (.fl 6 (.fr 7 (.fr 8 (.fl 9 (.fl 10 (.fr 11 (.fr 12 (.st 13 [] (.fl 14 (.fl 15 .done)))))))))))))))))
  (.cond (.t 47)
   .skip
   (.exit 0)))
  (.block 1 (.reg [⟨(some 48), none, .mov (.t 12)⟩,
    ⟨(some 49), none, .bin .add .no (.t 48) (.c (.raw (.int .i64 1)))⟩,
    ⟨(some 12), none, .mov (.t 49)⟩])))))
 (.seq (.block 2 (.loop (.seq (.seq (.draw [⟨(some 50), none, .mov (.t 12)⟩,
    ⟨(some 51), none, .mov (.t 13)⟩,
    ⟨(some 52), none, .bin .leq .no (.t 50) (.t 51)⟩,
    ⟨(some 53), none, .mov (.t 52)⟩,
    ⟨(some 54), (some (53, true)), .mov (.t 4)⟩,
    ⟨(some 55), (some (53, true)), .mov (.t 0)⟩,
    ⟨(some 56), (some (53, true)), .mov (.t 13)⟩,
    ⟨(some 57), (some (53, true)), .iaddr 2 none (.t 55) (.t 56)⟩,
    ⟨(some 58), (some (53, true)), .load (some 2) (.t 57)⟩,
    ⟨(some 59), (some (53, true)), .mov (.t 0)⟩,
    ⟨(some 60), (some (53, true)), .mov (.t 1)⟩,
    ⟨(some 61), (some (53, true)), .iaddr 2 none (.t 59) (.t 60)⟩,
    ⟨(some 62), (some (53, true)), .load (some 2) (.t 61)⟩,
    ⟨(some 63), (some (53, true)), .callv (.t 54) [(.t 58), (.t 62)]⟩,
    ⟨(some 64), (some (53, true)), .bin .lss .no (.t 63) (.c (.raw (.int .i64 0)))⟩,
    ⟨(some 65), (some (53, true)), .un .not (.t 64)⟩,
    ⟨(some 66), none, .pick (.t 53) (.t 65) (.c (.kb false))⟩]
    (.fl 0 (.fl 1 (.fl 2 (.fl 3 (.fl 4 (.fl 5 (.fl 6 (.fr 7 (.fr 8 (.fl 9 (.fl 10 (.fr 11 (.fr 12 (.st 13 [] (.fl 14 (.fl 15 (.fl 16 .done))))))))))))))))))
  (.cond (.t 66)
   .skip
   (.exit 2)))
  (.block 3 (.reg [⟨(some 67), none, .mov (.t 13)⟩,
    ⟨(some 68), none, .bin .sub .no (.t 67) (.c (.raw (.int .i64 1)))⟩,
    ⟨(some 13), none, .mov (.t 68)⟩])))))
 (.seq (.seq (.reg [⟨(some 69), none, .mov (.t 12)⟩,
   ⟨(some 70), none, .mov (.t 13)⟩,
   ⟨(some 71), none, .bin .gtr .no (.t 69) (.t 70)⟩])
 (.cond (.t 71)
  (.seq (.draw [⟨(some 72), none, .mov (.t 0)⟩,
    ⟨(some 73), none, .mov (.t 13)⟩,
    ⟨(some 74), none, .mov (.t 0)⟩,
    ⟨(some 75), none, .mov (.t 1)⟩,
    ⟨(some 76), none, .mov (.t 0)⟩,
    ⟨(some 77), none, .mov (.t 1)⟩,
    ⟨(some 78), none, .iaddr 2 none (.t 76) (.t 77)⟩,
    ⟨(some 79), none, .load (some 2) (.t 78)⟩,
    ⟨(some 80), none, .mov (.t 0)⟩,
    ⟨(some 81), none, .mov (.t 13)⟩,
    ⟨(some 82), none, .iaddr 2 none (.t 80) (.t 81)⟩,
    ⟨(some 83), none, .load (some 2) (.t 82)⟩,
    ⟨(some 84), none, .iaddr 2 none (.t 72) (.t 73)⟩,
    ⟨none, none, .store (some 2) (.t 84) (.t 79)⟩,
    ⟨(some 85), none, .iaddr 2 none (.t 74) (.t 75)⟩,
    ⟨none, none, .store (some 2) (.t 85) (.t 83)⟩]
    (.fl 0 (.fl 1 (.fl 2 (.fl 3 (.fl 4 (.fl 5 (.fr 6 (.fr 7 (.fl 8 (.fl 9 (.fr 10 (.fr 11 (.fr 12 (.st 13 [] (.fr 14 (.st 15 [] .done)))))))))))))))))
  (.seq (.reg [⟨(some 86), none, .mov (.t 13)⟩,
    ⟨(some 10), none, .mov (.t 86)⟩,
    ⟨(some 11), none, .mov (.c (.kb true))⟩])
  .ret))
  .skip))
 (.seq (.draw [⟨(some 87), none, .mov (.t 0)⟩,
   ⟨(some 88), none, .mov (.t 12)⟩,
   ⟨(some 89), none, .mov (.t 0)⟩,
   ⟨(some 90), none, .mov (.t 13)⟩,
   ⟨(some 91), none, .mov (.t 0)⟩,
   ⟨(some 92), none, .mov (.t 13)⟩,
   ⟨(some 93), none, .iaddr 2 none (.t 91) (.t 92)⟩,
   ⟨(some 94), none, .load (some 2) (.t 93)⟩,
   ⟨(some 95), none, .mov (.t 0)⟩,
   ⟨(some 96), none, .mov (.t 12)⟩,
   ⟨(some 97), none, .iaddr 2 none (.t 95) (.t 96)⟩,
   ⟨(some 98), none, .load (some 2) (.t 97)⟩,
   ⟨(some 99), none, .iaddr 2 none (.t 87) (.t 88)⟩,
   ⟨none, none, .store (some 2) (.t 99) (.t 94)⟩,
   ⟨(some 100), none, .iaddr 2 none (.t 89) (.t 90)⟩,
   ⟨none, none, .store (some 2) (.t 100) (.t 98)⟩]
   (.fl 0 (.fl 1 (.fl 2 (.fl 3 (.fl 4 (.fl 5 (.fr 6 (.fr 7 (.fl 8 (.fl 9 (.fr 10 (.fr 11 (.fr 12 (.st 13 [] (.fr 14 (.st 15 [] .done)))))))))))))))))
 (.seq (.reg [⟨(some 101), none, .mov (.t 12)⟩,
   ⟨(some 102), none, .bin .add .no (.t 101) (.c (.raw (.int .i64 1)))⟩,
   ⟨(some 12), none, .mov (.t 102)⟩])
 (.seq (.reg [⟨(some 103), none, .mov (.t 13)⟩,
   ⟨(some 104), none, .bin .sub .no (.t 103) (.c (.raw (.int .i64 1)))⟩,
   ⟨(some 13), none, .mov (.t 104)⟩])
 (.seq (.block 4 (.loop (.block 5 (.seq (.block 6 (.loop (.seq (.seq (.draw [⟨(some 105), none, .mov (.t 12)⟩,
     ⟨(some 106), none, .mov (.t 13)⟩,
     ⟨(some 107), none, .bin .leq .no (.t 105) (.t 106)⟩,
     ⟨(some 108), none, .mov (.t 107)⟩,
     ⟨(some 109), (some (108, true)), .mov (.t 4)⟩,
     ⟨(some 110), (some (108, true)), .mov (.t 0)⟩,
     ⟨(some 111), (some (108, true)), .mov (.t 12)⟩,
     ⟨(some 112), (some (108, true)), .iaddr 2 none (.t 110) (.t 111)⟩,
     ⟨(some 113), (some (108, true)), .load (some 2) (.t 112)⟩,
     ⟨(some 114), (some (108, true)), .mov (.t 0)⟩,
     ⟨(some 115), (some (108, true)), .mov (.t 1)⟩,
     ⟨(some 116), (some (108, true)), .iaddr 2 none (.t 114) (.t 115)⟩,
     ⟨(some 117), (some (108, true)), .load (some 2) (.t 116)⟩,
     ⟨(some 118), (some (108, true)), .callv (.t 109) [(.t 113), (.t 117)]⟩,
     ⟨(some 119), (some (108, true)), .bin .lss .no (.t 118) (.c (.raw (.int .i64 0)))⟩,
     ⟨(some 120), none, .pick (.t 108) (.t 119) (.c (.kb false))⟩]
     (.fl 0 (.fl 1 (.fl 2 (.fl 3 (.fl 4 (.fl 5 (.fl 6 (.fr 7 (.fr 8 (.fl 9 (.fl 10 (.fr 11 (.fr 12 (.st 13 [] (.fl 14 (.fl 15 .done)))))))))))))))))
   (.cond (.t 120)
    .skip
    (.exit 6)))
   (.block 7 (.reg [⟨(some 121), none, .mov (.t 12)⟩,
     ⟨(some 122), none, .bin .add .no (.t 121) (.c (.raw (.int .i64 1)))⟩,
     ⟨(some 12), none, .mov (.t 122)⟩])))))
  (.seq (.block 8 (.loop (.seq (.seq (.draw [⟨(some 123), none, .mov (.t 12)⟩,
     ⟨(some 124), none, .mov (.t 13)⟩,
     ⟨(some 125), none, .bin .leq .no (.t 123) (.t 124)⟩,
     ⟨(some 126), none, .mov (.t 125)⟩,
     ⟨(some 127), (some (126, true)), .mov (.t 4)⟩,
     ⟨(some 128), (some (126, true)), .mov (.t 0)⟩,
     ⟨(some 129), (some (126, true)), .mov (.t 13)⟩,
     ⟨(some 130), (some (126, true)), .iaddr 2 none (.t 128) (.t 129)⟩,
     ⟨(some 131), (some (126, true)), .load (some 2) (.t 130)⟩,
     ⟨(some 132), (some (126, true)), .mov (.t 0)⟩,
     ⟨(some 133), (some (126, true)), .mov (.t 1)⟩,
     ⟨(some 134), (some (126, true)), .iaddr 2 none (.t 132) (.t 133)⟩,
     ⟨(some 135), (some (126, true)), .load (some 2) (.t 134)⟩,
     ⟨(some 136), (some (126, true)), .callv (.t 127) [(.t 131), (.t 135)]⟩,
     ⟨(some 137), (some (126, true)), .bin .lss .no (.t 136) (.c (.raw (.int .i64 0)))⟩,
     ⟨(some 138), (some (126, true)), .un .not (.t 137)⟩,
     ⟨(some 139), none, .pick (.t 126) (.t 138) (.c (.kb false))⟩]
     (.fl 0 (.fl 1 (.fl 2 (.fl 3 (.fl 4 (.fl 5 (.fl 6 (.fr 7 (.fr 8 (.fl 9 (.fl 10 (.fr 11 (.fr 12 (.st 13 [] (.fl 14 (.fl 15 (.fl 16 .done))))))))))))))))))
   (.cond (.t 139)
    .skip
    (.exit 8)))
   (.block 9 (.reg [⟨(some 140), none, .mov (.t 13)⟩,
     ⟨(some 141), none, .bin .sub .no (.t 140) (.c (.raw (.int .i64 1)))⟩,
     ⟨(some 13), none, .mov (.t 141)⟩])))))
  (.seq (.seq (.reg [⟨(some 142), none, .mov (.t 12)⟩,
    ⟨(some 143), none, .mov (.t 13)⟩,
    ⟨(some 144), none, .bin .gtr .no (.t 142) (.t 143)⟩])
  (.cond (.t 144)
   (.exit 4)
   .skip))
  (.seq (.draw [⟨(some 145), none, .mov (.t 0)⟩,
    ⟨(some 146), none, .mov (.t 12)⟩,
    ⟨(some 147), none, .mov (.t 0)⟩,
    ⟨(some 148), none, .mov (.t 13)⟩,
    ⟨(some 149), none, .mov (.t 0)⟩,
    ⟨(some 150), none, .mov (.t 13)⟩,
    ⟨(some 151), none, .iaddr 2 none (.t 149) (.t 150)⟩,
    ⟨(some 152), none, .load (some 2) (.t 151)⟩,
    ⟨(some 153), none, .mov (.t 0)⟩,
    ⟨(some 154), none, .mov (.t 12)⟩,
    ⟨(some 155), none, .iaddr 2 none (.t 153) (.t 154)⟩,
    ⟨(some 156), none, .load (some 2) (.t 155)⟩,
    ⟨(some 157), none, .iaddr 2 none (.t 145) (.t 146)⟩,
    ⟨none, none, .store (some 2) (.t 157) (.t 152)⟩,
    ⟨(some 158), none, .iaddr 2 none (.t 147) (.t 148)⟩,
    ⟨none, none, .store (some 2) (.t 158) (.t 156)⟩]
    (.fl 0 (.fl 1 (.fl 2 (.fl 3 (.fl 4 (.fl 5 (.fr 6 (.fr 7 (.fl 8 (.fl 9 (.fr 10 (.fr 11 (.fr 12 (.st 13 [] (.fr 14 (.st 15 [] .done)))))))))))))))))
  (.seq (.reg [⟨(some 159), none, .mov (.t 12)⟩,
    ⟨(some 160), none, .bin .add .no (.t 159) (.c (.raw (.int .i64 1)))⟩,
    ⟨(some 12), none, .mov (.t 160)⟩])
  (.reg [⟨(some 161), none, .mov (.t 13)⟩,
    ⟨(some 162), none, .bin .sub .no (.t 161) (.c (.raw (.int .i64 1)))⟩,
    ⟨(some 13), none, .mov (.t 162)⟩])))))))))
 (.seq (.draw [⟨(some 163), none, .mov (.t 0)⟩,
   ⟨(some 164), none, .mov (.t 13)⟩,
   ⟨(some 165), none, .mov (.t 0)⟩,
   ⟨(some 166), none, .mov (.t 1)⟩,
   ⟨(some 167), none, .mov (.t 0)⟩,
   ⟨(some 168), none, .mov (.t 1)⟩,
   ⟨(some 169), none, .iaddr 2 none (.t 167) (.t 168)⟩,
   ⟨(some 170), none, .load (some 2) (.t 169)⟩,
   ⟨(some 171), none, .mov (.t 0)⟩,
   ⟨(some 172), none, .mov (.t 13)⟩,
   ⟨(some 173), none, .iaddr 2 none (.t 171) (.t 172)⟩,
   ⟨(some 174), none, .load (some 2) (.t 173)⟩,
   ⟨(some 175), none, .iaddr 2 none (.t 163) (.t 164)⟩,
   ⟨none, none, .store (some 2) (.t 175) (.t 170)⟩,
   ⟨(some 176), none, .iaddr 2 none (.t 165) (.t 166)⟩,
   ⟨none, none, .store (some 2) (.t 176) (.t 174)⟩]
   (.fl 0 (.fl 1 (.fl 2 (.fl 3 (.fl 4 (.fl 5 (.fr 6 (.fr 7 (.fl 8 (.fl 9 (.fr 10 (.fr 11 (.fr 12 (.st 13 [] (.fr 14 (.st 15 [] .done)))))))))))))))))
 (.seq (.reg [⟨(some 177), none, .mov (.t 13)⟩,
   ⟨(some 10), none, .mov (.t 177)⟩,
   ⟨(some 11), none, .mov (.c (.kb false))⟩])
 .ret))))))))))))
theorem i_slices_partitionCmpFunc_api_Dot : Is Tryd.prog 101 178 [.t 10, .t 11] c_slices_partitionCmpFunc_api_Dot := ⟨Tryd.f101, _, p_slices_partitionCmpFunc_api_Dot, rfl, rfl, by kernel_rfl, by kernel_rfl, rfl⟩
def p_cmp_isNaN_int : List (Nat × Pl) := []
def c_cmp_isNaN_int : VCode :=
 (.seq (.reg [⟨(some 2), none, .mov (.c (.kb false))⟩])
 (.seq (.reg [⟨(some 3), none, .mov (.t 0)⟩,
   ⟨(some 4), none, .mov (.t 0)⟩,
   ⟨(some 5), none, .bin .neq .no (.t 3) (.t 4)⟩,
   ⟨(some 2), none, .mov (.t 5)⟩])
 .ret))
theorem i_cmp_isNaN_int : Is Tryd.prog 102 6 [.t 2] c_cmp_isNaN_int := ⟨Tryd.f102, _, p_cmp_isNaN_int, rfl, rfl, by kernel_rfl, by kernel_rfl, rfl⟩
def p_unicode_utf8_appendRuneNonASCII : List (Nat × Pl) := []
def c_unicode_utf8_appendRuneNonASCII : VCode :=
 (.seq (.reg [⟨(some 4), none, .mov (.c (.raw (.slice none 0 0)))⟩])
 (.seq (.reg [⟨(some 6), none, .mov (.t 1)⟩,
   ⟨(some 7), none, .conv (.int .u32) (.t 6)⟩,
   ⟨(some 5), none, .mov (.t 7)⟩])
 (.block 0 (.seq (.reg [⟨(some 12), none, .mov (.t 5)⟩,
   ⟨(some 13), none, .bin .leq .no (.t 12) (.c (.raw (.int .u32 2047)))⟩,
   ⟨(some 11), none, .mov (.t 13)⟩])
 (.cond (.t 11)
  (.seq (.reg [⟨(some 14), none, .mov (.t 0)⟩,
    ⟨(some 15), none, .mov (.t 1)⟩,
    ⟨(some 16), none, .bin .shr .no (.t 15) (.c (.raw (.int .u64 6)))⟩,
    ⟨(some 17), none, .conv (.int .u8) (.t 16)⟩,
    ⟨(some 18), none, .bin .or .no (.c (.raw (.int .u8 192))) (.t 17)⟩,
    ⟨(some 19), none, .mov (.t 1)⟩,
    ⟨(some 20), none, .conv (.int .u8) (.t 19)⟩,
    ⟨(some 21), none, .bin .and .no (.t 20) (.c (.raw (.int .u8 63)))⟩,
    ⟨(some 22), none, .bin .or .no (.c (.raw (.int .u8 128))) (.t 21)⟩,
    ⟨(some 23), none, .bslice 5 2 [(.int .u8 0), (.int .u8 0)] [(0, 1, (.t 18)), (1, 1, (.t 22))]⟩,
    ⟨(some 24), none, .append 5 1 1 [(.int .u8 0)] (.t 14) (.t 23)⟩,
    ⟨(some 4), none, .mov (.t 24)⟩])
  .ret)
  (.seq (.seq (.reg [⟨(some 26), none, .mov (.t 5)⟩,
    ⟨(some 27), none, .bin .lss .no (.t 26) (.c (.raw (.int .u32 55296)))⟩,
    ⟨(some 25), none, .mov (.t 27)⟩])
  (.cond (.t 25)
   .skip
   (.reg [⟨(some 28), none, .mov (.t 5)⟩,
     ⟨(some 29), none, .bin .lss .no (.c (.raw (.int .u32 57343))) (.t 28)⟩,
     ⟨(some 30), none, .mov (.t 29)⟩,
     ⟨(some 31), (some (30, true)), .mov (.t 5)⟩,
     ⟨(some 32), (some (30, true)), .bin .leq .no (.t 31) (.c (.raw (.int .u32 65535)))⟩,
     ⟨(some 33), none, .pick (.t 30) (.t 32) (.c (.kb false))⟩,
     ⟨(some 25), none, .mov (.t 33)⟩])))
  (.cond (.t 25)
   (.seq (.reg [⟨(some 34), none, .mov (.t 0)⟩,
     ⟨(some 35), none, .mov (.t 1)⟩,
     ⟨(some 36), none, .bin .shr .no (.t 35) (.c (.raw (.int .u64 12)))⟩,
     ⟨(some 37), none, .conv (.int .u8) (.t 36)⟩,
     ⟨(some 38), none, .bin .or .no (.c (.raw (.int .u8 224))) (.t 37)⟩,
     ⟨(some 39), none, .mov (.t 1)⟩,
     ⟨(some 40), none, .bin .shr .no (.t 39) (.c (.raw (.int .u64 6)))⟩,
     ⟨(some 41), none, .conv (.int .u8) (.t 40)⟩,
     ⟨(some 42), none, .bin .and .no (.t 41) (.c (.raw (.int .u8 63)))⟩,
     ⟨(some 43), none, .bin .or .no (.c (.raw (.int .u8 128))) (.t 42)⟩,
     ⟨(some 44), none, .mov (.t 1)⟩,
     ⟨(some 45), none, .conv (.int .u8) (.t 44)⟩,
     ⟨(some 46), none, .bin .and .no (.t 45) (.c (.raw (.int .u8 63)))⟩,
     ⟨(some 47), none, .bin .or .no (.c (.raw (.int .u8 128))) (.t 46)⟩,
     ⟨(some 48), none, .bslice 5 3 [(.int .u8 0), (.int .u8 0), (.int .u8 0)] [(0, 1, (.t 38)), (1, 1, (.t 43)), (2, 1, (.t 47))]⟩,
     ⟨(some 49), none, .append 5 1 1 [(.int .u8 0)] (.t 34) (.t 48)⟩,
     ⟨(some 4), none, .mov (.t 49)⟩])
   .ret)
   (.seq (.reg [⟨(some 51), none, .mov (.t 5)⟩,
     ⟨(some 52), none, .bin .gtr .no (.t 51) (.c (.raw (.int .u32 65535)))⟩,
     ⟨(some 53), none, .mov (.t 52)⟩,
     ⟨(some 54), (some (53, true)), .mov (.t 5)⟩,
     ⟨(some 55), (some (53, true)), .bin .leq .no (.t 54) (.c (.raw (.int .u32 1114111)))⟩,
     ⟨(some 56), none, .pick (.t 53) (.t 55) (.c (.kb false))⟩,
     ⟨(some 50), none, .mov (.t 56)⟩])
   (.cond (.t 50)
    (.seq (.reg [⟨(some 57), none, .mov (.t 0)⟩,
      ⟨(some 58), none, .mov (.t 1)⟩,
      ⟨(some 59), none, .bin .shr .no (.t 58) (.c (.raw (.int .u64 18)))⟩,
      ⟨(some 60), none, .conv (.int .u8) (.t 59)⟩,
      ⟨(some 61), none, .bin .or .no (.c (.raw (.int .u8 240))) (.t 60)⟩,
      ⟨(some 62), none, .mov (.t 1)⟩,
      ⟨(some 63), none, .bin .shr .no (.t 62) (.c (.raw (.int .u64 12)))⟩,
      ⟨(some 64), none, .conv (.int .u8) (.t 63)⟩,
      ⟨(some 65), none, .bin .and .no (.t 64) (.c (.raw (.int .u8 63)))⟩,
      ⟨(some 66), none, .bin .or .no (.c (.raw (.int .u8 128))) (.t 65)⟩,
      ⟨(some 67), none, .mov (.t 1)⟩,
      ⟨(some 68), none, .bin .shr .no (.t 67) (.c (.raw (.int .u64 6)))⟩,
      ⟨(some 69), none, .conv (.int .u8) (.t 68)⟩,
      ⟨(some 70), none, .bin .and .no (.t 69) (.c (.raw (.int .u8 63)))⟩,
      ⟨(some 71), none, .bin .or .no (.c (.raw (.int .u8 128))) (.t 70)⟩,
      ⟨(some 72), none, .mov (.t 1)⟩,
      ⟨(some 73), none, .conv (.int .u8) (.t 72)⟩,
      ⟨(some 74), none, .bin .and .no (.t 73) (.c (.raw (.int .u8 63)))⟩,
      ⟨(some 75), none, .bin .or .no (.c (.raw (.int .u8 128))) (.t 74)⟩,
      ⟨(some 76), none, .bslice 5 4 [(.int .u8 0), (.int .u8 0), (.int .u8 0), (.int .u8 0)] [(0, 1, (.t 61)), (1, 1, (.t 66)), (2, 1, (.t 71)), (3, 1, (.t 75))]⟩,
      ⟨(some 77), none, .append 5 1 1 [(.int .u8 0)] (.t 57) (.t 76)⟩,
      ⟨(some 4), none, .mov (.t 77)⟩])
    .ret)
    (.seq (.reg [⟨(some 8), none, .mov (.t 0)⟩,
      ⟨(some 9), none, .bslice 5 3 [(.int .u8 0), (.int .u8 0), (.int .u8 0)] [(0, 1, (.c (.raw (.int .u8 239)))), (1, 1, (.c (.raw (.int .u8 191)))), (2, 1, (.c (.raw (.int .u8 189))))]⟩,
      ⟨(some 10), none, .append 5 1 1 [(.int .u8 0)] (.t 8) (.t 9)⟩,
      ⟨(some 4), none, .mov (.t 10)⟩])
    .ret))))))))))
theorem i_unicode_utf8_appendRuneNonASCII : Is Tryd.prog 104 78 [.t 4] c_unicode_utf8_appendRuneNonASCII := ⟨Tryd.f104, _, p_unicode_utf8_appendRuneNonASCII, rfl, rfl, by kernel_rfl, by kernel_rfl, rfl⟩
def p_pack_Bytes : List (Nat × Pl) := []
def c_pack_Bytes : VCode :=
 (.seq (.reg [⟨(some 4), none, .mov (.c (.raw (.slice none 0 0)))⟩])
 (.seq (.reg [⟨(some 5), none, .mov (.t 0)⟩,
   ⟨(some 6), none, .mov (.t 1)⟩,
   ⟨(some 7), none, .len .sl (.t 6)⟩,
   ⟨(some 8), none, .call 64 [(.t 5), (.t 7)]⟩,
   ⟨(some 9), none, .mov (.t 1)⟩,
   ⟨(some 10), none, .append 5 1 1 [(.int .u8 0)] (.t 8) (.t 9)⟩,
   ⟨(some 4), none, .mov (.t 10)⟩])
 .ret))
theorem i_pack_Bytes : Is Tryd.prog 105 11 [.t 4] c_pack_Bytes := ⟨Tryd.f105, _, p_pack_Bytes, rfl, rfl, by kernel_rfl, by kernel_rfl, rfl⟩
def p_unicode_lookupCaseRange : List (Nat × Pl) := []
def c_unicode_lookupCaseRange : VCode :=
 (.seq (.reg [⟨(some 4), none, .mov (.c (.raw (.pointer none)))⟩])
 (.seq (.reg [⟨(some 5), none, .mov (.c (.raw (.int .i64 0)))⟩])
 (.seq (.reg [⟨(some 9), none, .mov (.t 1)⟩,
   ⟨(some 10), none, .len .sl (.t 9)⟩,
   ⟨(some 6), none, .mov (.t 10)⟩])
 (.seq (.block 0 (.loop (.seq (.seq (.reg [⟨(some 11), none, .mov (.t 5)⟩,
    ⟨(some 12), none, .mov (.t 6)⟩,
    ⟨(some 13), none, .bin .lss .no (.t 11) (.t 12)⟩])
  (.cond (.t 13)
   .skip
   (.exit 0)))
  (.block 1 (.seq (.reg [⟨(some 14), none, .mov (.t 5)⟩,
    ⟨(some 15), none, .mov (.t 6)⟩,
    ⟨(some 16), none, .bin .add .no (.t 14) (.t 15)⟩,
    ⟨(some 17), none, .conv (.int .u64) (.t 16)⟩,
    ⟨(some 18), none, .bin .shr .no (.t 17) (.c (.raw (.int .u64 1)))⟩,
    ⟨(some 19), none, .conv (.int .i64) (.t 18)⟩,
    ⟨(some 7), none, .mov (.t 19)⟩])
  (.seq (.reg [⟨(some 20), none, .mov (.t 1)⟩,
    ⟨(some 21), none, .mov (.t 7)⟩,
    ⟨(some 22), none, .iaddr 5 none (.t 20) (.t 21)⟩,
    ⟨(some 8), none, .mov (.t 22)⟩])
  (.seq (.seq (.reg [⟨(some 23), none, .mov (.t 8)⟩,
    ⟨(some 24), none, .nilck (.t 23)⟩,
    ⟨(some 25), none, .faddr 0 (.t 24)⟩,
    ⟨(some 26), none, .load none (.t 25)⟩,
    ⟨(some 27), none, .conv (.int .i32) (.t 26)⟩,
    ⟨(some 28), none, .mov (.t 0)⟩,
    ⟨(some 29), none, .bin .leq .no (.t 27) (.t 28)⟩,
    ⟨(some 30), none, .mov (.t 29)⟩,
    ⟨(some 31), (some (30, true)), .mov (.t 0)⟩,
    ⟨(some 32), (some (30, true)), .mov (.t 8)⟩,
    ⟨(some 33), (some (30, true)), .nilck (.t 32)⟩,
    ⟨(some 34), (some (30, true)), .faddr 1 (.t 33)⟩,
    ⟨(some 35), (some (30, true)), .load none (.t 34)⟩,
    ⟨(some 36), (some (30, true)), .conv (.int .i32) (.t 35)⟩,
    ⟨(some 37), (some (30, true)), .bin .leq .no (.t 31) (.t 36)⟩,
    ⟨(some 38), none, .pick (.t 30) (.t 37) (.c (.kb false))⟩])
  (.cond (.t 38)
   (.seq (.reg [⟨(some 39), none, .mov (.t 8)⟩,
     ⟨(some 4), none, .mov (.t 39)⟩])
   .ret)
   .skip))
  (.seq (.reg [⟨(some 40), none, .mov (.t 0)⟩,
    ⟨(some 41), none, .mov (.t 8)⟩,
    ⟨(some 42), none, .nilck (.t 41)⟩,
    ⟨(some 43), none, .faddr 0 (.t 42)⟩,
    ⟨(some 44), none, .load none (.t 43)⟩,
    ⟨(some 45), none, .conv (.int .i32) (.t 44)⟩,
    ⟨(some 46), none, .bin .lss .no (.t 40) (.t 45)⟩])
  (.cond (.t 46)
   (.reg [⟨(some 47), none, .mov (.t 7)⟩,
     ⟨(some 6), none, .mov (.t 47)⟩])
   (.reg [⟨(some 48), none, .mov (.t 7)⟩,
     ⟨(some 49), none, .bin .add .no (.t 48) (.c (.raw (.int .i64 1)))⟩,
     ⟨(some 5), none, .mov (.t 49)⟩]))))))))))
 (.seq (.reg [⟨(some 4), none, .mov (.c (.raw (.pointer none)))⟩])
 .ret)))))
theorem i_unicode_lookupCaseRange : Is Tryd.prog 106 50 [.t 4] c_unicode_lookupCaseRange := ⟨Tryd.f106, _, p_unicode_lookupCaseRange, rfl, rfl, by kernel_rfl, by kernel_rfl, rfl⟩
def p_unicode_convertCase : List (Nat × Pl) := [(3, (.fl 0 (.fr 1 (.fl 2 (.fr 3 (.fl 4 (.fl 5 (.fl 6 (.fr 7 (.fl 8 (.fr 9 (.fl 10 (.fl 11 (.fl 12 (.fl 13 (.fl 14 (.fl 15 (.fl 16 (.fl 17 (.fl 18 .done))))))))))))))))))))]
def c_unicode_convertCase : VCode :=
 (.seq (.reg [⟨(some 6), none, .mov (.c (.raw (.int .i32 0)))⟩])
 (.seq (.reg [⟨(some 8), none, .mov (.t 2)⟩,
   ⟨(some 9), none, .mov (.t 0)⟩,
   ⟨(some 10), none, .nilck (.t 8)⟩,
   ⟨(some 11), none, .faddr 2 (.t 10)⟩,
   ⟨(some 12), none, .iaddr 1 (some 3) (.t 11) (.t 9)⟩,
   ⟨(some 13), none, .load none (.t 12)⟩,
   ⟨(some 7), none, .mov (.t 13)⟩])
 (.seq (.seq (.reg [⟨(some 14), none, .mov (.t 7)⟩,
   ⟨(some 15), none, .bin .gtr .no (.t 14) (.c (.raw (.int .i32 1114111)))⟩])
 (.cond (.t 15)
  (.seq (.draw [⟨(some 16), none, .mov (.t 2)⟩,
    ⟨(some 17), none, .nilck (.t 16)⟩,
    ⟨(some 18), none, .faddr 0 (.t 17)⟩,
    ⟨(some 19), none, .load none (.t 18)⟩,
    ⟨(some 20), none, .conv (.int .i32) (.t 19)⟩,
    ⟨(some 21), none, .mov (.t 1)⟩,
    ⟨(some 22), none, .mov (.t 2)⟩,
    ⟨(some 23), none, .nilck (.t 22)⟩,
    ⟨(some 24), none, .faddr 0 (.t 23)⟩,
    ⟨(some 25), none, .load none (.t 24)⟩,
    ⟨(some 26), none, .conv (.int .i32) (.t 25)⟩,
    ⟨(some 27), none, .bin .sub .no (.t 21) (.t 26)⟩,
    ⟨(some 28), none, .bin .andNot .no (.t 27) (.c (.raw (.int .i32 1)))⟩,
    ⟨(some 29), none, .mov (.t 0)⟩,
    ⟨(some 30), none, .bin .and .no (.t 29) (.c (.raw (.int .i64 1)))⟩,
    ⟨(some 31), none, .conv (.int .i32) (.t 30)⟩,
    ⟨(some 32), none, .bin .or .no (.t 28) (.t 31)⟩,
    ⟨(some 33), none, .bin .add .no (.t 20) (.t 32)⟩,
    ⟨(some 6), none, .mov (.t 33)⟩]
    (.fl 0 (.fr 1 (.fl 2 (.fr 3 (.fl 4 (.fl 5 (.fl 6 (.fr 7 (.fl 8 (.fr 9 (.fl 10 (.fl 11 (.fl 12 (.fl 13 (.fl 14 (.fl 15 (.fl 16 (.fl 17 (.fl 18 .done))))))))))))))))))))
  .ret)
  .skip))
 (.seq (.reg [⟨(some 34), none, .mov (.t 1)⟩,
   ⟨(some 35), none, .mov (.t 7)⟩,
   ⟨(some 36), none, .bin .add .no (.t 34) (.t 35)⟩,
   ⟨(some 6), none, .mov (.t 36)⟩])
 .ret))))
theorem i_unicode_convertCase : Is Tryd.prog 107 37 [.t 6] c_unicode_convertCase := ⟨Tryd.f107, _, p_unicode_convertCase, rfl, rfl, by kernel_rfl, by kernel_rfl, rfl⟩
def p_slices_siftDownOrdered_string : List (Nat × Pl) := [(3, (.fl 0 (.fl 1 (.fl 2 (.fl 3 (.fl 4 (.fl 5 (.fl 6 (.fl 7 (.fl 8 (.fr 9 (.fr 10 (.fl 11 (.fl 12 (.fl 13 (.fl 14 (.fl 15 (.fr 16 (.fr 17 (.st 18 [] (.fl 19 .done))))))))))))))))))))), (5, (.fl 0 (.fl 1 (.fl 2 (.fl 3 (.fr 4 (.fr 5 (.fl 6 (.fl 7 (.fl 8 (.fl 9 (.fr 10 (.fr 11 (.st 12 [] (.fl 13 .done))))))))))))))), (6, (.fl 0 (.fl 1 (.fl 2 (.fl 3 (.fl 4 (.fl 5 (.fl 6 (.fl 7 (.fl 8 (.fl 9 (.fl 10 (.fl 11 (.fr 12 (.fr 13 (.fl 14 (.fl 15 (.fl 16 (.fl 17 (.fr 18 (.fr 19 (.fr 20 (.st 21 [] (.fr 22 (.st 23 [] .done)))))))))))))))))))))))))]
def c_slices_siftDownOrdered_string : VCode :=
 (.seq (.reg [⟨(some 10), none, .mov (.t 1)⟩,
   ⟨(some 8), none, .mov (.t 10)⟩])
 (.block 0 (.loop (.block 1 (.seq (.reg [⟨(some 11), none, .mov (.t 8)⟩,
    ⟨(some 12), none, .bin .mul .no (.c (.raw (.int .i64 2))) (.t 11)⟩,
    ⟨(some 13), none, .bin .add .no (.t 12) (.c (.raw (.int .i64 1)))⟩,
    ⟨(some 9), none, .mov (.t 13)⟩])
  (.seq (.seq (.reg [⟨(some 14), none, .mov (.t 9)⟩,
    ⟨(some 15), none, .mov (.t 2)⟩,
    ⟨(some 16), none, .bin .geq .no (.t 14) (.t 15)⟩])
  (.cond (.t 16)
   (.exit 0)
   .skip))
  (.seq (.seq (.draw [⟨(some 17), none, .mov (.t 9)⟩,
    ⟨(some 18), none, .bin .add .no (.t 17) (.c (.raw (.int .i64 1)))⟩,
    ⟨(some 19), none, .mov (.t 2)⟩,
    ⟨(some 20), none, .bin .lss .no (.t 18) (.t 19)⟩,
    ⟨(some 21), none, .mov (.t 20)⟩,
    ⟨(some 22), (some (21, true)), .mov (.t 0)⟩,
    ⟨(some 23), (some (21, true)), .mov (.t 3)⟩,
    ⟨(some 24), (some (21, true)), .mov (.t 9)⟩,
    ⟨(some 25), (some (21, true)), .bin .add .no (.t 23) (.t 24)⟩,
    ⟨(some 26), (some (21, true)), .iaddr 1 none (.t 22) (.t 25)⟩,
    ⟨(some 27), (some (21, true)), .load none (.t 26)⟩,
    ⟨(some 28), (some (21, true)), .mov (.t 0)⟩,
    ⟨(some 29), (some (21, true)), .mov (.t 3)⟩,
    ⟨(some 30), (some (21, true)), .mov (.t 9)⟩,
    ⟨(some 31), (some (21, true)), .bin .add .no (.t 29) (.t 30)⟩,
    ⟨(some 32), (some (21, true)), .bin .add .no (.t 31) (.c (.raw (.int .i64 1)))⟩,
    ⟨(some 33), (some (21, true)), .iaddr 1 none (.t 28) (.t 32)⟩,
    ⟨(some 34), (some (21, true)), .load none (.t 33)⟩,
    ⟨(some 35), (some (21, true)), .call 89 [(.t 27), (.t 34)]⟩,
    ⟨(some 36), none, .pick (.t 21) (.t 35) (.c (.kb false))⟩]
    (.fl 0 (.fl 1 (.fl 2 (.fl 3 (.fl 4 (.fl 5 (.fl 6 (.fl 7 (.fl 8 (.fr 9 (.fr 10 (.fl 11 (.fl 12 (.fl 13 (.fl 14 (.fl 15 (.fr 16 (.fr 17 (.st 18 [] (.fl 19 .done)))))))))))))))))))))
  (.cond (.t 36)
   (.reg [⟨(some 37), none, .mov (.t 9)⟩,
     ⟨(some 38), none, .bin .add .no (.t 37) (.c (.raw (.int .i64 1)))⟩,
     ⟨(some 9), none, .mov (.t 38)⟩])
   .skip))
  (.seq (.seq (.draw [⟨(some 39), none, .mov (.t 0)⟩,
    ⟨(some 40), none, .mov (.t 3)⟩,
    ⟨(some 41), none, .mov (.t 8)⟩,
    ⟨(some 42), none, .bin .add .no (.t 40) (.t 41)⟩,
    ⟨(some 43), none, .iaddr 1 none (.t 39) (.t 42)⟩,
    ⟨(some 44), none, .load none (.t 43)⟩,
    ⟨(some 45), none, .mov (.t 0)⟩,
    ⟨(some 46), none, .mov (.t 3)⟩,
    ⟨(some 47), none, .mov (.t 9)⟩,
    ⟨(some 48), none, .bin .add .no (.t 46) (.t 47)⟩,
    ⟨(some 49), none, .iaddr 1 none (.t 45) (.t 48)⟩,
    ⟨(some 50), none, .load none (.t 49)⟩,
    ⟨(some 51), none, .call 89 [(.t 44), (.t 50)]⟩,
    ⟨(some 52), none, .un .not (.t 51)⟩]
    (.fl 0 (.fl 1 (.fl 2 (.fl 3 (.fr 4 (.fr 5 (.fl 6 (.fl 7 (.fl 8 (.fl 9 (.fr 10 (.fr 11 (.st 12 [] (.fl 13 .done)))))))))))))))
  (.cond (.t 52)
   .ret
   .skip))
  (.seq (.draw [⟨(some 53), none, .mov (.t 0)⟩,
    ⟨(some 54), none, .mov (.t 3)⟩,
    ⟨(some 55), none, .mov (.t 8)⟩,
    ⟨(some 56), none, .bin .add .no (.t 54) (.t 55)⟩,
    ⟨(some 57), none, .mov (.t 0)⟩,
    ⟨(some 58), none, .mov (.t 3)⟩,
    ⟨(some 59), none, .mov (.t 9)⟩,
    ⟨(some 60), none, .bin .add .no (.t 58) (.t 59)⟩,
    ⟨(some 61), none, .mov (.t 0)⟩,
    ⟨(some 62), none, .mov (.t 3)⟩,
    ⟨(some 63), none, .mov (.t 9)⟩,
    ⟨(some 64), none, .bin .add .no (.t 62) (.t 63)⟩,
    ⟨(some 65), none, .iaddr 1 none (.t 61) (.t 64)⟩,
    ⟨(some 66), none, .load none (.t 65)⟩,
    ⟨(some 67), none, .mov (.t 0)⟩,
    ⟨(some 68), none, .mov (.t 3)⟩,
    ⟨(some 69), none, .mov (.t 8)⟩,
    ⟨(some 70), none, .bin .add .no (.t 68) (.t 69)⟩,
    ⟨(some 71), none, .iaddr 1 none (.t 67) (.t 70)⟩,
    ⟨(some 72), none, .load none (.t 71)⟩,
    ⟨(some 73), none, .iaddr 1 none (.t 53) (.t 56)⟩,
    ⟨none, none, .store none (.t 73) (.t 66)⟩,
    ⟨(some 74), none, .iaddr 1 none (.t 57) (.t 60)⟩,
    ⟨none, none, .store none (.t 74) (.t 72)⟩]
    (.fl 0 (.fl 1 (.fl 2 (.fl 3 (.fl 4 (.fl 5 (.fl 6 (.fl 7 (.fl 8 (.fl 9 (.fl 10 (.fl 11 (.fr 12 (.fr 13 (.fl 14 (.fl 15 (.fl 16 (.fl 17 (.fr 18 (.fr 19 (.fr 20 (.st 21 [] (.fr 22 (.st 23 [] .done)))))))))))))))))))))))))
  (.reg [⟨(some 75), none, .mov (.t 9)⟩,
    ⟨(some 8), none, .mov (.t 75)⟩]))))))))))
theorem i_slices_siftDownOrdered_string : Is Tryd.prog 108 76 [] c_slices_siftDownOrdered_string := ⟨Tryd.f108, _, p_slices_siftDownOrdered_string, rfl, rfl, by kernel_rfl, by kernel_rfl, rfl⟩
def p_slices_nextPowerOfTwo : List (Nat × Pl) := []
def c_slices_nextPowerOfTwo : VCode :=
 (.seq (.reg [⟨(some 2), none, .mov (.c (.raw (.int .u64 0)))⟩])
 (.seq (.reg [⟨(some 3), none, .mov (.t 0)⟩,
   ⟨(some 4), none, .conv (.int .u64) (.t 3)⟩,
   ⟨(some 5), none, .call 69 [(.t 4)]⟩,
   ⟨(some 6), none, .bin .shl .no (.c (.raw (.int .u64 1))) (.t 5)⟩,
   ⟨(some 2), none, .mov (.t 6)⟩])
 .ret))
theorem i_slices_nextPowerOfTwo : Is Tryd.prog 109 7 [.t 2] c_slices_nextPowerOfTwo := ⟨Tryd.f109, _, p_slices_nextPowerOfTwo, rfl, rfl, by kernel_rfl, by kernel_rfl, rfl⟩
def p_slices_xorshift_Next : List (Nat × Pl) := [(1, (.fl 0 (.fr 1 (.fr 2 (.fl 3 (.fr 4 (.fr 5 (.fl 6 (.fl 7 (.fr 8 (.st 9 [] .done))))))))))), (2, (.fl 0 (.fr 1 (.fr 2 (.fl 3 (.fr 4 (.fr 5 (.fl 6 (.fl 7 (.fr 8 (.st 9 [] .done))))))))))), (3, (.fl 0 (.fr 1 (.fr 2 (.fl 3 (.fr 4 (.fr 5 (.fl 6 (.fl 7 (.fr 8 (.st 9 [] .done)))))))))))]
def c_slices_xorshift_Next : VCode :=
 (.seq (.reg [⟨(some 2), none, .mov (.c (.raw (.int .u64 0)))⟩])
 (.seq (.draw [⟨(some 3), none, .mov (.t 0)⟩,
   ⟨(some 4), none, .nilck (.t 3)⟩,
   ⟨(some 5), none, .load none (.t 4)⟩,
   ⟨(some 6), none, .mov (.t 0)⟩,
   ⟨(some 7), none, .nilck (.t 6)⟩,
   ⟨(some 8), none, .load none (.t 7)⟩,
   ⟨(some 9), none, .bin .shl .no (.t 8) (.c (.raw (.int .u64 13)))⟩,
   ⟨(some 10), none, .bin .xor .no (.t 5) (.t 9)⟩,
   ⟨(some 11), none, .nilck (.t 3)⟩,
   ⟨none, none, .store none (.t 11) (.t 10)⟩]
   (.fl 0 (.fr 1 (.fr 2 (.fl 3 (.fr 4 (.fr 5 (.fl 6 (.fl 7 (.fr 8 (.st 9 [] .done)))))))))))
 (.seq (.draw [⟨(some 12), none, .mov (.t 0)⟩,
   ⟨(some 13), none, .nilck (.t 12)⟩,
   ⟨(some 14), none, .load none (.t 13)⟩,
   ⟨(some 15), none, .mov (.t 0)⟩,
   ⟨(some 16), none, .nilck (.t 15)⟩,
   ⟨(some 17), none, .load none (.t 16)⟩,
   ⟨(some 18), none, .bin .shr .no (.t 17) (.c (.raw (.int .u64 7)))⟩,
   ⟨(some 19), none, .bin .xor .no (.t 14) (.t 18)⟩,
   ⟨(some 20), none, .nilck (.t 12)⟩,
   ⟨none, none, .store none (.t 20) (.t 19)⟩]
   (.fl 0 (.fr 1 (.fr 2 (.fl 3 (.fr 4 (.fr 5 (.fl 6 (.fl 7 (.fr 8 (.st 9 [] .done)))))))))))
 (.seq (.draw [⟨(some 21), none, .mov (.t 0)⟩,
   ⟨(some 22), none, .nilck (.t 21)⟩,
   ⟨(some 23), none, .load none (.t 22)⟩,
   ⟨(some 24), none, .mov (.t 0)⟩,
   ⟨(some 25), none, .nilck (.t 24)⟩,
   ⟨(some 26), none, .load none (.t 25)⟩,
   ⟨(some 27), none, .bin .shl .no (.t 26) (.c (.raw (.int .u64 17)))⟩,
   ⟨(some 28), none, .bin .xor .no (.t 23) (.t 27)⟩,
   ⟨(some 29), none, .nilck (.t 21)⟩,
   ⟨none, none, .store none (.t 29) (.t 28)⟩]
   (.fl 0 (.fr 1 (.fr 2 (.fl 3 (.fr 4 (.fr 5 (.fl 6 (.fl 7 (.fr 8 (.st 9 [] .done)))))))))))
 (.seq (.reg [⟨(some 30), none, .mov (.t 0)⟩,
   ⟨(some 31), none, .nilck (.t 30)⟩,
   ⟨(some 32), none, .load none (.t 31)⟩,
   ⟨(some 2), none, .mov (.t 32)⟩])
 .ret)))))
theorem i_slices_xorshift_Next : Is Tryd.prog 110 33 [.t 2] c_slices_xorshift_Next := ⟨Tryd.f110, _, p_slices_xorshift_Next, rfl, rfl, by kernel_rfl, by kernel_rfl, rfl⟩
def p_slices_medianAdjacentOrdered_string : List (Nat × Pl) := []
def c_slices_medianAdjacentOrdered_string : VCode :=
 (.seq (.reg [⟨(some 6), none, .mov (.c (.raw (.int .i64 0)))⟩])
 (.seq (.reg [⟨(some 7), none, .mov (.t 0)⟩,
   ⟨(some 8), none, .mov (.t 1)⟩,
   ⟨(some 9), none, .bin .sub .no (.t 8) (.c (.raw (.int .i64 1)))⟩,
   ⟨(some 10), none, .mov (.t 1)⟩,
   ⟨(some 11), none, .mov (.t 1)⟩,
   ⟨(some 12), none, .bin .add .no (.t 11) (.c (.raw (.int .i64 1)))⟩,
   ⟨(some 13), none, .mov (.t 2)⟩,
   ⟨(some 14), none, .call 112 [(.t 7), (.t 9), (.t 10), (.t 12), (.t 13)]⟩,
   ⟨(some 6), none, .mov (.t 14)⟩])
 .ret))
theorem i_slices_medianAdjacentOrdered_string : Is Tryd.prog 111 15 [.t 6] c_slices_medianAdjacentOrdered_string := ⟨Tryd.f111, _, p_slices_medianAdjacentOrdered_string, rfl, rfl, by kernel_rfl, by kernel_rfl, rfl⟩
def p_slices_medianOrdered_string : List (Nat × Pl) := []
def c_slices_medianOrdered_string : VCode :=
 (.seq (.reg [⟨(some 10), none, .mov (.c (.raw (.int .i64 0)))⟩])
 (.seq (.reg [⟨(some 12), none, .mov (.t 0)⟩,
   ⟨(some 13), none, .mov (.t 1)⟩,
   ⟨(some 14), none, .mov (.t 2)⟩,
   ⟨(some 15), none, .mov (.t 4)⟩,
   ⟨(some 16), none, .call 117 [(.t 12), (.t 13), (.t 14), (.t 15)]⟩,
   ⟨(some 11), none, .mov (.t 16)⟩,
   ⟨(some 17), none, .extr (.t 11) 0⟩,
   ⟨(some 18), none, .extr (.t 11) 1⟩,
   ⟨(some 1), none, .mov (.t 17)⟩,
   ⟨(some 2), none, .mov (.t 18)⟩])
 (.seq (.reg [⟨(some 20), none, .mov (.t 0)⟩,
   ⟨(some 21), none, .mov (.t 2)⟩,
   ⟨(some 22), none, .mov (.t 3)⟩,
   ⟨(some 23), none, .mov (.t 4)⟩,
   ⟨(some 24), none, .call 117 [(.t 20), (.t 21), (.t 22), (.t 23)]⟩,
   ⟨(some 19), none, .mov (.t 24)⟩,
   ⟨(some 25), none, .extr (.t 19) 0⟩,
   ⟨(some 26), none, .extr (.t 19) 1⟩,
   ⟨(some 2), none, .mov (.t 25)⟩,
   ⟨(some 3), none, .mov (.t 26)⟩])
 (.seq (.reg [⟨(some 28), none, .mov (.t 0)⟩,
   ⟨(some 29), none, .mov (.t 1)⟩,
   ⟨(some 30), none, .mov (.t 2)⟩,
   ⟨(some 31), none, .mov (.t 4)⟩,
   ⟨(some 32), none, .call 117 [(.t 28), (.t 29), (.t 30), (.t 31)]⟩,
   ⟨(some 27), none, .mov (.t 32)⟩,
   ⟨(some 33), none, .extr (.t 27) 0⟩,
   ⟨(some 34), none, .extr (.t 27) 1⟩,
   ⟨(some 1), none, .mov (.t 33)⟩,
   ⟨(some 2), none, .mov (.t 34)⟩])
 (.seq (.reg [⟨(some 35), none, .mov (.t 2)⟩,
   ⟨(some 10), none, .mov (.t 35)⟩])
 .ret)))))
theorem i_slices_medianOrdered_string : Is Tryd.prog 112 36 [.t 10] c_slices_medianOrdered_string := ⟨Tryd.f112, _, p_slices_medianOrdered_string, rfl, rfl, by kernel_rfl, by kernel_rfl, rfl⟩
def p_cmp_isNaN_string : List (Nat × Pl) := []
def c_cmp_isNaN_string : VCode :=
 (.seq (.reg [⟨(some 2), none, .mov (.c (.kb false))⟩])
 (.seq (.reg [⟨(some 3), none, .mov (.t 0)⟩,
   ⟨(some 4), none, .mov (.t 0)⟩,
   ⟨(some 5), none, .bin .neq .no (.t 3) (.t 4)⟩,
   ⟨(some 2), none, .mov (.t 5)⟩])
 .ret))
theorem i_cmp_isNaN_string : Is Tryd.prog 113 6 [.t 2] c_cmp_isNaN_string := ⟨Tryd.f113, _, p_cmp_isNaN_string, rfl, rfl, by kernel_rfl, by kernel_rfl, rfl⟩
def p_slices_siftDownCmpFunc_api_Dot : List (Nat × Pl) := [(3, (.fl 0 (.fl 1 (.fl 2 (.fl 3 (.fl 4 (.fl 5 (.fl 6 (.fl 7 (.fl 8 (.fl 9 (.fr 10 (.fr 11 (.fl 12 (.fl 13 (.fl 14 (.fl 15 (.fl 16 (.fr 17 (.fr 18 (.st 19 [] (.fl 20 (.fl 21 .done))))))))))))))))))))))), (5, (.fl 0 (.fl 1 (.fl 2 (.fl 3 (.fl 4 (.fr 5 (.fr 6 (.fl 7 (.fl 8 (.fl 9 (.fl 10 (.fr 11 (.fr 12 (.st 13 [] (.fl 14 (.fl 15 .done))))))))))))))))), (6, (.fl 0 (.fl 1 (.fl 2 (.fl 3 (.fl 4 (.fl 5 (.fl 6 (.fl 7 (.fl 8 (.fl 9 (.fl 10 (.fl 11 (.fr 12 (.fr 13 (.fl 14 (.fl 15 (.fl 16 (.fl 17 (.fr 18 (.fr 19 (.fr 20 (.st 21 [] (.fr 22 (.st 23 [] .done)))))))))))))))))))))))))]
def c_slices_siftDownCmpFunc_api_Dot : VCode :=
 (.seq (.reg [⟨(some 12), none, .mov (.t 1)⟩,
   ⟨(some 10), none, .mov (.t 12)⟩])
 (.block 0 (.loop (.block 1 (.seq (.reg [⟨(some 13), none, .mov (.t 10)⟩,
    ⟨(some 14), none, .bin .mul .no (.c (.raw (.int .i64 2))) (.t 13)⟩,
    ⟨(some 15), none, .bin .add .no (.t 14) (.c (.raw (.int .i64 1)))⟩,
    ⟨(some 11), none, .mov (.t 15)⟩])
  (.seq (.seq (.reg [⟨(some 16), none, .mov (.t 11)⟩,
    ⟨(some 17), none, .mov (.t 2)⟩,
    ⟨(some 18), none, .bin .geq .no (.t 16) (.t 17)⟩])
  (.cond (.t 18)
   (.exit 0)
   .skip))
  (.seq (.seq (.draw [⟨(some 19), none, .mov (.t 11)⟩,
    ⟨(some 20), none, .bin .add .no (.t 19) (.c (.raw (.int .i64 1)))⟩,
    ⟨(some 21), none, .mov (.t 2)⟩,
    ⟨(some 22), none, .bin .lss .no (.t 20) (.t 21)⟩,
    ⟨(some 23), none, .mov (.t 22)⟩,
    ⟨(some 24), (some (23, true)), .mov (.t 4)⟩,
    ⟨(some 25), (some (23, true)), .mov (.t 0)⟩,
    ⟨(some 26), (some (23, true)), .mov (.t 3)⟩,
    ⟨(some 27), (some (23, true)), .mov (.t 11)⟩,
    ⟨(some 28), (some (23, true)), .bin .add .no (.t 26) (.t 27)⟩,
    ⟨(some 29), (some (23, true)), .iaddr 2 none (.t 25) (.t 28)⟩,
    ⟨(some 30), (some (23, true)), .load (some 2) (.t 29)⟩,
    ⟨(some 31), (some (23, true)), .mov (.t 0)⟩,
    ⟨(some 32), (some (23, true)), .mov (.t 3)⟩,
    ⟨(some 33), (some (23, true)), .mov (.t 11)⟩,
    ⟨(some 34), (some (23, true)), .bin .add .no (.t 32) (.t 33)⟩,
    ⟨(some 35), (some (23, true)), .bin .add .no (.t 34) (.c (.raw (.int .i64 1)))⟩,
    ⟨(some 36), (some (23, true)), .iaddr 2 none (.t 31) (.t 35)⟩,
    ⟨(some 37), (some (23, true)), .load (some 2) (.t 36)⟩,
    ⟨(some 38), (some (23, true)), .callv (.t 24) [(.t 30), (.t 37)]⟩,
    ⟨(some 39), (some (23, true)), .bin .lss .no (.t 38) (.c (.raw (.int .i64 0)))⟩,
    ⟨(some 40), none, .pick (.t 23) (.t 39) (.c (.kb false))⟩]
    (.fl 0 (.fl 1 (.fl 2 (.fl 3 (.fl 4 (.fl 5 (.fl 6 (.fl 7 (.fl 8 (.fl 9 (.fr 10 (.fr 11 (.fl 12 (.fl 13 (.fl 14 (.fl 15 (.fl 16 (.fr 17 (.fr 18 (.st 19 [] (.fl 20 (.fl 21 .done)))))))))))))))))))))))
  (.cond (.t 40)
   (.reg [⟨(some 41), none, .mov (.t 11)⟩,
     ⟨(some 42), none, .bin .add .no (.t 41) (.c (.raw (.int .i64 1)))⟩,
     ⟨(some 11), none, .mov (.t 42)⟩])
   .skip))
  (.seq (.seq (.draw [⟨(some 43), none, .mov (.t 4)⟩,
    ⟨(some 44), none, .mov (.t 0)⟩,
    ⟨(some 45), none, .mov (.t 3)⟩,
    ⟨(some 46), none, .mov (.t 10)⟩,
    ⟨(some 47), none, .bin .add .no (.t 45) (.t 46)⟩,
    ⟨(some 48), none, .iaddr 2 none (.t 44) (.t 47)⟩,
    ⟨(some 49), none, .load (some 2) (.t 48)⟩,
    ⟨(some 50), none, .mov (.t 0)⟩,
    ⟨(some 51), none, .mov (.t 3)⟩,
    ⟨(some 52), none, .mov (.t 11)⟩,
    ⟨(some 53), none, .bin .add .no (.t 51) (.t 52)⟩,
    ⟨(some 54), none, .iaddr 2 none (.t 50) (.t 53)⟩,
    ⟨(some 55), none, .load (some 2) (.t 54)⟩,
    ⟨(some 56), none, .callv (.t 43) [(.t 49), (.t 55)]⟩,
    ⟨(some 57), none, .bin .lss .no (.t 56) (.c (.raw (.int .i64 0)))⟩,
    ⟨(some 58), none, .un .not (.t 57)⟩]
    (.fl 0 (.fl 1 (.fl 2 (.fl 3 (.fl 4 (.fr 5 (.fr 6 (.fl 7 (.fl 8 (.fl 9 (.fl 10 (.fr 11 (.fr 12 (.st 13 [] (.fl 14 (.fl 15 .done)))))))))))))))))
  (.cond (.t 58)
   .ret
   .skip))
  (.seq (.draw [⟨(some 59), none, .mov (.t 0)⟩,
    ⟨(some 60), none, .mov (.t 3)⟩,
    ⟨(some 61), none, .mov (.t 10)⟩,
    ⟨(some 62), none, .bin .add .no (.t 60) (.t 61)⟩,
    ⟨(some 63), none, .mov (.t 0)⟩,
    ⟨(some 64), none, .mov (.t 3)⟩,
    ⟨(some 65), none, .mov (.t 11)⟩,
    ⟨(some 66), none, .bin .add .no (.t 64) (.t 65)⟩,
    ⟨(some 67), none, .mov (.t 0)⟩,
    ⟨(some 68), none, .mov (.t 3)⟩,
    ⟨(some 69), none, .mov (.t 11)⟩,
    ⟨(some 70), none, .bin .add .no (.t 68) (.t 69)⟩,
    ⟨(some 71), none, .iaddr 2 none (.t 67) (.t 70)⟩,
    ⟨(some 72), none, .load (some 2) (.t 71)⟩,
    ⟨(some 73), none, .mov (.t 0)⟩,
    ⟨(some 74), none, .mov (.t 3)⟩,
    ⟨(some 75), none, .mov (.t 10)⟩,
    ⟨(some 76), none, .bin .add .no (.t 74) (.t 75)⟩,
    ⟨(some 77), none, .iaddr 2 none (.t 73) (.t 76)⟩,
    ⟨(some 78), none, .load (some 2) (.t 77)⟩,
    ⟨(some 79), none, .iaddr 2 none (.t 59) (.t 62)⟩,
    ⟨none, none, .store (some 2) (.t 79) (.t 72)⟩,
    ⟨(some 80), none, .iaddr 2 none (.t 63) (.t 66)⟩,
    ⟨none, none, .store (some 2) (.t 80) (.t 78)⟩]
    (.fl 0 (.fl 1 (.fl 2 (.fl 3 (.fl 4 (.fl 5 (.fl 6 (.fl 7 (.fl 8 (.fl 9 (.fl 10 (.fl 11 (.fr 12 (.fr 13 (.fl 14 (.fl 15 (.fl 16 (.fl 17 (.fr 18 (.fr 19 (.fr 20 (.st 21 [] (.fr 22 (.st 23 [] .done)))))))))))))))))))))))))
  (.reg [⟨(some 81), none, .mov (.t 11)⟩,
    ⟨(some 10), none, .mov (.t 81)⟩]))))))))))
theorem i_slices_siftDownCmpFunc_api_Dot : Is Tryd.prog 114 82 [] c_slices_siftDownCmpFunc_api_Dot := ⟨Tryd.f114, _, p_slices_siftDownCmpFunc_api_Dot, rfl, rfl, by kernel_rfl, by kernel_rfl, rfl⟩
def p_slices_medianAdjacentCmpFunc_api_Dot : List (Nat × Pl) := []
def c_slices_medianAdjacentCmpFunc_api_Dot : VCode :=
 (.seq (.reg [⟨(some 8), none, .mov (.c (.raw (.int .i64 0)))⟩])
 (.seq (.reg [⟨(some 9), none, .mov (.t 0)⟩,
   ⟨(some 10), none, .mov (.t 1)⟩,
   ⟨(some 11), none, .bin .sub .no (.t 10) (.c (.raw (.int .i64 1)))⟩,
   ⟨(some 12), none, .mov (.t 1)⟩,
   ⟨(some 13), none, .mov (.t 1)⟩,
   ⟨(some 14), none, .bin .add .no (.t 13) (.c (.raw (.int .i64 1)))⟩,
   ⟨(some 15), none, .mov (.t 2)⟩,
   ⟨(some 16), none, .mov (.t 3)⟩,
   ⟨(some 17), none, .call 116 [(.t 9), (.t 11), (.t 12), (.t 14), (.t 15), (.t 16)]⟩,
   ⟨(some 8), none, .mov (.t 17)⟩])
 .ret))
theorem i_slices_medianAdjacentCmpFunc_api_Dot : Is Tryd.prog 115 18 [.t 8] c_slices_medianAdjacentCmpFunc_api_Dot := ⟨Tryd.f115, _, p_slices_medianAdjacentCmpFunc_api_Dot, rfl, rfl, by kernel_rfl, by kernel_rfl, rfl⟩
def p_slices_medianCmpFunc_api_Dot : List (Nat × Pl) := []
def c_slices_medianCmpFunc_api_Dot : VCode :=
 (.seq (.reg [⟨(some 12), none, .mov (.c (.raw (.int .i64 0)))⟩])
 (.seq (.reg [⟨(some 14), none, .mov (.t 0)⟩,
   ⟨(some 15), none, .mov (.t 1)⟩,
   ⟨(some 16), none, .mov (.t 2)⟩,
   ⟨(some 17), none, .mov (.t 4)⟩,
   ⟨(some 18), none, .mov (.t 5)⟩,
   ⟨(some 19), none, .call 118 [(.t 14), (.t 15), (.t 16), (.t 17), (.t 18)]⟩,
   ⟨(some 13), none, .mov (.t 19)⟩,
   ⟨(some 20), none, .extr (.t 13) 0⟩,
   ⟨(some 21), none, .extr (.t 13) 1⟩,
   ⟨(some 1), none, .mov (.t 20)⟩,
   ⟨(some 2), none, .mov (.t 21)⟩])
 (.seq (.reg [⟨(some 23), none, .mov (.t 0)⟩,
   ⟨(some 24), none, .mov (.t 2)⟩,
   ⟨(some 25), none, .mov (.t 3)⟩,
   ⟨(some 26), none, .mov (.t 4)⟩,
   ⟨(some 27), none, .mov (.t 5)⟩,
   ⟨(some 28), none, .call 118 [(.t 23), (.t 24), (.t 25), (.t 26), (.t 27)]⟩,
   ⟨(some 22), none, .mov (.t 28)⟩,
   ⟨(some 29), none, .extr (.t 22) 0⟩,
   ⟨(some 30), none, .extr (.t 22) 1⟩,
   ⟨(some 2), none, .mov (.t 29)⟩,
   ⟨(some 3), none, .mov (.t 30)⟩])
 (.seq (.reg [⟨(some 32), none, .mov (.t 0)⟩,
   ⟨(some 33), none, .mov (.t 1)⟩,
   ⟨(some 34), none, .mov (.t 2)⟩,
   ⟨(some 35), none, .mov (.t 4)⟩,
   ⟨(some 36), none, .mov (.t 5)⟩,
   ⟨(some 37), none, .call 118 [(.t 32), (.t 33), (.t 34), (.t 35), (.t 36)]⟩,
   ⟨(some 31), none, .mov (.t 37)⟩,
   ⟨(some 38), none, .extr (.t 31) 0⟩,
   ⟨(some 39), none, .extr (.t 31) 1⟩,
   ⟨(some 1), none, .mov (.t 38)⟩,
   ⟨(some 2), none, .mov (.t 39)⟩])
 (.seq (.reg [⟨(some 40), none, .mov (.t 2)⟩,
   ⟨(some 12), none, .mov (.t 40)⟩])
 .ret)))))
theorem i_slices_medianCmpFunc_api_Dot : Is Tryd.prog 116 41 [.t 12] c_slices_medianCmpFunc_api_Dot := ⟨Tryd.f116, _, p_slices_medianCmpFunc_api_Dot, rfl, rfl, by kernel_rfl, by kernel_rfl, rfl⟩
def p_slices_order2Ordered_string : List (Nat × Pl) := [(1, (.fl 0 (.fl 1 (.fr 2 (.fr 3 (.fl 4 (.fl 5 (.fr 6 (.fr 7 (.st 8 [] .done))))))))))]
def c_slices_order2Ordered_string : VCode :=
 (.seq (.reg [⟨(some 8), none, .mov (.c (.raw (.int .i64 0)))⟩,
   ⟨(some 9), none, .mov (.c (.raw (.int .i64 0)))⟩])
 (.seq (.seq (.draw [⟨(some 10), none, .mov (.t 0)⟩,
   ⟨(some 11), none, .mov (.t 2)⟩,
   ⟨(some 12), none, .iaddr 1 none (.t 10) (.t 11)⟩,
   ⟨(some 13), none, .load none (.t 12)⟩,
   ⟨(some 14), none, .mov (.t 0)⟩,
   ⟨(some 15), none, .mov (.t 1)⟩,
   ⟨(some 16), none, .iaddr 1 none (.t 14) (.t 15)⟩,
   ⟨(some 17), none, .load none (.t 16)⟩,
   ⟨(some 18), none, .call 89 [(.t 13), (.t 17)]⟩]
   (.fl 0 (.fl 1 (.fr 2 (.fr 3 (.fl 4 (.fl 5 (.fr 6 (.fr 7 (.st 8 [] .done))))))))))
 (.cond (.t 18)
  (.seq (.reg [⟨(some 19), none, .mov (.t 3)⟩,
    ⟨(some 20), none, .nilck (.t 19)⟩,
    ⟨(some 21), none, .load none (.t 20)⟩,
    ⟨(some 22), none, .bin .add .no (.t 21) (.c (.raw (.int .i64 1)))⟩,
    ⟨(some 23), none, .nilck (.t 19)⟩,
    ⟨none, none, .store none (.t 23) (.t 22)⟩])
  (.seq (.reg [⟨(some 24), none, .mov (.t 2)⟩,
    ⟨(some 25), none, .mov (.t 1)⟩,
    ⟨(some 8), none, .mov (.t 24)⟩,
    ⟨(some 9), none, .mov (.t 25)⟩])
  .ret))
  .skip))
 (.seq (.reg [⟨(some 26), none, .mov (.t 1)⟩,
   ⟨(some 27), none, .mov (.t 2)⟩,
   ⟨(some 8), none, .mov (.t 26)⟩,
   ⟨(some 9), none, .mov (.t 27)⟩])
 .ret)))
theorem i_slices_order2Ordered_string : Is Tryd.prog 117 28 [.t 8, .t 9] c_slices_order2Ordered_string := ⟨Tryd.f117, _, p_slices_order2Ordered_string, rfl, rfl, by kernel_rfl, by kernel_rfl, rfl⟩
def p_slices_order2CmpFunc_api_Dot : List (Nat × Pl) := [(1, (.fl 0 (.fl 1 (.fl 2 (.fr 3 (.fr 4 (.fl 5 (.fl 6 (.fr 7 (.fr 8 (.st 9 [] (.fl 10 .done))))))))))))]
def c_slices_order2CmpFunc_api_Dot : VCode :=
 (.seq (.reg [⟨(some 10), none, .mov (.c (.raw (.int .i64 0)))⟩,
   ⟨(some 11), none, .mov (.c (.raw (.int .i64 0)))⟩])
 (.seq (.seq (.draw [⟨(some 12), none, .mov (.t 4)⟩,
   ⟨(some 13), none, .mov (.t 0)⟩,
   ⟨(some 14), none, .mov (.t 2)⟩,
   ⟨(some 15), none, .iaddr 2 none (.t 13) (.t 14)⟩,
   ⟨(some 16), none, .load (some 2) (.t 15)⟩,
   ⟨(some 17), none, .mov (.t 0)⟩,
   ⟨(some 18), none, .mov (.t 1)⟩,
   ⟨(some 19), none, .iaddr 2 none (.t 17) (.t 18)⟩,
   ⟨(some 20), none, .load (some 2) (.t 19)⟩,
   ⟨(some 21), none, .callv (.t 12) [(.t 16), (.t 20)]⟩,
   ⟨(some 22), none, .bin .lss .no (.t 21) (.c (.raw (.int .i64 0)))⟩]
   (.fl 0 (.fl 1 (.fl 2 (.fr 3 (.fr 4 (.fl 5 (.fl 6 (.fr 7 (.fr 8 (.st 9 [] (.fl 10 .done))))))))))))
 (.cond (.t 22)
  (.seq (.reg [⟨(some 23), none, .mov (.t 3)⟩,
    ⟨(some 24), none, .nilck (.t 23)⟩,
    ⟨(some 25), none, .load none (.t 24)⟩,
    ⟨(some 26), none, .bin .add .no (.t 25) (.c (.raw (.int .i64 1)))⟩,
    ⟨(some 27), none, .nilck (.t 23)⟩,
    ⟨none, none, .store none (.t 27) (.t 26)⟩])
  (.seq (.reg [⟨(some 28), none, .mov (.t 2)⟩,
    ⟨(some 29), none, .mov (.t 1)⟩,
    ⟨(some 10), none, .mov (.t 28)⟩,
    ⟨(some 11), none, .mov (.t 29)⟩])
  .ret))
  .skip))
 (.seq (.reg [⟨(some 30), none, .mov (.t 1)⟩,
   ⟨(some 31), none, .mov (.t 2)⟩,
   ⟨(some 10), none, .mov (.t 30)⟩,
   ⟨(some 11), none, .mov (.t 31)⟩])
 .ret)))
theorem i_slices_order2CmpFunc_api_Dot : Is Tryd.prog 118 32 [.t 10, .t 11] c_slices_order2CmpFunc_api_Dot := ⟨Tryd.f118, _, p_slices_order2CmpFunc_api_Dot, rfl, rfl, by kernel_rfl, by kernel_rfl, rfl⟩
theorem follows : Tryd.prog.follows .mixedOrders = true := by kernel_rfl
end Go.Proofs

