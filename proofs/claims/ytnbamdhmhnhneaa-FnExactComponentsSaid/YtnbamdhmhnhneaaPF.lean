import Derived.Test.YtnbamdhmhnhneaaB9
import Derived.Test.YtnbamdhmhnhneaaProg
set_option maxRecDepth 100000
namespace Go.AB
/-! laws.FnExactRoute -/
def l_FnExactRoute_1 : AC := .ops [⟨(some 2), none, .box 24 (.v 0)⟩,
  ⟨(some 4), none, .mv (.k (.bool false))⟩]
def l_FnExactRoute_3 : AC := .ops [⟨(some 5), none, .mv (.k (.int .i64 1048576))⟩]
def l_FnExactRoute_5 : AC := .ops [⟨none, none, .ldn 5 (.v 2)⟩,
  ⟨none, none, .mv (.v 5)⟩,
  ⟨none, none, .call 5 [.r 1, .r 0]⟩,
  ⟨(some 5), none, .mv (.r 0)⟩]
def l_FnExactRoute_8 : AC := .ops [⟨none, none, .mv (.v 5)⟩,
  ⟨(some 23), none, .bin .lss (.r 0) (.k (.int .i64 0))⟩]
def l_FnExactRoute_11 : AC := .ops [⟨(some 4), none, .mv (.k (.bool true))⟩]
def l_FnExactRoute_10 : AC := .seq l_FnExactRoute_11 .ret
def l_FnExactRoute_9 : AC := .cond (.v 23) l_FnExactRoute_10 .skip
def l_FnExactRoute_7 : AC := .seq l_FnExactRoute_8 l_FnExactRoute_9
def l_FnExactRoute_13 : AC := .ops [⟨none, none, .ldn 5 (.v 2)⟩,
  ⟨none, none, .call 7 [.r 0]⟩,
  ⟨none, none, .mv (.v 1)⟩,
  ⟨none, none, .call 6 [.r 1, .r 0]⟩,
  ⟨none, none, .mv (.r 0)⟩,
  ⟨none, none, .ext 0 (.r 0)⟩,
  ⟨none, none, .ext 1 (.r 1)⟩,
  ⟨none, none, .ext 2 (.r 2)⟩,
  ⟨(some 6), none, .mv (.r 2)⟩,
  ⟨(some 7), none, .mv (.r 2)⟩,
  ⟨(some 8), none, .mv (.r 2)⟩]
def l_FnExactRoute_15 : AC := .ops [⟨none, none, .ldn 5 (.v 2)⟩,
  ⟨none, none, .call 7 [.r 0]⟩,
  ⟨(some 9), none, .alloc 28 [.int .i64 0, .slice none 0 0, .slice none 0 0, .slice none 0 0, .slice none 0 0]⟩,
  ⟨none, none, .st 5 (.r 0) (.r 1)⟩]
def l_FnExactRoute_17 : AC := .ops [⟨none, none, .ldn 5 (.v 9)⟩,
  ⟨none, none, .mv (.v 1)⟩,
  ⟨none, none, .call 8 [.r 1, .r 0]⟩,
  ⟨none, none, .mv (.r 0)⟩,
  ⟨none, none, .ext 0 (.r 0)⟩,
  ⟨none, none, .ext 1 (.r 1)⟩,
  ⟨none, none, .ext 2 (.r 2)⟩,
  ⟨(some 10), none, .mv (.r 2)⟩,
  ⟨(some 11), none, .mv (.r 2)⟩,
  ⟨(some 12), none, .mv (.r 2)⟩]
def l_FnExactRoute_20 : AC := .ops [⟨none, none, .mv (.v 10)⟩,
  ⟨none, none, .mv (.v 6)⟩,
  ⟨none, none, .call 9 [.r 1, .r 0]⟩,
  ⟨none, none, .un .not (.r 0)⟩,
  ⟨none, none, .mv (.r 0)⟩,
  ⟨none, (some (0, false)), .mv (.v 11)⟩,
  ⟨none, (some (1, false)), .mv (.v 7)⟩,
  ⟨none, (some (2, false)), .call 9 [.r 1, .r 0]⟩,
  ⟨none, (some (3, false)), .un .not (.r 0)⟩,
  ⟨none, none, .pick (.r 4) (.k (.bool true)) (.r 0)⟩,
  ⟨none, none, .mv (.r 0)⟩,
  ⟨none, (some (0, false)), .mv (.v 12)⟩,
  ⟨none, (some (1, false)), .mv (.v 8)⟩,
  ⟨none, (some (2, false)), .bin .neq (.r 1) (.r 0)⟩,
  ⟨(some 55), none, .pick (.r 3) (.k (.bool true)) (.r 0)⟩]
def l_FnExactRoute_23 : AC := .ops [⟨(some 4), none, .mv (.k (.bool false))⟩]
def l_FnExactRoute_22 : AC := .seq l_FnExactRoute_23 .ret
def l_FnExactRoute_21 : AC := .cond (.v 55) l_FnExactRoute_22 .skip
def l_FnExactRoute_19 : AC := .seq l_FnExactRoute_20 l_FnExactRoute_21
def l_FnExactRoute_26 : AC := .draw [⟨none, none, .ldn 5 (.v 9)⟩,
  ⟨none, none, .ldn 5 (.v 2)⟩,
  ⟨none, none, .call 7 [.r 0]⟩,
  ⟨none, none, .call 10 [.r 2, .r 0]⟩,
  ⟨(some 60), none, .un .not (.r 0)⟩] [(0, 2)]
def l_FnExactRoute_29 : AC := .ops [⟨(some 4), none, .mv (.k (.bool false))⟩]
def l_FnExactRoute_28 : AC := .seq l_FnExactRoute_29 .ret
def l_FnExactRoute_27 : AC := .cond (.v 60) l_FnExactRoute_28 .skip
def l_FnExactRoute_25 : AC := .seq l_FnExactRoute_26 l_FnExactRoute_27
def l_FnExactRoute_31 : AC := .ops [⟨(some 13), none, .mv (.k (.int .i64 1))⟩]
def l_FnExactRoute_33 : AC := .ops [⟨none, none, .ldn 5 (.v 9)⟩,
  ⟨none, none, .mv (.v 13)⟩,
  ⟨none, none, .call 11 [.r 1, .r 0]⟩,
  ⟨(some 13), none, .mv (.r 0)⟩]
def l_FnExactRoute_36 : AC := .ops [⟨none, none, .mv (.v 13)⟩,
  ⟨none, none, .bin .lss (.r 0) (.k (.int .i64 0))⟩,
  ⟨none, none, .mv (.r 0)⟩,
  ⟨none, (some (0, false)), .mv (.v 10)⟩,
  ⟨none, (some (1, false)), .mv (.v 6)⟩,
  ⟨none, (some (2, false)), .call 9 [.r 1, .r 0]⟩,
  ⟨none, (some (3, false)), .un .not (.r 0)⟩,
  ⟨none, none, .pick (.r 4) (.k (.bool true)) (.r 0)⟩,
  ⟨none, none, .mv (.r 0)⟩,
  ⟨none, (some (0, false)), .mv (.v 11)⟩,
  ⟨none, (some (1, false)), .mv (.v 7)⟩,
  ⟨none, (some (2, false)), .call 9 [.r 1, .r 0]⟩,
  ⟨none, (some (3, false)), .un .not (.r 0)⟩,
  ⟨none, none, .pick (.r 4) (.k (.bool true)) (.r 0)⟩,
  ⟨none, none, .mv (.r 0)⟩,
  ⟨none, (some (0, false)), .mv (.v 12)⟩,
  ⟨none, (some (1, false)), .mv (.v 8)⟩,
  ⟨none, (some (2, false)), .bin .neq (.r 1) (.r 0)⟩,
  ⟨(some 82), none, .pick (.r 3) (.k (.bool true)) (.r 0)⟩]
def l_FnExactRoute_39 : AC := .ops [⟨(some 4), none, .mv (.k (.bool false))⟩]
def l_FnExactRoute_38 : AC := .seq l_FnExactRoute_39 .ret
def l_FnExactRoute_37 : AC := .cond (.v 82) l_FnExactRoute_38 .skip
def l_FnExactRoute_35 : AC := .seq l_FnExactRoute_36 l_FnExactRoute_37
def l_FnExactRoute_41 : AC := .ops [⟨(some 14), none, .mv (.k (.int .i64 1))⟩]
def l_FnExactRoute_43 : AC := .ops [⟨none, none, .mv (.v 10)⟩,
  ⟨none, none, .mv (.v 14)⟩,
  ⟨none, none, .call 12 [.r 1, .r 0]⟩,
  ⟨(some 14), none, .mv (.r 0)⟩]
def l_FnExactRoute_45 : AC := .ops [⟨none, none, .mv (.v 11)⟩,
  ⟨none, none, .mv (.v 14)⟩,
  ⟨none, none, .call 12 [.r 1, .r 0]⟩,
  ⟨(some 14), none, .mv (.r 0)⟩]
def l_FnExactRoute_47 : AC := .ops [⟨(some 15), none, .mv (.k (.int .i64 1))⟩]
def l_FnExactRoute_49 : AC := .ops [⟨none, none, .mv (.v 10)⟩,
  ⟨none, none, .mv (.v 15)⟩,
  ⟨none, none, .call 13 [.r 1, .r 0]⟩,
  ⟨(some 15), none, .mv (.r 0)⟩]
def l_FnExactRoute_52 : AC := .ops [⟨none, none, .mv (.v 15)⟩,
  ⟨(some 93), none, .bin .lss (.r 0) (.k (.int .i64 0))⟩]
def l_FnExactRoute_55 : AC := .ops [⟨(some 4), none, .mv (.k (.bool false))⟩]
def l_FnExactRoute_54 : AC := .seq l_FnExactRoute_55 .ret
def l_FnExactRoute_53 : AC := .cond (.v 93) l_FnExactRoute_54 .skip
def l_FnExactRoute_51 : AC := .seq l_FnExactRoute_52 l_FnExactRoute_53
def l_FnExactRoute_57 : AC := .ops [⟨none, none, .mv (.v 11)⟩,
  ⟨none, none, .mv (.v 15)⟩,
  ⟨none, none, .call 13 [.r 1, .r 0]⟩,
  ⟨(some 15), none, .mv (.r 0)⟩]
def l_FnExactRoute_60 : AC := .ops [⟨none, none, .mv (.v 15)⟩,
  ⟨(some 98), none, .bin .lss (.r 0) (.k (.int .i64 0))⟩]
def l_FnExactRoute_63 : AC := .ops [⟨(some 4), none, .mv (.k (.bool false))⟩]
def l_FnExactRoute_62 : AC := .seq l_FnExactRoute_63 .ret
def l_FnExactRoute_61 : AC := .cond (.v 98) l_FnExactRoute_62 .skip
def l_FnExactRoute_59 : AC := .seq l_FnExactRoute_60 l_FnExactRoute_61
def l_FnExactRoute_66 : AC := .ops [⟨none, none, .mv (.v 15)⟩,
  ⟨none, none, .mv (.v 14)⟩,
  ⟨(some 101), none, .bin .neq (.r 1) (.r 0)⟩]
def l_FnExactRoute_69 : AC := .ops [⟨(some 4), none, .mv (.k (.bool false))⟩]
def l_FnExactRoute_68 : AC := .seq l_FnExactRoute_69 .ret
def l_FnExactRoute_67 : AC := .cond (.v 101) l_FnExactRoute_68 .skip
def l_FnExactRoute_65 : AC := .seq l_FnExactRoute_66 l_FnExactRoute_67
def l_FnExactRoute_71 : AC := .ops [⟨none, none, .ldn 5 (.v 2)⟩,
  ⟨none, none, .call 7 [.r 0]⟩,
  ⟨none, none, .mv (.v 1)⟩,
  ⟨none, none, .call 8 [.r 1, .r 0]⟩,
  ⟨none, none, .mv (.r 0)⟩,
  ⟨none, none, .ext 0 (.r 0)⟩,
  ⟨none, none, .ext 1 (.r 1)⟩,
  ⟨none, none, .ext 2 (.r 2)⟩,
  ⟨(some 16), none, .mv (.r 2)⟩,
  ⟨(some 17), none, .mv (.r 2)⟩,
  ⟨(some 18), none, .mv (.r 2)⟩]
def l_FnExactRoute_74 : AC := .ops [⟨none, none, .mv (.v 16)⟩,
  ⟨none, none, .mv (.v 6)⟩,
  ⟨none, none, .call 9 [.r 1, .r 0]⟩,
  ⟨none, none, .un .not (.r 0)⟩,
  ⟨none, none, .mv (.r 0)⟩,
  ⟨none, (some (0, false)), .mv (.v 17)⟩,
  ⟨none, (some (1, false)), .mv (.v 7)⟩,
  ⟨none, (some (2, false)), .call 9 [.r 1, .r 0]⟩,
  ⟨none, (some (3, false)), .un .not (.r 0)⟩,
  ⟨none, none, .pick (.r 4) (.k (.bool true)) (.r 0)⟩,
  ⟨none, none, .mv (.r 0)⟩,
  ⟨none, (some (0, false)), .mv (.v 18)⟩,
  ⟨none, (some (1, false)), .mv (.v 8)⟩,
  ⟨none, (some (2, false)), .bin .neq (.r 1) (.r 0)⟩,
  ⟨(some 124), none, .pick (.r 3) (.k (.bool true)) (.r 0)⟩]
def l_FnExactRoute_77 : AC := .ops [⟨(some 4), none, .mv (.k (.bool false))⟩]
def l_FnExactRoute_76 : AC := .seq l_FnExactRoute_77 .ret
def l_FnExactRoute_75 : AC := .cond (.v 124) l_FnExactRoute_76 .skip
def l_FnExactRoute_73 : AC := .seq l_FnExactRoute_74 l_FnExactRoute_75
def l_FnExactRoute_79 : AC := .ops [⟨(some 15), none, .mv (.k (.int .i64 1))⟩]
def l_FnExactRoute_81 : AC := .ops [⟨none, none, .mv (.v 10)⟩,
  ⟨none, none, .mv (.v 15)⟩,
  ⟨none, none, .call 13 [.r 1, .r 0]⟩,
  ⟨(some 15), none, .mv (.r 0)⟩]
def l_FnExactRoute_84 : AC := .ops [⟨none, none, .mv (.v 15)⟩,
  ⟨(some 129), none, .bin .lss (.r 0) (.k (.int .i64 0))⟩]
def l_FnExactRoute_87 : AC := .ops [⟨(some 4), none, .mv (.k (.bool false))⟩]
def l_FnExactRoute_86 : AC := .seq l_FnExactRoute_87 .ret
def l_FnExactRoute_85 : AC := .cond (.v 129) l_FnExactRoute_86 .skip
def l_FnExactRoute_83 : AC := .seq l_FnExactRoute_84 l_FnExactRoute_85
def l_FnExactRoute_89 : AC := .ops [⟨none, none, .mv (.v 11)⟩,
  ⟨none, none, .mv (.v 15)⟩,
  ⟨none, none, .call 13 [.r 1, .r 0]⟩,
  ⟨(some 15), none, .mv (.r 0)⟩]
def l_FnExactRoute_92 : AC := .ops [⟨none, none, .mv (.v 15)⟩,
  ⟨(some 134), none, .bin .lss (.r 0) (.k (.int .i64 0))⟩]
def l_FnExactRoute_95 : AC := .ops [⟨(some 4), none, .mv (.k (.bool false))⟩]
def l_FnExactRoute_94 : AC := .seq l_FnExactRoute_95 .ret
def l_FnExactRoute_93 : AC := .cond (.v 134) l_FnExactRoute_94 .skip
def l_FnExactRoute_91 : AC := .seq l_FnExactRoute_92 l_FnExactRoute_93
def l_FnExactRoute_98 : AC := .ops [⟨none, none, .mv (.v 15)⟩,
  ⟨none, none, .mv (.v 14)⟩,
  ⟨(some 137), none, .bin .neq (.r 1) (.r 0)⟩]
def l_FnExactRoute_101 : AC := .ops [⟨(some 4), none, .mv (.k (.bool false))⟩]
def l_FnExactRoute_100 : AC := .seq l_FnExactRoute_101 .ret
def l_FnExactRoute_99 : AC := .cond (.v 137) l_FnExactRoute_100 .skip
def l_FnExactRoute_97 : AC := .seq l_FnExactRoute_98 l_FnExactRoute_99
def l_FnExactRoute_103 : AC := .ops [⟨(some 4), none, .mv (.k (.bool true))⟩]
def l_FnExactRoute_102 : AC := .seq l_FnExactRoute_103 .ret
def l_FnExactRoute_96 : AC := .seq l_FnExactRoute_97 l_FnExactRoute_102
def l_FnExactRoute_90 : AC := .seq l_FnExactRoute_91 l_FnExactRoute_96
def l_FnExactRoute_88 : AC := .seq l_FnExactRoute_89 l_FnExactRoute_90
def l_FnExactRoute_82 : AC := .seq l_FnExactRoute_83 l_FnExactRoute_88
def l_FnExactRoute_80 : AC := .seq l_FnExactRoute_81 l_FnExactRoute_82
def l_FnExactRoute_78 : AC := .seq l_FnExactRoute_79 l_FnExactRoute_80
def l_FnExactRoute_72 : AC := .seq l_FnExactRoute_73 l_FnExactRoute_78
def l_FnExactRoute_70 : AC := .seq l_FnExactRoute_71 l_FnExactRoute_72
def l_FnExactRoute_64 : AC := .seq l_FnExactRoute_65 l_FnExactRoute_70
def l_FnExactRoute_58 : AC := .seq l_FnExactRoute_59 l_FnExactRoute_64
def l_FnExactRoute_56 : AC := .seq l_FnExactRoute_57 l_FnExactRoute_58
def l_FnExactRoute_50 : AC := .seq l_FnExactRoute_51 l_FnExactRoute_56
def l_FnExactRoute_48 : AC := .seq l_FnExactRoute_49 l_FnExactRoute_50
def l_FnExactRoute_46 : AC := .seq l_FnExactRoute_47 l_FnExactRoute_48
def l_FnExactRoute_44 : AC := .seq l_FnExactRoute_45 l_FnExactRoute_46
def l_FnExactRoute_42 : AC := .seq l_FnExactRoute_43 l_FnExactRoute_44
def l_FnExactRoute_40 : AC := .seq l_FnExactRoute_41 l_FnExactRoute_42
def l_FnExactRoute_34 : AC := .seq l_FnExactRoute_35 l_FnExactRoute_40
def l_FnExactRoute_32 : AC := .seq l_FnExactRoute_33 l_FnExactRoute_34
def l_FnExactRoute_30 : AC := .seq l_FnExactRoute_31 l_FnExactRoute_32
def l_FnExactRoute_24 : AC := .seq l_FnExactRoute_25 l_FnExactRoute_30
def l_FnExactRoute_18 : AC := .seq l_FnExactRoute_19 l_FnExactRoute_24
def l_FnExactRoute_16 : AC := .seq l_FnExactRoute_17 l_FnExactRoute_18
def l_FnExactRoute_14 : AC := .seq l_FnExactRoute_15 l_FnExactRoute_16
def l_FnExactRoute_12 : AC := .seq l_FnExactRoute_13 l_FnExactRoute_14
def l_FnExactRoute_6 : AC := .seq l_FnExactRoute_7 l_FnExactRoute_12
def l_FnExactRoute_4 : AC := .seq l_FnExactRoute_5 l_FnExactRoute_6
def l_FnExactRoute_2 : AC := .seq l_FnExactRoute_3 l_FnExactRoute_4
def l_FnExactRoute_0 : AC := .seq l_FnExactRoute_1 l_FnExactRoute_2
def rs_l_FnExactRoute : List ARes := [.t 4]
theorem cf_l_FnExactRoute : cfun Go.Proofs.Try.prog [0, 1, 2, 4, 5, 6, 7, 8, 9, 10, 11, 12, 13, 14, 15, 16, 17, 18, 23, 55, 60, 82, 93, 98, 101, 124, 129, 134, 137] Go.Proofs.Try.f3 = some (l_FnExactRoute_0, rs_l_FnExactRoute) := by kernel_rfl

/-! laws.FnExactComponents -/
def l_FnExactComponents_1 : AC := .ops [⟨(some 1), none, .box 24 (.v 0)⟩,
  ⟨(some 2), none, .mv (.k (.bool false))⟩]
def l_FnExactComponents_3 : AC := .ops [⟨(some 3), none, .mv (.k (.int .i64 1048576))⟩]
def l_FnExactComponents_5 : AC := .ops [⟨none, none, .ldn 5 (.v 1)⟩,
  ⟨none, none, .mv (.v 3)⟩,
  ⟨none, none, .call 5 [.r 1, .r 0]⟩,
  ⟨(some 3), none, .mv (.r 0)⟩]
def l_FnExactComponents_8 : AC := .ops [⟨none, none, .mv (.v 3)⟩,
  ⟨(some 18), none, .bin .lss (.r 0) (.k (.int .i64 0))⟩]
def l_FnExactComponents_11 : AC := .ops [⟨(some 2), none, .mv (.k (.bool true))⟩]
def l_FnExactComponents_10 : AC := .seq l_FnExactComponents_11 .ret
def l_FnExactComponents_9 : AC := .cond (.v 18) l_FnExactComponents_10 .skip
def l_FnExactComponents_7 : AC := .seq l_FnExactComponents_8 l_FnExactComponents_9
def l_FnExactComponents_13 : AC := .ops [⟨none, none, .ldn 5 (.v 1)⟩,
  ⟨none, none, .call 7 [.r 0]⟩,
  ⟨none, none, .call 14 [.r 0]⟩,
  ⟨none, none, .mv (.r 0)⟩,
  ⟨none, none, .ext 0 (.r 0)⟩,
  ⟨none, none, .ext 1 (.r 1)⟩,
  ⟨(some 4), none, .mv (.r 1)⟩,
  ⟨(some 5), none, .mv (.r 1)⟩]
def l_FnExactComponents_15 : AC := .ops [⟨none, none, .ldn 5 (.v 1)⟩,
  ⟨none, none, .call 7 [.r 0]⟩,
  ⟨(some 6), none, .alloc 28 [.int .i64 0, .slice none 0 0, .slice none 0 0, .slice none 0 0, .slice none 0 0]⟩,
  ⟨none, none, .st 5 (.r 0) (.r 1)⟩]
def l_FnExactComponents_17 : AC := .ops [⟨none, none, .ldn 5 (.v 6)⟩,
  ⟨none, none, .call 15 [.r 0]⟩,
  ⟨none, none, .mv (.r 0)⟩,
  ⟨none, none, .ext 0 (.r 0)⟩,
  ⟨none, none, .ext 1 (.r 1)⟩,
  ⟨(some 7), none, .mv (.r 1)⟩,
  ⟨(some 8), none, .mv (.r 1)⟩]
def l_FnExactComponents_20 : AC := .ops [⟨none, none, .mv (.v 7)⟩,
  ⟨none, none, .mv (.v 4)⟩,
  ⟨none, none, .call 9 [.r 1, .r 0]⟩,
  ⟨none, none, .un .not (.r 0)⟩,
  ⟨none, none, .mv (.r 0)⟩,
  ⟨none, (some (0, false)), .mv (.v 8)⟩,
  ⟨none, (some (1, false)), .mv (.v 5)⟩,
  ⟨none, (some (2, false)), .bin .neq (.r 1) (.r 0)⟩,
  ⟨(some 40), none, .pick (.r 3) (.k (.bool true)) (.r 0)⟩]
def l_FnExactComponents_23 : AC := .ops [⟨(some 2), none, .mv (.k (.bool false))⟩]
def l_FnExactComponents_22 : AC := .seq l_FnExactComponents_23 .ret
def l_FnExactComponents_21 : AC := .cond (.v 40) l_FnExactComponents_22 .skip
def l_FnExactComponents_19 : AC := .seq l_FnExactComponents_20 l_FnExactComponents_21
def l_FnExactComponents_26 : AC := .draw [⟨none, none, .ldn 5 (.v 6)⟩,
  ⟨none, none, .ldn 5 (.v 1)⟩,
  ⟨none, none, .call 7 [.r 0]⟩,
  ⟨none, none, .call 10 [.r 2, .r 0]⟩,
  ⟨(some 45), none, .un .not (.r 0)⟩] [(0, 2)]
def l_FnExactComponents_29 : AC := .ops [⟨(some 2), none, .mv (.k (.bool false))⟩]
def l_FnExactComponents_28 : AC := .seq l_FnExactComponents_29 .ret
def l_FnExactComponents_27 : AC := .cond (.v 45) l_FnExactComponents_28 .skip
def l_FnExactComponents_25 : AC := .seq l_FnExactComponents_26 l_FnExactComponents_27
def l_FnExactComponents_31 : AC := .ops [⟨(some 9), none, .mv (.k (.int .i64 1))⟩]
def l_FnExactComponents_33 : AC := .ops [⟨none, none, .ldn 5 (.v 6)⟩,
  ⟨none, none, .mv (.v 9)⟩,
  ⟨none, none, .call 11 [.r 1, .r 0]⟩,
  ⟨(some 9), none, .mv (.r 0)⟩]
def l_FnExactComponents_36 : AC := .ops [⟨none, none, .mv (.v 9)⟩,
  ⟨none, none, .bin .lss (.r 0) (.k (.int .i64 0))⟩,
  ⟨none, none, .mv (.r 0)⟩,
  ⟨none, (some (0, false)), .mv (.v 7)⟩,
  ⟨none, (some (1, false)), .mv (.v 4)⟩,
  ⟨none, (some (2, false)), .call 9 [.r 1, .r 0]⟩,
  ⟨none, (some (3, false)), .un .not (.r 0)⟩,
  ⟨none, none, .pick (.r 4) (.k (.bool true)) (.r 0)⟩,
  ⟨none, none, .mv (.r 0)⟩,
  ⟨none, (some (0, false)), .mv (.v 8)⟩,
  ⟨none, (some (1, false)), .mv (.v 5)⟩,
  ⟨none, (some (2, false)), .bin .neq (.r 1) (.r 0)⟩,
  ⟨(some 61), none, .pick (.r 3) (.k (.bool true)) (.r 0)⟩]
def l_FnExactComponents_39 : AC := .ops [⟨(some 2), none, .mv (.k (.bool false))⟩]
def l_FnExactComponents_38 : AC := .seq l_FnExactComponents_39 .ret
def l_FnExactComponents_37 : AC := .cond (.v 61) l_FnExactComponents_38 .skip
def l_FnExactComponents_35 : AC := .seq l_FnExactComponents_36 l_FnExactComponents_37
def l_FnExactComponents_41 : AC := .ops [⟨(some 10), none, .mv (.k (.int .i64 1))⟩]
def l_FnExactComponents_43 : AC := .ops [⟨none, none, .mv (.v 7)⟩,
  ⟨none, none, .mv (.v 10)⟩,
  ⟨none, none, .call 12 [.r 1, .r 0]⟩,
  ⟨(some 10), none, .mv (.r 0)⟩]
def l_FnExactComponents_45 : AC := .ops [⟨(some 11), none, .mv (.k (.int .i64 1))⟩]
def l_FnExactComponents_47 : AC := .ops [⟨none, none, .mv (.v 7)⟩,
  ⟨none, none, .mv (.v 11)⟩,
  ⟨none, none, .call 13 [.r 1, .r 0]⟩,
  ⟨(some 11), none, .mv (.r 0)⟩]
def l_FnExactComponents_50 : AC := .ops [⟨none, none, .mv (.v 11)⟩,
  ⟨(some 69), none, .bin .lss (.r 0) (.k (.int .i64 0))⟩]
def l_FnExactComponents_53 : AC := .ops [⟨(some 2), none, .mv (.k (.bool false))⟩]
def l_FnExactComponents_52 : AC := .seq l_FnExactComponents_53 .ret
def l_FnExactComponents_51 : AC := .cond (.v 69) l_FnExactComponents_52 .skip
def l_FnExactComponents_49 : AC := .seq l_FnExactComponents_50 l_FnExactComponents_51
def l_FnExactComponents_56 : AC := .ops [⟨none, none, .mv (.v 11)⟩,
  ⟨none, none, .mv (.v 10)⟩,
  ⟨(some 72), none, .bin .neq (.r 1) (.r 0)⟩]
def l_FnExactComponents_59 : AC := .ops [⟨(some 2), none, .mv (.k (.bool false))⟩]
def l_FnExactComponents_58 : AC := .seq l_FnExactComponents_59 .ret
def l_FnExactComponents_57 : AC := .cond (.v 72) l_FnExactComponents_58 .skip
def l_FnExactComponents_55 : AC := .seq l_FnExactComponents_56 l_FnExactComponents_57
def l_FnExactComponents_61 : AC := .ops [⟨none, none, .ldn 5 (.v 1)⟩,
  ⟨none, none, .call 7 [.r 0]⟩,
  ⟨none, none, .call 15 [.r 0]⟩,
  ⟨none, none, .mv (.r 0)⟩,
  ⟨none, none, .ext 0 (.r 0)⟩,
  ⟨none, none, .ext 1 (.r 1)⟩,
  ⟨(some 12), none, .mv (.r 1)⟩,
  ⟨(some 13), none, .mv (.r 1)⟩]
def l_FnExactComponents_64 : AC := .ops [⟨none, none, .mv (.v 12)⟩,
  ⟨none, none, .mv (.v 4)⟩,
  ⟨none, none, .call 9 [.r 1, .r 0]⟩,
  ⟨none, none, .un .not (.r 0)⟩,
  ⟨none, none, .mv (.r 0)⟩,
  ⟨none, (some (0, false)), .mv (.v 13)⟩,
  ⟨none, (some (1, false)), .mv (.v 5)⟩,
  ⟨none, (some (2, false)), .bin .neq (.r 1) (.r 0)⟩,
  ⟨(some 87), none, .pick (.r 3) (.k (.bool true)) (.r 0)⟩]
def l_FnExactComponents_67 : AC := .ops [⟨(some 2), none, .mv (.k (.bool false))⟩]
def l_FnExactComponents_66 : AC := .seq l_FnExactComponents_67 .ret
def l_FnExactComponents_65 : AC := .cond (.v 87) l_FnExactComponents_66 .skip
def l_FnExactComponents_63 : AC := .seq l_FnExactComponents_64 l_FnExactComponents_65
def l_FnExactComponents_69 : AC := .ops [⟨(some 11), none, .mv (.k (.int .i64 1))⟩]
def l_FnExactComponents_71 : AC := .ops [⟨none, none, .mv (.v 7)⟩,
  ⟨none, none, .mv (.v 11)⟩,
  ⟨none, none, .call 13 [.r 1, .r 0]⟩,
  ⟨(some 11), none, .mv (.r 0)⟩]
def l_FnExactComponents_74 : AC := .ops [⟨none, none, .mv (.v 11)⟩,
  ⟨(some 92), none, .bin .lss (.r 0) (.k (.int .i64 0))⟩]
def l_FnExactComponents_77 : AC := .ops [⟨(some 2), none, .mv (.k (.bool false))⟩]
def l_FnExactComponents_76 : AC := .seq l_FnExactComponents_77 .ret
def l_FnExactComponents_75 : AC := .cond (.v 92) l_FnExactComponents_76 .skip
def l_FnExactComponents_73 : AC := .seq l_FnExactComponents_74 l_FnExactComponents_75
def l_FnExactComponents_80 : AC := .ops [⟨none, none, .mv (.v 11)⟩,
  ⟨none, none, .mv (.v 10)⟩,
  ⟨(some 95), none, .bin .neq (.r 1) (.r 0)⟩]
def l_FnExactComponents_83 : AC := .ops [⟨(some 2), none, .mv (.k (.bool false))⟩]
def l_FnExactComponents_82 : AC := .seq l_FnExactComponents_83 .ret
def l_FnExactComponents_81 : AC := .cond (.v 95) l_FnExactComponents_82 .skip
def l_FnExactComponents_79 : AC := .seq l_FnExactComponents_80 l_FnExactComponents_81
def l_FnExactComponents_85 : AC := .ops [⟨(some 2), none, .mv (.k (.bool true))⟩]
def l_FnExactComponents_84 : AC := .seq l_FnExactComponents_85 .ret
def l_FnExactComponents_78 : AC := .seq l_FnExactComponents_79 l_FnExactComponents_84
def l_FnExactComponents_72 : AC := .seq l_FnExactComponents_73 l_FnExactComponents_78
def l_FnExactComponents_70 : AC := .seq l_FnExactComponents_71 l_FnExactComponents_72
def l_FnExactComponents_68 : AC := .seq l_FnExactComponents_69 l_FnExactComponents_70
def l_FnExactComponents_62 : AC := .seq l_FnExactComponents_63 l_FnExactComponents_68
def l_FnExactComponents_60 : AC := .seq l_FnExactComponents_61 l_FnExactComponents_62
def l_FnExactComponents_54 : AC := .seq l_FnExactComponents_55 l_FnExactComponents_60
def l_FnExactComponents_48 : AC := .seq l_FnExactComponents_49 l_FnExactComponents_54
def l_FnExactComponents_46 : AC := .seq l_FnExactComponents_47 l_FnExactComponents_48
def l_FnExactComponents_44 : AC := .seq l_FnExactComponents_45 l_FnExactComponents_46
def l_FnExactComponents_42 : AC := .seq l_FnExactComponents_43 l_FnExactComponents_44
def l_FnExactComponents_40 : AC := .seq l_FnExactComponents_41 l_FnExactComponents_42
def l_FnExactComponents_34 : AC := .seq l_FnExactComponents_35 l_FnExactComponents_40
def l_FnExactComponents_32 : AC := .seq l_FnExactComponents_33 l_FnExactComponents_34
def l_FnExactComponents_30 : AC := .seq l_FnExactComponents_31 l_FnExactComponents_32
def l_FnExactComponents_24 : AC := .seq l_FnExactComponents_25 l_FnExactComponents_30
def l_FnExactComponents_18 : AC := .seq l_FnExactComponents_19 l_FnExactComponents_24
def l_FnExactComponents_16 : AC := .seq l_FnExactComponents_17 l_FnExactComponents_18
def l_FnExactComponents_14 : AC := .seq l_FnExactComponents_15 l_FnExactComponents_16
def l_FnExactComponents_12 : AC := .seq l_FnExactComponents_13 l_FnExactComponents_14
def l_FnExactComponents_6 : AC := .seq l_FnExactComponents_7 l_FnExactComponents_12
def l_FnExactComponents_4 : AC := .seq l_FnExactComponents_5 l_FnExactComponents_6
def l_FnExactComponents_2 : AC := .seq l_FnExactComponents_3 l_FnExactComponents_4
def l_FnExactComponents_0 : AC := .seq l_FnExactComponents_1 l_FnExactComponents_2
def rs_l_FnExactComponents : List ARes := [.t 2]
theorem cf_l_FnExactComponents : cfun Go.Proofs.Try.prog [0, 1, 2, 3, 4, 5, 6, 7, 8, 9, 10, 11, 12, 13, 18, 40, 45, 61, 69, 72, 87, 92, 95] Go.Proofs.Try.f4 = some (l_FnExactComponents_0, rs_l_FnExactComponents) := by kernel_rfl

/-! laws.szGraph -/
def l_szGraph_1 : AC := .ops [⟨(some 2), none, .box 24 (.v 0)⟩,
  ⟨(some 4), none, .mv (.k (.int .i64 0))⟩]
def l_szGraph_3 : AC := .ops [⟨none, none, .fa 1 (.v 2)⟩,
  ⟨none, none, .ld (.r 0)⟩,
  ⟨none, none, .mv (.v 1)⟩,
  ⟨none, none, .call 16 [.r 1, .r 0]⟩,
  ⟨(some 1), none, .mv (.r 0)⟩]
def l_szGraph_6 : AC := .ops [⟨none, none, .mv (.v 1)⟩,
  ⟨(some 10), none, .bin .lss (.r 0) (.k (.int .i64 0))⟩]
def l_szGraph_9 : AC := .ops [⟨(some 4), none, .mv (.k (.int .i64 (-1)))⟩]
def l_szGraph_8 : AC := .seq l_szGraph_9 .ret
def l_szGraph_7 : AC := .cond (.v 10) l_szGraph_8 .skip
def l_szGraph_5 : AC := .seq l_szGraph_6 l_szGraph_7
def l_szGraph_11 : AC := .ops [⟨none, none, .fa 2 (.v 2)⟩,
  ⟨none, none, .ld (.r 0)⟩,
  ⟨none, none, .mv (.v 1)⟩,
  ⟨none, none, .call 16 [.r 1, .r 0]⟩,
  ⟨(some 1), none, .mv (.r 0)⟩]
def l_szGraph_14 : AC := .ops [⟨none, none, .mv (.v 1)⟩,
  ⟨(some 16), none, .bin .lss (.r 0) (.k (.int .i64 0))⟩]
def l_szGraph_17 : AC := .ops [⟨(some 4), none, .mv (.k (.int .i64 (-1)))⟩]
def l_szGraph_16 : AC := .seq l_szGraph_17 .ret
def l_szGraph_15 : AC := .cond (.v 16) l_szGraph_16 .skip
def l_szGraph_13 : AC := .seq l_szGraph_14 l_szGraph_15
def l_szGraph_19 : AC := .ops [⟨none, none, .fa 3 (.v 2)⟩,
  ⟨none, none, .ld (.r 0)⟩,
  ⟨none, none, .mv (.v 1)⟩,
  ⟨none, none, .call 16 [.r 1, .r 0]⟩,
  ⟨(some 1), none, .mv (.r 0)⟩]
def l_szGraph_22 : AC := .ops [⟨none, none, .mv (.v 1)⟩,
  ⟨(some 22), none, .bin .lss (.r 0) (.k (.int .i64 0))⟩]
def l_szGraph_25 : AC := .ops [⟨(some 4), none, .mv (.k (.int .i64 (-1)))⟩]
def l_szGraph_24 : AC := .seq l_szGraph_25 .ret
def l_szGraph_23 : AC := .cond (.v 22) l_szGraph_24 .skip
def l_szGraph_21 : AC := .seq l_szGraph_22 l_szGraph_23
def l_szGraph_27 : AC := .ops [⟨none, none, .fa 4 (.v 2)⟩,
  ⟨none, none, .ld (.r 0)⟩,
  ⟨none, none, .mv (.v 1)⟩,
  ⟨none, none, .call 16 [.r 1, .r 0]⟩,
  ⟨(some 1), none, .mv (.r 0)⟩]
def l_szGraph_30 : AC := .ops [⟨none, none, .mv (.v 1)⟩,
  ⟨(some 28), none, .bin .lss (.r 0) (.k (.int .i64 0))⟩]
def l_szGraph_33 : AC := .ops [⟨(some 4), none, .mv (.k (.int .i64 (-1)))⟩]
def l_szGraph_32 : AC := .seq l_szGraph_33 .ret
def l_szGraph_31 : AC := .cond (.v 28) l_szGraph_32 .skip
def l_szGraph_29 : AC := .seq l_szGraph_30 l_szGraph_31
def l_szGraph_35 : AC := .ops [⟨none, none, .mv (.v 1)⟩,
  ⟨(some 4), none, .mv (.r 0)⟩]
def l_szGraph_34 : AC := .seq l_szGraph_35 .ret
def l_szGraph_28 : AC := .seq l_szGraph_29 l_szGraph_34
def l_szGraph_26 : AC := .seq l_szGraph_27 l_szGraph_28
def l_szGraph_20 : AC := .seq l_szGraph_21 l_szGraph_26
def l_szGraph_18 : AC := .seq l_szGraph_19 l_szGraph_20
def l_szGraph_12 : AC := .seq l_szGraph_13 l_szGraph_18
def l_szGraph_10 : AC := .seq l_szGraph_11 l_szGraph_12
def l_szGraph_4 : AC := .seq l_szGraph_5 l_szGraph_10
def l_szGraph_2 : AC := .seq l_szGraph_3 l_szGraph_4
def l_szGraph_0 : AC := .seq l_szGraph_1 l_szGraph_2
def rs_l_szGraph : List ARes := [.t 4]
theorem cf_l_szGraph : cfun Go.Proofs.Try.prog [0, 1, 2, 4, 10, 16, 22, 28] Go.Proofs.Try.f5 = some (l_szGraph_0, rs_l_szGraph) := by kernel_rfl

/-! spec.Route -/
def s_Route_1 : AC := .ops [⟨(some 2), none, .box 28 (.v 0)⟩,
  ⟨(some 4), none, .mv (.k (.slice none 0 0))⟩,
  ⟨(some 5), none, .mv (.k (.slice none 0 0))⟩,
  ⟨(some 6), none, .mv (.k (.int .i64 0))⟩]
def s_Route_4 : AC := .ops [⟨none, none, .ldn 5 (.v 2)⟩,
  ⟨none, none, .call 17 [.r 0]⟩,
  ⟨none, none, .un .not (.r 0)⟩,
  ⟨none, none, .mv (.r 0)⟩,
  ⟨none, (some (0, false)), .mv (.v 1)⟩,
  ⟨none, (some (1, false)), .bin .lss (.r 0) (.k (.int .i64 0))⟩,
  ⟨none, none, .pick (.r 2) (.k (.bool true)) (.r 0)⟩,
  ⟨none, none, .mv (.r 0)⟩,
  ⟨none, (some (0, false)), .mv (.v 1)⟩,
  ⟨none, (some (1, false)), .fa 0 (.v 2)⟩,
  ⟨none, (some (2, false)), .ld (.r 0)⟩,
  ⟨none, (some (3, false)), .bin .geq (.r 2) (.r 0)⟩,
  ⟨(some 29), none, .pick (.r 4) (.k (.bool true)) (.r 0)⟩]
def s_Route_7 : AC := .ops [⟨(some 4), none, .mv (.k (.slice none 0 0))⟩,
  ⟨(some 5), none, .mv (.k (.slice none 0 0))⟩,
  ⟨(some 6), none, .mv (.k (.int .i64 1))⟩]
def s_Route_6 : AC := .seq s_Route_7 .ret
def s_Route_5 : AC := .cond (.v 29) s_Route_6 .skip
def s_Route_3 : AC := .seq s_Route_4 s_Route_5
def s_Route_9 : AC := .ops [⟨none, none, .ldn 5 (.v 2)⟩,
  ⟨none, none, .call 18 [.r 0]⟩,
  ⟨(some 7), none, .mv (.r 0)⟩]
def s_Route_11 : AC := .ops [⟨none, none, .fa 0 (.v 2)⟩,
  ⟨none, none, .ld (.r 0)⟩,
  ⟨none, none, .mks 3 [.int .i64 0] 8 (.r 0) (.r 0)⟩,
  ⟨(some 8), none, .mv (.r 0)⟩]
def s_Route_13 : AC := .ops [⟨none, none, .fa 0 (.v 2)⟩,
  ⟨none, none, .ld (.r 0)⟩,
  ⟨none, none, .mks 3 [.int .i64 0] 8 (.r 0) (.r 0)⟩,
  ⟨(some 9), none, .mv (.r 0)⟩]
def s_Route_16 : AC := .ops [⟨(some 10), none, .mv (.k (.int .i64 0))⟩]
def s_Route_21 : AC := .ops [⟨none, none, .mv (.v 10)⟩,
  ⟨none, none, .fa 0 (.v 2)⟩,
  ⟨none, none, .ld (.r 0)⟩,
  ⟨(some 41), none, .bin .lss (.r 2) (.r 0)⟩]
def s_Route_22 : AC := .cond (.v 41) .skip (.exit 0)
def s_Route_20 : AC := .seq s_Route_21 s_Route_22
def s_Route_26 : AC := .ops [⟨none, none, .mv (.v 8)⟩,
  ⟨none, none, .mv (.v 10)⟩,
  ⟨none, none, .ia 1 (.r 1) (.r 0)⟩,
  ⟨none, none, .st 1 (.r 0) (.k (.int .i64 (-1)))⟩]
def s_Route_27 : AC := .ops [⟨none, none, .mv (.v 9)⟩,
  ⟨none, none, .mv (.v 10)⟩,
  ⟨none, none, .ia 1 (.r 1) (.r 0)⟩,
  ⟨none, none, .st 1 (.r 0) (.k (.int .i64 (-1)))⟩]
def s_Route_25 : AC := .seq s_Route_26 s_Route_27
def s_Route_24 : AC := .block 1 s_Route_25
def s_Route_28 : AC := .ops [⟨none, none, .mv (.v 10)⟩,
  ⟨none, none, .bin .add (.r 0) (.k (.int .i64 1))⟩,
  ⟨(some 10), none, .mv (.r 0)⟩]
def s_Route_23 : AC := .seq s_Route_24 s_Route_28
def s_Route_19 : AC := .seq s_Route_20 s_Route_23
def s_Route_18 : AC := .loop s_Route_19
def s_Route_17 : AC := .block 0 s_Route_18
def s_Route_15 : AC := .seq s_Route_16 s_Route_17
def s_Route_30 : AC := .ops [⟨none, none, .mv (.v 8)⟩,
  ⟨none, none, .mv (.v 1)⟩,
  ⟨none, none, .ia 1 (.r 1) (.r 0)⟩,
  ⟨none, none, .st 1 (.r 0) (.k (.int .i64 0))⟩]
def s_Route_36 : AC := .ops [⟨(some 11), none, .mv (.k (.bool false))⟩]
def s_Route_39 : AC := .ops [⟨none, none, .mv (.v 7)⟩,
  ⟨none, none, .len (.r 0)⟩,
  ⟨none, none, .bin .sub (.r 0) (.k (.int .i64 1))⟩,
  ⟨(some 12), none, .mv (.r 0)⟩]
def s_Route_44 : AC := .ops [⟨none, none, .mv (.v 12)⟩,
  ⟨(some 57), none, .bin .geq (.r 0) (.k (.int .i64 0))⟩]
def s_Route_45 : AC := .cond (.v 57) .skip (.exit 4)
def s_Route_43 : AC := .seq s_Route_44 s_Route_45
def s_Route_49 : AC := .ops [⟨none, none, .mv (.v 7)⟩,
  ⟨none, none, .mv (.v 12)⟩,
  ⟨none, none, .ia 4 (.r 1) (.r 0)⟩,
  ⟨none, none, .ldn 4 (.r 0)⟩,
  ⟨(some 13), none, .alloc 42 [.int .i64 0, .int .i64 0, .int .i64 0, .int .i64 0]⟩,
  ⟨none, none, .st 4 (.r 0) (.r 1)⟩]
def s_Route_52 : AC := .ops [⟨none, none, .mv (.v 8)⟩,
  ⟨none, none, .fa 1 (.v 13)⟩,
  ⟨none, none, .ld (.r 0)⟩,
  ⟨none, none, .ia 1 (.r 2) (.r 0)⟩,
  ⟨none, none, .ld (.r 0)⟩,
  ⟨(some 69), none, .bin .lss (.r 0) (.k (.int .i64 0))⟩]
def s_Route_53 : AC := .cond (.v 69) (.exit 5) .skip
def s_Route_51 : AC := .seq s_Route_52 s_Route_53
def s_Route_55 : AC := .draw [⟨none, none, .mv (.v 8)⟩,
  ⟨none, none, .fa 1 (.v 13)⟩,
  ⟨none, none, .ld (.r 0)⟩,
  ⟨none, none, .ia 1 (.r 2) (.r 0)⟩,
  ⟨none, none, .ld (.r 0)⟩,
  ⟨none, none, .fa 3 (.v 13)⟩,
  ⟨none, none, .ld (.r 0)⟩,
  ⟨none, none, .bin .add (.r 2) (.r 0)⟩,
  ⟨(some 14), none, .mv (.r 0)⟩] []
def s_Route_57 : AC := .ops [⟨none, none, .mv (.v 8)⟩,
  ⟨none, none, .fa 0 (.v 13)⟩,
  ⟨none, none, .ld (.r 0)⟩,
  ⟨none, none, .ia 1 (.r 2) (.r 0)⟩,
  ⟨none, none, .ld (.r 0)⟩,
  ⟨none, none, .bin .lss (.r 0) (.k (.int .i64 0))⟩,
  ⟨none, none, .mv (.r 0)⟩,
  ⟨none, (some (0, false)), .mv (.v 14)⟩,
  ⟨none, (some (1, false)), .mv (.v 8)⟩,
  ⟨none, (some (2, false)), .fa 0 (.v 13)⟩,
  ⟨none, (some (3, false)), .ld (.r 0)⟩,
  ⟨none, (some (4, false)), .ia 1 (.r 2) (.r 0)⟩,
  ⟨none, (some (5, false)), .ld (.r 0)⟩,
  ⟨none, (some (6, false)), .bin .lss (.r 5) (.r 0)⟩,
  ⟨(some 92), none, .pick (.r 7) (.k (.bool true)) (.r 0)⟩]
def s_Route_60 : AC := .ops [⟨none, none, .mv (.v 8)⟩,
  ⟨none, none, .fa 0 (.v 13)⟩,
  ⟨none, none, .ld (.r 0)⟩,
  ⟨none, none, .mv (.v 14)⟩,
  ⟨none, none, .ia 1 (.r 3) (.r 1)⟩,
  ⟨none, none, .st 1 (.r 0) (.r 1)⟩]
def s_Route_61 : AC := .ops [⟨(some 11), none, .mv (.k (.bool true))⟩]
def s_Route_59 : AC := .seq s_Route_60 s_Route_61
def s_Route_58 : AC := .cond (.v 92) s_Route_59 .skip
def s_Route_56 : AC := .seq s_Route_57 s_Route_58
def s_Route_54 : AC := .seq s_Route_55 s_Route_56
def s_Route_50 : AC := .seq s_Route_51 s_Route_54
def s_Route_48 : AC := .seq s_Route_49 s_Route_50
def s_Route_47 : AC := .block 5 s_Route_48
def s_Route_62 : AC := .ops [⟨none, none, .mv (.v 12)⟩,
  ⟨none, none, .bin .sub (.r 0) (.k (.int .i64 1))⟩,
  ⟨(some 12), none, .mv (.r 0)⟩]
def s_Route_46 : AC := .seq s_Route_47 s_Route_62
def s_Route_42 : AC := .seq s_Route_43 s_Route_46
def s_Route_41 : AC := .loop s_Route_42
def s_Route_40 : AC := .block 4 s_Route_41
def s_Route_38 : AC := .seq s_Route_39 s_Route_40
def s_Route_64 : AC := .ops [⟨none, none, .mv (.v 11)⟩,
  ⟨(some 99), none, .un .not (.r 0)⟩]
def s_Route_65 : AC := .cond (.v 99) (.exit 2) .skip
def s_Route_63 : AC := .seq s_Route_64 s_Route_65
def s_Route_37 : AC := .seq s_Route_38 s_Route_63
def s_Route_35 : AC := .seq s_Route_36 s_Route_37
def s_Route_34 : AC := .block 3 s_Route_35
def s_Route_33 : AC := .loop s_Route_34
def s_Route_32 : AC := .block 2 s_Route_33
def s_Route_68 : AC := .ops [⟨(some 15), none, .mv (.k (.int .i64 0))⟩]
def s_Route_73 : AC := .ops [⟨none, none, .mv (.v 15)⟩,
  ⟨none, none, .mv (.v 7)⟩,
  ⟨none, none, .len (.r 0)⟩,
  ⟨(some 103), none, .bin .lss (.r 2) (.r 0)⟩]
def s_Route_74 : AC := .cond (.v 103) .skip (.exit 6)
def s_Route_72 : AC := .seq s_Route_73 s_Route_74
def s_Route_78 : AC := .ops [⟨none, none, .mv (.v 7)⟩,
  ⟨none, none, .mv (.v 15)⟩,
  ⟨none, none, .ia 4 (.r 1) (.r 0)⟩,
  ⟨none, none, .ldn 4 (.r 0)⟩,
  ⟨(some 16), none, .alloc 42 [.int .i64 0, .int .i64 0, .int .i64 0, .int .i64 0]⟩,
  ⟨none, none, .st 4 (.r 0) (.r 1)⟩]
def s_Route_81 : AC := .draw [⟨none, none, .fa 0 (.v 16)⟩,
  ⟨none, none, .ld (.r 0)⟩,
  ⟨none, none, .mv (.v 1)⟩,
  ⟨none, none, .bin .eql (.r 1) (.r 0)⟩,
  ⟨none, none, .mv (.r 0)⟩,
  ⟨none, (some (0, false)), .mv (.v 8)⟩,
  ⟨none, (some (1, false)), .fa 1 (.v 16)⟩,
  ⟨none, (some (2, false)), .ld (.r 0)⟩,
  ⟨none, (some (3, false)), .ia 1 (.r 2) (.r 0)⟩,
  ⟨none, (some (4, false)), .ld (.r 0)⟩,
  ⟨none, (some (5, false)), .bin .lss (.r 0) (.k (.int .i64 0))⟩,
  ⟨none, none, .pick (.r 6) (.k (.bool true)) (.r 0)⟩,
  ⟨none, none, .mv (.r 0)⟩,
  ⟨none, (some (0, false)), .mv (.v 8)⟩,
  ⟨none, (some (1, false)), .fa 1 (.v 16)⟩,
  ⟨none, (some (2, false)), .ld (.r 0)⟩,
  ⟨none, (some (3, false)), .ia 1 (.r 2) (.r 0)⟩,
  ⟨none, (some (4, false)), .ld (.r 0)⟩,
  ⟨none, (some (5, false)), .fa 3 (.v 16)⟩,
  ⟨none, (some (6, false)), .ld (.r 0)⟩,
  ⟨none, (some (7, false)), .bin .add (.r 2) (.r 0)⟩,
  ⟨none, (some (8, false)), .mv (.v 8)⟩,
  ⟨none, (some (9, false)), .fa 0 (.v 16)⟩,
  ⟨none, (some (10, false)), .ld (.r 0)⟩,
  ⟨none, (some (11, false)), .ia 1 (.r 2) (.r 0)⟩,
  ⟨none, (some (12, false)), .ld (.r 0)⟩,
  ⟨none, (some (13, false)), .bin .neq (.r 5) (.r 0)⟩,
  ⟨(some 137), none, .pick (.r 14) (.k (.bool true)) (.r 0)⟩] []
def s_Route_82 : AC := .cond (.v 137) (.exit 7) .skip
def s_Route_80 : AC := .seq s_Route_81 s_Route_82
def s_Route_84 : AC := .draw [⟨none, none, .mv (.v 9)⟩,
  ⟨none, none, .fa 0 (.v 16)⟩,
  ⟨none, none, .ld (.r 0)⟩,
  ⟨none, none, .ia 1 (.r 2) (.r 0)⟩,
  ⟨none, none, .ld (.r 0)⟩,
  ⟨none, none, .bin .lss (.r 0) (.k (.int .i64 0))⟩,
  ⟨none, none, .mv (.r 0)⟩,
  ⟨none, (some (0, false)), .fa 2 (.v 16)⟩,
  ⟨none, (some (1, false)), .ld (.r 0)⟩,
  ⟨none, (some (2, false)), .mv (.v 9)⟩,
  ⟨none, (some (3, false)), .fa 0 (.v 16)⟩,
  ⟨none, (some (4, false)), .ld (.r 0)⟩,
  ⟨none, (some (5, false)), .ia 1 (.r 2) (.r 0)⟩,
  ⟨none, (some (6, false)), .ld (.r 0)⟩,
  ⟨none, (some (7, false)), .bin .lss (.r 5) (.r 0)⟩,
  ⟨(some 153), none, .pick (.r 8) (.k (.bool true)) (.r 0)⟩] []
def s_Route_86 : AC := .ops [⟨none, none, .mv (.v 9)⟩,
  ⟨none, none, .fa 0 (.v 16)⟩,
  ⟨none, none, .ld (.r 0)⟩,
  ⟨none, none, .fa 2 (.v 16)⟩,
  ⟨none, none, .ld (.r 0)⟩,
  ⟨none, none, .ia 1 (.r 4) (.r 2)⟩,
  ⟨none, none, .st 1 (.r 0) (.r 1)⟩]
def s_Route_85 : AC := .cond (.v 153) s_Route_86 .skip
def s_Route_83 : AC := .seq s_Route_84 s_Route_85
def s_Route_79 : AC := .seq s_Route_80 s_Route_83
def s_Route_77 : AC := .seq s_Route_78 s_Route_79
def s_Route_76 : AC := .block 7 s_Route_77
def s_Route_87 : AC := .ops [⟨none, none, .mv (.v 15)⟩,
  ⟨none, none, .bin .add (.r 0) (.k (.int .i64 1))⟩,
  ⟨(some 15), none, .mv (.r 0)⟩]
def s_Route_75 : AC := .seq s_Route_76 s_Route_87
def s_Route_71 : AC := .seq s_Route_72 s_Route_75
def s_Route_70 : AC := .loop s_Route_71
def s_Route_69 : AC := .block 6 s_Route_70
def s_Route_67 : AC := .seq s_Route_68 s_Route_69
def s_Route_89 : AC := .ops [⟨none, none, .mv (.v 8)⟩,
  ⟨none, none, .mv (.v 9)⟩,
  ⟨(some 4), none, .mv (.r 1)⟩,
  ⟨(some 5), none, .mv (.r 1)⟩,
  ⟨(some 6), none, .mv (.k (.int .i64 0))⟩]
def s_Route_88 : AC := .seq s_Route_89 .ret
def s_Route_66 : AC := .seq s_Route_67 s_Route_88
def s_Route_31 : AC := .seq s_Route_32 s_Route_66
def s_Route_29 : AC := .seq s_Route_30 s_Route_31
def s_Route_14 : AC := .seq s_Route_15 s_Route_29
def s_Route_12 : AC := .seq s_Route_13 s_Route_14
def s_Route_10 : AC := .seq s_Route_11 s_Route_12
def s_Route_8 : AC := .seq s_Route_9 s_Route_10
def s_Route_2 : AC := .seq s_Route_3 s_Route_8
def s_Route_0 : AC := .seq s_Route_1 s_Route_2
def rs_s_Route : List ARes := [.t 4, .t 5, .t 6]
theorem cf_s_Route : cfun Go.Proofs.Try.prog [0, 1, 2, 4, 5, 6, 7, 8, 9, 10, 11, 12, 13, 14, 15, 16, 29, 41, 57, 69, 92, 99, 103, 137, 153] Go.Proofs.Try.f6 = some (s_Route_0, rs_s_Route) := by kernel_rfl

/-! laws.toGraph -/
def l_toGraph_1 : AC := .ops [⟨(some 1), none, .box 24 (.v 0)⟩,
  ⟨(some 2), none, .alloc 28 [.int .i64 0, .slice none 0 0, .slice none 0 0, .slice none 0 0, .slice none 0 0]⟩]
def l_toGraph_3 : AC := .ops [⟨(some 3), none, .alloc 28 [.int .i64 0, .slice none 0 0, .slice none 0 0, .slice none 0 0, .slice none 0 0]⟩]
def l_toGraph_5 : AC := .ops [⟨none, none, .fa 0 (.v 1)⟩,
  ⟨none, none, .ld (.r 0)⟩,
  ⟨none, none, .fa 0 (.v 3)⟩,
  ⟨none, none, .st 1 (.r 0) (.r 1)⟩]
def l_toGraph_7 : AC := .ops [⟨none, none, .fa 1 (.v 1)⟩,
  ⟨none, none, .ld (.r 0)⟩,
  ⟨none, none, .call 19 [.r 0]⟩,
  ⟨none, none, .fa 1 (.v 3)⟩,
  ⟨none, none, .st 1 (.r 0) (.r 1)⟩]
def l_toGraph_9 : AC := .ops [⟨none, none, .fa 2 (.v 1)⟩,
  ⟨none, none, .ld (.r 0)⟩,
  ⟨none, none, .call 19 [.r 0]⟩,
  ⟨none, none, .fa 2 (.v 3)⟩,
  ⟨none, none, .st 1 (.r 0) (.r 1)⟩]
def l_toGraph_11 : AC := .ops [⟨none, none, .fa 3 (.v 1)⟩,
  ⟨none, none, .ld (.r 0)⟩,
  ⟨none, none, .call 19 [.r 0]⟩,
  ⟨none, none, .fa 3 (.v 3)⟩,
  ⟨none, none, .st 1 (.r 0) (.r 1)⟩]
def l_toGraph_13 : AC := .ops [⟨none, none, .fa 4 (.v 1)⟩,
  ⟨none, none, .ld (.r 0)⟩,
  ⟨none, none, .call 19 [.r 0]⟩,
  ⟨none, none, .fa 4 (.v 3)⟩,
  ⟨none, none, .st 1 (.r 0) (.r 1)⟩]
def l_toGraph_15 : AC := .ops [⟨none, none, .ldn 5 (.v 3)⟩,
  ⟨none, none, .st 5 (.v 2) (.r 0)⟩]
def l_toGraph_14 : AC := .seq l_toGraph_15 .ret
def l_toGraph_12 : AC := .seq l_toGraph_13 l_toGraph_14
def l_toGraph_10 : AC := .seq l_toGraph_11 l_toGraph_12
def l_toGraph_8 : AC := .seq l_toGraph_9 l_toGraph_10
def l_toGraph_6 : AC := .seq l_toGraph_7 l_toGraph_8
def l_toGraph_4 : AC := .seq l_toGraph_5 l_toGraph_6
def l_toGraph_2 : AC := .seq l_toGraph_3 l_toGraph_4
def l_toGraph_0 : AC := .seq l_toGraph_1 l_toGraph_2
def rs_l_toGraph : List ARes := [.cn 2 5]
theorem cf_l_toGraph : cfun Go.Proofs.Try.prog [0, 1, 2, 3] Go.Proofs.Try.f7 = some (l_toGraph_0, rs_l_toGraph) := by kernel_rfl

/-! impl.Route -/
def i_Route_1 : AC := .ops [⟨(some 2), none, .box 28 (.v 0)⟩,
  ⟨(some 4), none, .mv (.k (.slice none 0 0))⟩,
  ⟨(some 5), none, .mv (.k (.slice none 0 0))⟩,
  ⟨(some 6), none, .mv (.k (.int .i64 0))⟩]
def i_Route_4 : AC := .ops [⟨none, none, .ldn 5 (.v 2)⟩,
  ⟨none, none, .call 20 [.r 0]⟩,
  ⟨none, none, .un .not (.r 0)⟩,
  ⟨none, none, .mv (.r 0)⟩,
  ⟨none, (some (0, false)), .mv (.v 1)⟩,
  ⟨none, (some (1, false)), .bin .lss (.r 0) (.k (.int .i64 0))⟩,
  ⟨none, none, .pick (.r 2) (.k (.bool true)) (.r 0)⟩,
  ⟨none, none, .mv (.r 0)⟩,
  ⟨none, (some (0, false)), .mv (.v 1)⟩,
  ⟨none, (some (1, false)), .fa 0 (.v 2)⟩,
  ⟨none, (some (2, false)), .ld (.r 0)⟩,
  ⟨none, (some (3, false)), .bin .geq (.r 2) (.r 0)⟩,
  ⟨(some 29), none, .pick (.r 4) (.k (.bool true)) (.r 0)⟩]
def i_Route_7 : AC := .ops [⟨(some 4), none, .mv (.k (.slice none 0 0))⟩,
  ⟨(some 5), none, .mv (.k (.slice none 0 0))⟩,
  ⟨(some 6), none, .mv (.k (.int .i64 1))⟩]
def i_Route_6 : AC := .seq i_Route_7 .ret
def i_Route_5 : AC := .cond (.v 29) i_Route_6 .skip
def i_Route_3 : AC := .seq i_Route_4 i_Route_5
def i_Route_9 : AC := .ops [⟨none, none, .ldn 5 (.v 2)⟩,
  ⟨none, none, .call 21 [.r 0]⟩,
  ⟨none, none, .mv (.r 0)⟩,
  ⟨none, none, .ext 0 (.r 0)⟩,
  ⟨none, none, .ext 1 (.r 1)⟩,
  ⟨(some 7), none, .alloc 28 [.int .i64 0, .slice none 0 0, .slice none 0 0, .slice none 0 0, .slice none 0 0]⟩,
  ⟨none, none, .st 5 (.r 0) (.r 2)⟩,
  ⟨none, none, .mv (.r 2)⟩]
def i_Route_11 : AC := .ops [⟨none, none, .mksl 3 1 1 [.int .i64 0] [(0, .k (.int .i64 (-1)))]⟩,
  ⟨none, none, .fa 0 (.v 2)⟩,
  ⟨none, none, .ld (.r 0)⟩,
  ⟨none, none, .call 22 [.r 2, .r 0]⟩,
  ⟨(some 9), none, .mv (.r 0)⟩]
def i_Route_13 : AC := .ops [⟨none, none, .build [.slice none 0 0, .nilFunc] [(0, 1), (1, 1)] [(1, .f 23)]⟩,
  ⟨none, none, .box 53 (.r 0)⟩,
  ⟨(some 10), none, .mv (.r 0)⟩]
def i_Route_15 : AC := .ops [⟨none, none, .mv (.v 10)⟩,
  ⟨none, none, .mv (.v 1)⟩,
  ⟨none, none, .build [.int .i64 0, .int .i64 0] [(0, 1), (1, 1)] [(0, .r 0), (1, .k (.int .i64 0))]⟩,
  ⟨none, none, .call 24 [.r 2, .r 0]⟩]
def i_Route_21 : AC := .ops [⟨none, none, .mv (.v 10)⟩,
  ⟨none, none, .nilck (.r 0)⟩,
  ⟨none, none, .fa 0 (.r 0)⟩,
  ⟨none, none, .ld (.r 0)⟩,
  ⟨none, none, .len (.r 0)⟩,
  ⟨(some 50), none, .bin .gtr (.r 0) (.k (.int .i64 0))⟩]
def i_Route_22 : AC := .cond (.v 50) .skip (.exit 0)
def i_Route_20 : AC := .seq i_Route_21 i_Route_22
def i_Route_25 : AC := .ops [⟨none, none, .mv (.v 10)⟩,
  ⟨none, none, .call 25 [.r 0]⟩,
  ⟨(some 11), none, .alloc 49 [.int .i64 0, .int .i64 0]⟩,
  ⟨none, none, .st 2 (.r 0) (.r 1)⟩]
def i_Route_28 : AC := .ops [⟨none, none, .mv (.v 9)⟩,
  ⟨none, none, .fa 0 (.v 11)⟩,
  ⟨none, none, .ld (.r 0)⟩,
  ⟨none, none, .ia 1 (.r 2) (.r 0)⟩,
  ⟨none, none, .ld (.r 0)⟩,
  ⟨(some 58), none, .bin .geq (.r 0) (.k (.int .i64 0))⟩]
def i_Route_29 : AC := .cond (.v 58) (.exit 1) .skip
def i_Route_27 : AC := .seq i_Route_28 i_Route_29
def i_Route_31 : AC := .ops [⟨none, none, .mv (.v 9)⟩,
  ⟨none, none, .fa 0 (.v 11)⟩,
  ⟨none, none, .ld (.r 0)⟩,
  ⟨none, none, .fa 1 (.v 11)⟩,
  ⟨none, none, .ld (.r 0)⟩,
  ⟨none, none, .ia 1 (.r 4) (.r 2)⟩,
  ⟨none, none, .st 1 (.r 0) (.r 1)⟩]
def i_Route_33 : AC := .ops [⟨none, none, .fa 1 (.v 7)⟩,
  ⟨none, none, .ld (.r 0)⟩,
  ⟨none, none, .fa 0 (.v 11)⟩,
  ⟨none, none, .ld (.r 0)⟩,
  ⟨none, none, .ia 1 (.r 2) (.r 0)⟩,
  ⟨none, none, .ld (.r 0)⟩,
  ⟨(some 12), none, .mv (.r 0)⟩]
def i_Route_38 : AC := .ops [⟨none, none, .mv (.v 12)⟩,
  ⟨none, none, .fa 1 (.v 7)⟩,
  ⟨none, none, .ld (.r 0)⟩,
  ⟨none, none, .fa 0 (.v 11)⟩,
  ⟨none, none, .ld (.r 0)⟩,
  ⟨none, none, .bin .add (.r 0) (.k (.int .i64 1))⟩,
  ⟨none, none, .ia 1 (.r 3) (.r 0)⟩,
  ⟨none, none, .ld (.r 0)⟩,
  ⟨(some 79), none, .bin .lss (.r 7) (.r 0)⟩]
def i_Route_39 : AC := .cond (.v 79) .skip (.exit 2)
def i_Route_37 : AC := .seq i_Route_38 i_Route_39
def i_Route_42 : AC := .draw [⟨none, none, .mv (.v 10)⟩,
  ⟨none, none, .fa 2 (.v 7)⟩,
  ⟨none, none, .ld (.r 0)⟩,
  ⟨none, none, .mv (.v 12)⟩,
  ⟨none, none, .ia 1 (.r 1) (.r 0)⟩,
  ⟨none, none, .ld (.r 0)⟩,
  ⟨none, none, .fa 1 (.v 11)⟩,
  ⟨none, none, .ld (.r 0)⟩,
  ⟨none, none, .fa 4 (.v 7)⟩,
  ⟨none, none, .ld (.r 0)⟩,
  ⟨none, none, .mv (.v 12)⟩,
  ⟨none, none, .ia 1 (.r 1) (.r 0)⟩,
  ⟨none, none, .ld (.r 0)⟩,
  ⟨none, none, .bin .add (.r 5) (.r 0)⟩,
  ⟨none, none, .build [.int .i64 0, .int .i64 0] [(0, 1), (1, 1)] [(0, .r 8), (1, .r 0)]⟩,
  ⟨none, none, .call 24 [.r 14, .r 0]⟩] []
def i_Route_41 : AC := .block 3 i_Route_42
def i_Route_43 : AC := .ops [⟨none, none, .mv (.v 12)⟩,
  ⟨none, none, .bin .add (.r 0) (.k (.int .i64 1))⟩,
  ⟨(some 12), none, .mv (.r 0)⟩]
def i_Route_40 : AC := .seq i_Route_41 i_Route_43
def i_Route_36 : AC := .seq i_Route_37 i_Route_40
def i_Route_35 : AC := .loop i_Route_36
def i_Route_34 : AC := .block 2 i_Route_35
def i_Route_32 : AC := .seq i_Route_33 i_Route_34
def i_Route_30 : AC := .seq i_Route_31 i_Route_32
def i_Route_26 : AC := .seq i_Route_27 i_Route_30
def i_Route_24 : AC := .seq i_Route_25 i_Route_26
def i_Route_23 : AC := .block 1 i_Route_24
def i_Route_19 : AC := .seq i_Route_20 i_Route_23
def i_Route_18 : AC := .loop i_Route_19
def i_Route_17 : AC := .block 0 i_Route_18
def i_Route_45 : AC := .ops [⟨none, none, .mksl 3 1 1 [.int .i64 0] [(0, .k (.int .i64 (-1)))]⟩,
  ⟨none, none, .fa 0 (.v 2)⟩,
  ⟨none, none, .ld (.r 0)⟩,
  ⟨none, none, .call 22 [.r 2, .r 0]⟩,
  ⟨(some 13), none, .mv (.r 0)⟩]
def i_Route_48 : AC := .ops [⟨none, none, .fa 0 (.v 2)⟩,
  ⟨(some 103), none, .ld (.r 0)⟩,
  ⟨(some 104), none, .mv (.k (.int .i64 0))⟩]
def i_Route_52 : AC := .ops [⟨(some 105), none, .bin .lss (.v 104) (.v 103)⟩]
def i_Route_54 : AC := .cond (.v 105) .skip (.exit 4)
def i_Route_58 : AC := .ops [⟨none, none, .mv (.v 104)⟩,
  ⟨(some 14), none, .mv (.r 0)⟩]
def i_Route_60 : AC := .ops [⟨none, none, .fa 1 (.v 2)⟩,
  ⟨none, none, .ld (.r 0)⟩,
  ⟨none, none, .mv (.v 14)⟩,
  ⟨none, none, .ia 1 (.r 1) (.r 0)⟩,
  ⟨none, none, .ld (.r 0)⟩,
  ⟨(some 15), none, .mv (.r 0)⟩]
def i_Route_65 : AC := .ops [⟨none, none, .mv (.v 15)⟩,
  ⟨none, none, .fa 1 (.v 2)⟩,
  ⟨none, none, .ld (.r 0)⟩,
  ⟨none, none, .mv (.v 14)⟩,
  ⟨none, none, .bin .add (.r 0) (.k (.int .i64 1))⟩,
  ⟨none, none, .ia 1 (.r 2) (.r 0)⟩,
  ⟨none, none, .ld (.r 0)⟩,
  ⟨none, none, .bin .lss (.r 6) (.r 0)⟩,
  ⟨none, none, .mv (.r 0)⟩,
  ⟨none, (some (0, true)), .mv (.v 14)⟩,
  ⟨none, (some (1, true)), .mv (.v 1)⟩,
  ⟨none, (some (2, true)), .bin .neq (.r 1) (.r 0)⟩,
  ⟨(some 124), none, .pick (.r 3) (.r 0) (.k (.bool false))⟩]
def i_Route_66 : AC := .cond (.v 124) .skip (.exit 6)
def i_Route_64 : AC := .seq i_Route_65 i_Route_66
def i_Route_70 : AC := .ops [⟨none, none, .fa 2 (.v 2)⟩,
  ⟨none, none, .ld (.r 0)⟩,
  ⟨none, none, .mv (.v 15)⟩,
  ⟨none, none, .ia 1 (.r 1) (.r 0)⟩,
  ⟨none, none, .ld (.r 0)⟩,
  ⟨(some 16), none, .mv (.r 0)⟩]
def i_Route_72 : AC := .draw [⟨none, none, .mv (.v 9)⟩,
  ⟨none, none, .mv (.v 16)⟩,
  ⟨none, none, .ia 1 (.r 1) (.r 0)⟩,
  ⟨none, none, .ld (.r 0)⟩,
  ⟨none, none, .bin .geq (.r 0) (.k (.int .i64 0))⟩,
  ⟨none, none, .mv (.r 0)⟩,
  ⟨none, (some (0, true)), .mv (.v 9)⟩,
  ⟨none, (some (1, true)), .mv (.v 16)⟩,
  ⟨none, (some (2, true)), .ia 1 (.r 1) (.r 0)⟩,
  ⟨none, (some (3, true)), .ld (.r 0)⟩,
  ⟨none, (some (4, true)), .fa 4 (.v 2)⟩,
  ⟨none, (some (5, true)), .ld (.r 0)⟩,
  ⟨none, (some (6, true)), .mv (.v 15)⟩,
  ⟨none, (some (7, true)), .ia 1 (.r 1) (.r 0)⟩,
  ⟨none, (some (8, true)), .ld (.r 0)⟩,
  ⟨none, (some (9, true)), .bin .add (.r 5) (.r 0)⟩,
  ⟨none, (some (10, true)), .mv (.v 9)⟩,
  ⟨none, (some (11, true)), .mv (.v 14)⟩,
  ⟨none, (some (12, true)), .ia 1 (.r 1) (.r 0)⟩,
  ⟨none, (some (13, true)), .ld (.r 0)⟩,
  ⟨none, (some (14, true)), .bin .eql (.r 4) (.r 0)⟩,
  ⟨none, none, .pick (.r 15) (.r 0) (.k (.bool false))⟩,
  ⟨none, none, .mv (.r 0)⟩,
  ⟨none, (some (0, true)), .mv (.v 13)⟩,
  ⟨none, (some (1, true)), .mv (.v 14)⟩,
  ⟨none, (some (2, true)), .ia 1 (.r 1) (.r 0)⟩,
  ⟨none, (some (3, true)), .ld (.r 0)⟩,
  ⟨none, (some (4, true)), .bin .lss (.r 0) (.k (.int .i64 0))⟩,
  ⟨none, (some (5, true)), .mv (.r 0)⟩,
  ⟨none, (some (0, false)), .fa 3 (.v 2)⟩,
  ⟨none, (some (1, false)), .ld (.r 0)⟩,
  ⟨none, (some (2, false)), .mv (.v 15)⟩,
  ⟨none, (some (3, false)), .ia 1 (.r 1) (.r 0)⟩,
  ⟨none, (some (4, false)), .ld (.r 0)⟩,
  ⟨none, (some (5, false)), .mv (.v 13)⟩,
  ⟨none, (some (6, false)), .mv (.v 14)⟩,
  ⟨none, (some (7, false)), .ia 1 (.r 1) (.r 0)⟩,
  ⟨none, (some (8, false)), .ld (.r 0)⟩,
  ⟨none, (some (9, false)), .bin .lss (.r 4) (.r 0)⟩,
  ⟨none, (some (16, true)), .pick (.r 10) (.k (.bool true)) (.r 0)⟩,
  ⟨(some 172), none, .pick (.r 17) (.r 0) (.k (.bool false))⟩] []
def i_Route_74 : AC := .ops [⟨none, none, .mv (.v 13)⟩,
  ⟨none, none, .mv (.v 14)⟩,
  ⟨none, none, .fa 3 (.v 2)⟩,
  ⟨none, none, .ld (.r 0)⟩,
  ⟨none, none, .mv (.v 15)⟩,
  ⟨none, none, .ia 1 (.r 1) (.r 0)⟩,
  ⟨none, none, .ld (.r 0)⟩,
  ⟨none, none, .ia 1 (.r 6) (.r 5)⟩,
  ⟨none, none, .st 1 (.r 0) (.r 1)⟩]
def i_Route_73 : AC := .cond (.v 172) i_Route_74 .skip
def i_Route_71 : AC := .seq i_Route_72 i_Route_73
def i_Route_69 : AC := .seq i_Route_70 i_Route_71
def i_Route_68 : AC := .block 7 i_Route_69
def i_Route_75 : AC := .ops [⟨none, none, .mv (.v 15)⟩,
  ⟨none, none, .bin .add (.r 0) (.k (.int .i64 1))⟩,
  ⟨(some 15), none, .mv (.r 0)⟩]
def i_Route_67 : AC := .seq i_Route_68 i_Route_75
def i_Route_63 : AC := .seq i_Route_64 i_Route_67
def i_Route_62 : AC := .loop i_Route_63
def i_Route_61 : AC := .block 6 i_Route_62
def i_Route_59 : AC := .seq i_Route_60 i_Route_61
def i_Route_57 : AC := .seq i_Route_58 i_Route_59
def i_Route_56 : AC := .block 5 i_Route_57
def i_Route_76 : AC := .ops [⟨none, none, .bin .add (.v 104) (.k (.int .i64 1))⟩,
  ⟨(some 104), none, .mv (.r 0)⟩]
def i_Route_55 : AC := .seq i_Route_56 i_Route_76
def i_Route_53 : AC := .seq i_Route_54 i_Route_55
def i_Route_51 : AC := .seq i_Route_52 i_Route_53
def i_Route_50 : AC := .loop i_Route_51
def i_Route_49 : AC := .block 4 i_Route_50
def i_Route_47 : AC := .seq i_Route_48 i_Route_49
def i_Route_78 : AC := .ops [⟨none, none, .mv (.v 9)⟩,
  ⟨none, none, .mv (.v 13)⟩,
  ⟨(some 4), none, .mv (.r 1)⟩,
  ⟨(some 5), none, .mv (.r 1)⟩,
  ⟨(some 6), none, .mv (.k (.int .i64 0))⟩]
def i_Route_77 : AC := .seq i_Route_78 .ret
def i_Route_46 : AC := .seq i_Route_47 i_Route_77
def i_Route_44 : AC := .seq i_Route_45 i_Route_46
def i_Route_16 : AC := .seq i_Route_17 i_Route_44
def i_Route_14 : AC := .seq i_Route_15 i_Route_16
def i_Route_12 : AC := .seq i_Route_13 i_Route_14
def i_Route_10 : AC := .seq i_Route_11 i_Route_12
def i_Route_8 : AC := .seq i_Route_9 i_Route_10
def i_Route_2 : AC := .seq i_Route_3 i_Route_8
def i_Route_0 : AC := .seq i_Route_1 i_Route_2
def rs_i_Route : List ARes := [.t 4, .t 5, .t 6]
theorem cf_i_Route : cfun Go.Proofs.Try.prog [0, 1, 2, 4, 5, 6, 7, 9, 10, 11, 12, 13, 14, 15, 16, 29, 50, 58, 79, 103, 104, 105, 124, 172] Go.Proofs.Try.f8 = some (i_Route_0, rs_i_Route) := by kernel_rfl

/-! laws.eqIntS -/
def l_eqIntS_1 : AC := .ops [⟨(some 4), none, .mv (.k (.bool false))⟩]
def l_eqIntS_4 : AC := .ops [⟨none, none, .mv (.v 0)⟩,
  ⟨none, none, .len (.r 0)⟩,
  ⟨none, none, .mv (.v 1)⟩,
  ⟨none, none, .len (.r 0)⟩,
  ⟨(some 10), none, .bin .neq (.r 2) (.r 0)⟩]
def l_eqIntS_7 : AC := .ops [⟨(some 4), none, .mv (.k (.bool false))⟩]
def l_eqIntS_6 : AC := .seq l_eqIntS_7 .ret
def l_eqIntS_5 : AC := .cond (.v 10) l_eqIntS_6 .skip
def l_eqIntS_3 : AC := .seq l_eqIntS_4 l_eqIntS_5
def l_eqIntS_10 : AC := .ops [⟨(some 5), none, .mv (.k (.int .i64 0))⟩]
def l_eqIntS_15 : AC := .ops [⟨none, none, .mv (.v 5)⟩,
  ⟨none, none, .mv (.v 0)⟩,
  ⟨none, none, .len (.r 0)⟩,
  ⟨(some 14), none, .bin .lss (.r 2) (.r 0)⟩]
def l_eqIntS_16 : AC := .cond (.v 14) .skip (.exit 0)
def l_eqIntS_14 : AC := .seq l_eqIntS_15 l_eqIntS_16
def l_eqIntS_20 : AC := .draw [⟨none, none, .mv (.v 0)⟩,
  ⟨none, none, .mv (.v 5)⟩,
  ⟨none, none, .ia 1 (.r 1) (.r 0)⟩,
  ⟨none, none, .ld (.r 0)⟩,
  ⟨none, none, .mv (.v 1)⟩,
  ⟨none, none, .mv (.v 5)⟩,
  ⟨none, none, .ia 1 (.r 1) (.r 0)⟩,
  ⟨none, none, .ld (.r 0)⟩,
  ⟨(some 25), none, .bin .neq (.r 4) (.r 0)⟩] []
def l_eqIntS_23 : AC := .ops [⟨(some 4), none, .mv (.k (.bool false))⟩]
def l_eqIntS_22 : AC := .seq l_eqIntS_23 .ret
def l_eqIntS_21 : AC := .cond (.v 25) l_eqIntS_22 .skip
def l_eqIntS_19 : AC := .seq l_eqIntS_20 l_eqIntS_21
def l_eqIntS_18 : AC := .block 1 l_eqIntS_19
def l_eqIntS_24 : AC := .ops [⟨none, none, .mv (.v 5)⟩,
  ⟨none, none, .bin .add (.r 0) (.k (.int .i64 1))⟩,
  ⟨(some 5), none, .mv (.r 0)⟩]
def l_eqIntS_17 : AC := .seq l_eqIntS_18 l_eqIntS_24
def l_eqIntS_13 : AC := .seq l_eqIntS_14 l_eqIntS_17
def l_eqIntS_12 : AC := .loop l_eqIntS_13
def l_eqIntS_11 : AC := .block 0 l_eqIntS_12
def l_eqIntS_9 : AC := .seq l_eqIntS_10 l_eqIntS_11
def l_eqIntS_26 : AC := .ops [⟨(some 4), none, .mv (.k (.bool true))⟩]
def l_eqIntS_25 : AC := .seq l_eqIntS_26 .ret
def l_eqIntS_8 : AC := .seq l_eqIntS_9 l_eqIntS_25
def l_eqIntS_2 : AC := .seq l_eqIntS_3 l_eqIntS_8
def l_eqIntS_0 : AC := .seq l_eqIntS_1 l_eqIntS_2
def rs_l_eqIntS : List ARes := [.t 4]
theorem cf_l_eqIntS : cfun Go.Proofs.Try.prog [0, 1, 4, 5, 10, 14, 25] Go.Proofs.Try.f9 = some (l_eqIntS_0, rs_l_eqIntS) := by kernel_rfl

/-! laws.eqGraph -/
def l_eqGraph_1 : AC := .ops [⟨(some 2), none, .box 28 (.v 0)⟩,
  ⟨(some 3), none, .box 28 (.v 1)⟩,
  ⟨(some 4), none, .mv (.k (.bool false))⟩]
def l_eqGraph_4 : AC := .ops [⟨none, none, .fa 0 (.v 2)⟩,
  ⟨none, none, .ld (.r 0)⟩,
  ⟨none, none, .fa 0 (.v 3)⟩,
  ⟨none, none, .ld (.r 0)⟩,
  ⟨(some 9), none, .bin .neq (.r 2) (.r 0)⟩]
def l_eqGraph_7 : AC := .ops [⟨(some 4), none, .mv (.k (.bool false))⟩]
def l_eqGraph_6 : AC := .seq l_eqGraph_7 .ret
def l_eqGraph_5 : AC := .cond (.v 9) l_eqGraph_6 .skip
def l_eqGraph_3 : AC := .seq l_eqGraph_4 l_eqGraph_5
def l_eqGraph_10 : AC := .ops [⟨none, none, .fa 1 (.v 2)⟩,
  ⟨none, none, .ld (.r 0)⟩,
  ⟨none, none, .fa 1 (.v 3)⟩,
  ⟨none, none, .ld (.r 0)⟩,
  ⟨none, none, .call 9 [.r 2, .r 0]⟩,
  ⟨(some 15), none, .un .not (.r 0)⟩]
def l_eqGraph_13 : AC := .ops [⟨(some 4), none, .mv (.k (.bool false))⟩]
def l_eqGraph_12 : AC := .seq l_eqGraph_13 .ret
def l_eqGraph_11 : AC := .cond (.v 15) l_eqGraph_12 .skip
def l_eqGraph_9 : AC := .seq l_eqGraph_10 l_eqGraph_11
def l_eqGraph_16 : AC := .ops [⟨none, none, .fa 2 (.v 2)⟩,
  ⟨none, none, .ld (.r 0)⟩,
  ⟨none, none, .fa 2 (.v 3)⟩,
  ⟨none, none, .ld (.r 0)⟩,
  ⟨none, none, .call 9 [.r 2, .r 0]⟩,
  ⟨(some 21), none, .un .not (.r 0)⟩]
def l_eqGraph_19 : AC := .ops [⟨(some 4), none, .mv (.k (.bool false))⟩]
def l_eqGraph_18 : AC := .seq l_eqGraph_19 .ret
def l_eqGraph_17 : AC := .cond (.v 21) l_eqGraph_18 .skip
def l_eqGraph_15 : AC := .seq l_eqGraph_16 l_eqGraph_17
def l_eqGraph_22 : AC := .ops [⟨none, none, .fa 3 (.v 2)⟩,
  ⟨none, none, .ld (.r 0)⟩,
  ⟨none, none, .fa 3 (.v 3)⟩,
  ⟨none, none, .ld (.r 0)⟩,
  ⟨none, none, .call 9 [.r 2, .r 0]⟩,
  ⟨(some 27), none, .un .not (.r 0)⟩]
def l_eqGraph_25 : AC := .ops [⟨(some 4), none, .mv (.k (.bool false))⟩]
def l_eqGraph_24 : AC := .seq l_eqGraph_25 .ret
def l_eqGraph_23 : AC := .cond (.v 27) l_eqGraph_24 .skip
def l_eqGraph_21 : AC := .seq l_eqGraph_22 l_eqGraph_23
def l_eqGraph_28 : AC := .ops [⟨none, none, .fa 4 (.v 2)⟩,
  ⟨none, none, .ld (.r 0)⟩,
  ⟨none, none, .fa 4 (.v 3)⟩,
  ⟨none, none, .ld (.r 0)⟩,
  ⟨none, none, .call 9 [.r 2, .r 0]⟩,
  ⟨(some 33), none, .un .not (.r 0)⟩]
def l_eqGraph_31 : AC := .ops [⟨(some 4), none, .mv (.k (.bool false))⟩]
def l_eqGraph_30 : AC := .seq l_eqGraph_31 .ret
def l_eqGraph_29 : AC := .cond (.v 33) l_eqGraph_30 .skip
def l_eqGraph_27 : AC := .seq l_eqGraph_28 l_eqGraph_29
def l_eqGraph_33 : AC := .ops [⟨(some 4), none, .mv (.k (.bool true))⟩]
def l_eqGraph_32 : AC := .seq l_eqGraph_33 .ret
def l_eqGraph_26 : AC := .seq l_eqGraph_27 l_eqGraph_32
def l_eqGraph_20 : AC := .seq l_eqGraph_21 l_eqGraph_26
def l_eqGraph_14 : AC := .seq l_eqGraph_15 l_eqGraph_20
def l_eqGraph_8 : AC := .seq l_eqGraph_9 l_eqGraph_14
def l_eqGraph_2 : AC := .seq l_eqGraph_3 l_eqGraph_8
def l_eqGraph_0 : AC := .seq l_eqGraph_1 l_eqGraph_2
def rs_l_eqGraph : List ARes := [.t 4]
theorem cf_l_eqGraph : cfun Go.Proofs.Try.prog [0, 1, 2, 3, 4, 9, 15, 21, 27, 33] Go.Proofs.Try.f10 = some (l_eqGraph_0, rs_l_eqGraph) := by kernel_rfl

/-! laws.markGraph -/
def l_markGraph_1 : AC := .ops [⟨(some 2), none, .box 28 (.v 0)⟩,
  ⟨(some 4), none, .mv (.k (.int .i64 0))⟩]
def l_markGraph_3 : AC := .ops [⟨none, none, .fa 1 (.v 2)⟩,
  ⟨none, none, .ld (.r 0)⟩,
  ⟨none, none, .mv (.v 1)⟩,
  ⟨none, none, .call 12 [.r 1, .r 0]⟩,
  ⟨(some 1), none, .mv (.r 0)⟩]
def l_markGraph_5 : AC := .ops [⟨none, none, .fa 2 (.v 2)⟩,
  ⟨none, none, .ld (.r 0)⟩,
  ⟨none, none, .mv (.v 1)⟩,
  ⟨none, none, .call 12 [.r 1, .r 0]⟩,
  ⟨(some 1), none, .mv (.r 0)⟩]
def l_markGraph_7 : AC := .ops [⟨none, none, .fa 3 (.v 2)⟩,
  ⟨none, none, .ld (.r 0)⟩,
  ⟨none, none, .mv (.v 1)⟩,
  ⟨none, none, .call 12 [.r 1, .r 0]⟩,
  ⟨(some 1), none, .mv (.r 0)⟩]
def l_markGraph_9 : AC := .ops [⟨none, none, .fa 4 (.v 2)⟩,
  ⟨none, none, .ld (.r 0)⟩,
  ⟨none, none, .mv (.v 1)⟩,
  ⟨none, none, .call 12 [.r 1, .r 0]⟩,
  ⟨(some 1), none, .mv (.r 0)⟩]
def l_markGraph_11 : AC := .ops [⟨none, none, .mv (.v 1)⟩,
  ⟨(some 4), none, .mv (.r 0)⟩]
def l_markGraph_10 : AC := .seq l_markGraph_11 .ret
def l_markGraph_8 : AC := .seq l_markGraph_9 l_markGraph_10
def l_markGraph_6 : AC := .seq l_markGraph_7 l_markGraph_8
def l_markGraph_4 : AC := .seq l_markGraph_5 l_markGraph_6
def l_markGraph_2 : AC := .seq l_markGraph_3 l_markGraph_4
def l_markGraph_0 : AC := .seq l_markGraph_1 l_markGraph_2
def rs_l_markGraph : List ARes := [.t 4]
theorem cf_l_markGraph : cfun Go.Proofs.Try.prog [0, 1, 2, 4] Go.Proofs.Try.f11 = some (l_markGraph_0, rs_l_markGraph) := by kernel_rfl

/-! laws.markIntS -/
def l_markIntS_1 : AC := .ops [⟨(some 4), none, .mv (.k (.int .i64 0))⟩]
def l_markIntS_4 : AC := .ops [⟨(some 5), none, .mv (.k (.int .i64 0))⟩]
def l_markIntS_9 : AC := .ops [⟨none, none, .mv (.v 5)⟩,
  ⟨none, none, .mv (.v 0)⟩,
  ⟨none, none, .len (.r 0)⟩,
  ⟨(some 9), none, .bin .lss (.r 2) (.r 0)⟩]
def l_markIntS_10 : AC := .cond (.v 9) .skip (.exit 0)
def l_markIntS_8 : AC := .seq l_markIntS_9 l_markIntS_10
def l_markIntS_14 : AC := .ops [⟨none, none, .mv (.v 0)⟩,
  ⟨none, none, .mv (.v 5)⟩,
  ⟨none, none, .mv (.v 1)⟩,
  ⟨none, none, .ia 1 (.r 2) (.r 1)⟩,
  ⟨none, none, .st 1 (.r 0) (.r 1)⟩]
def l_markIntS_15 : AC := .ops [⟨none, none, .mv (.v 1)⟩,
  ⟨none, none, .bin .add (.r 0) (.k (.int .i64 1))⟩,
  ⟨(some 1), none, .mv (.r 0)⟩]
def l_markIntS_13 : AC := .seq l_markIntS_14 l_markIntS_15
def l_markIntS_12 : AC := .block 1 l_markIntS_13
def l_markIntS_16 : AC := .ops [⟨none, none, .mv (.v 5)⟩,
  ⟨none, none, .bin .add (.r 0) (.k (.int .i64 1))⟩,
  ⟨(some 5), none, .mv (.r 0)⟩]
def l_markIntS_11 : AC := .seq l_markIntS_12 l_markIntS_16
def l_markIntS_7 : AC := .seq l_markIntS_8 l_markIntS_11
def l_markIntS_6 : AC := .loop l_markIntS_7
def l_markIntS_5 : AC := .block 0 l_markIntS_6
def l_markIntS_3 : AC := .seq l_markIntS_4 l_markIntS_5
def l_markIntS_18 : AC := .ops [⟨none, none, .mv (.v 1)⟩,
  ⟨(some 4), none, .mv (.r 0)⟩]
def l_markIntS_17 : AC := .seq l_markIntS_18 .ret
def l_markIntS_2 : AC := .seq l_markIntS_3 l_markIntS_17
def l_markIntS_0 : AC := .seq l_markIntS_1 l_markIntS_2
def rs_l_markIntS : List ARes := [.t 4]
theorem cf_l_markIntS : cfun Go.Proofs.Try.prog [0, 1, 4, 5, 9] Go.Proofs.Try.f12 = some (l_markIntS_0, rs_l_markIntS) := by kernel_rfl

/-! laws.heldIntS -/
def l_heldIntS_1 : AC := .ops [⟨(some 4), none, .mv (.k (.int .i64 0))⟩]
def l_heldIntS_4 : AC := .ops [⟨(some 5), none, .mv (.k (.int .i64 0))⟩]
def l_heldIntS_9 : AC := .ops [⟨none, none, .mv (.v 5)⟩,
  ⟨none, none, .mv (.v 0)⟩,
  ⟨none, none, .len (.r 0)⟩,
  ⟨(some 9), none, .bin .lss (.r 2) (.r 0)⟩]
def l_heldIntS_10 : AC := .cond (.v 9) .skip (.exit 0)
def l_heldIntS_8 : AC := .seq l_heldIntS_9 l_heldIntS_10
def l_heldIntS_15 : AC := .ops [⟨none, none, .mv (.v 0)⟩,
  ⟨none, none, .mv (.v 5)⟩,
  ⟨none, none, .ia 1 (.r 1) (.r 0)⟩,
  ⟨none, none, .ld (.r 0)⟩,
  ⟨none, none, .mv (.v 1)⟩,
  ⟨(some 17), none, .bin .neq (.r 1) (.r 0)⟩]
def l_heldIntS_18 : AC := .ops [⟨(some 4), none, .mv (.k (.int .i64 (-1)))⟩]
def l_heldIntS_17 : AC := .seq l_heldIntS_18 .ret
def l_heldIntS_16 : AC := .cond (.v 17) l_heldIntS_17 .skip
def l_heldIntS_14 : AC := .seq l_heldIntS_15 l_heldIntS_16
def l_heldIntS_19 : AC := .ops [⟨none, none, .mv (.v 1)⟩,
  ⟨none, none, .bin .add (.r 0) (.k (.int .i64 1))⟩,
  ⟨(some 1), none, .mv (.r 0)⟩]
def l_heldIntS_13 : AC := .seq l_heldIntS_14 l_heldIntS_19
def l_heldIntS_12 : AC := .block 1 l_heldIntS_13
def l_heldIntS_20 : AC := .ops [⟨none, none, .mv (.v 5)⟩,
  ⟨none, none, .bin .add (.r 0) (.k (.int .i64 1))⟩,
  ⟨(some 5), none, .mv (.r 0)⟩]
def l_heldIntS_11 : AC := .seq l_heldIntS_12 l_heldIntS_20
def l_heldIntS_7 : AC := .seq l_heldIntS_8 l_heldIntS_11
def l_heldIntS_6 : AC := .loop l_heldIntS_7
def l_heldIntS_5 : AC := .block 0 l_heldIntS_6
def l_heldIntS_3 : AC := .seq l_heldIntS_4 l_heldIntS_5
def l_heldIntS_22 : AC := .ops [⟨none, none, .mv (.v 1)⟩,
  ⟨(some 4), none, .mv (.r 0)⟩]
def l_heldIntS_21 : AC := .seq l_heldIntS_22 .ret
def l_heldIntS_2 : AC := .seq l_heldIntS_3 l_heldIntS_21
def l_heldIntS_0 : AC := .seq l_heldIntS_1 l_heldIntS_2
def rs_l_heldIntS : List ARes := [.t 4]
theorem cf_l_heldIntS : cfun Go.Proofs.Try.prog [0, 1, 4, 5, 9, 17] Go.Proofs.Try.f13 = some (l_heldIntS_0, rs_l_heldIntS) := by kernel_rfl

/-! spec.Components -/
def s_Components_1 : AC := .ops [⟨(some 1), none, .box 28 (.v 0)⟩,
  ⟨(some 2), none, .mv (.k (.slice none 0 0))⟩,
  ⟨(some 3), none, .mv (.k (.int .i64 0))⟩]
def s_Components_4 : AC := .ops [⟨none, none, .ldn 5 (.v 1)⟩,
  ⟨none, none, .call 17 [.r 0]⟩,
  ⟨(some 16), none, .un .not (.r 0)⟩]
def s_Components_7 : AC := .ops [⟨(some 2), none, .mv (.k (.slice none 0 0))⟩,
  ⟨(some 3), none, .mv (.k (.int .i64 1))⟩]
def s_Components_6 : AC := .seq s_Components_7 .ret
def s_Components_5 : AC := .cond (.v 16) s_Components_6 .skip
def s_Components_3 : AC := .seq s_Components_4 s_Components_5
def s_Components_9 : AC := .ops [⟨none, none, .ldn 5 (.v 1)⟩,
  ⟨none, none, .call 18 [.r 0]⟩,
  ⟨(some 4), none, .mv (.r 0)⟩]
def s_Components_11 : AC := .ops [⟨none, none, .ldn 5 (.v 1)⟩,
  ⟨none, none, .call 26 [.r 0]⟩,
  ⟨none, none, .mv (.r 0)⟩,
  ⟨none, none, .ext 0 (.r 0)⟩,
  ⟨none, none, .ext 1 (.r 1)⟩,
  ⟨(some 5), none, .alloc 28 [.int .i64 0, .slice none 0 0, .slice none 0 0, .slice none 0 0, .slice none 0 0]⟩,
  ⟨none, none, .st 5 (.r 0) (.r 2)⟩,
  ⟨none, none, .mv (.r 2)⟩]
def s_Components_13 : AC := .ops [⟨none, none, .ldn 5 (.v 5)⟩,
  ⟨none, none, .call 18 [.r 0]⟩,
  ⟨(some 7), none, .mv (.r 0)⟩]
def s_Components_15 : AC := .ops [⟨none, none, .fa 0 (.v 1)⟩,
  ⟨none, none, .ld (.r 0)⟩,
  ⟨none, none, .mks 3 [.int .i64 0] 8 (.r 0) (.r 0)⟩,
  ⟨(some 8), none, .mv (.r 0)⟩]
def s_Components_18 : AC := .ops [⟨(some 9), none, .mv (.k (.int .i64 0))⟩]
def s_Components_23 : AC := .ops [⟨none, none, .mv (.v 9)⟩,
  ⟨none, none, .fa 0 (.v 1)⟩,
  ⟨none, none, .ld (.r 0)⟩,
  ⟨(some 32), none, .bin .lss (.r 2) (.r 0)⟩]
def s_Components_24 : AC := .cond (.v 32) .skip (.exit 0)
def s_Components_22 : AC := .seq s_Components_23 s_Components_24
def s_Components_27 : AC := .ops [⟨none, none, .mv (.v 8)⟩,
  ⟨none, none, .mv (.v 9)⟩,
  ⟨none, none, .ia 1 (.r 1) (.r 0)⟩,
  ⟨none, none, .st 1 (.r 0) (.k (.int .i64 (-1)))⟩]
def s_Components_26 : AC := .block 1 s_Components_27
def s_Components_28 : AC := .ops [⟨none, none, .mv (.v 9)⟩,
  ⟨none, none, .bin .add (.r 0) (.k (.int .i64 1))⟩,
  ⟨(some 9), none, .mv (.r 0)⟩]
def s_Components_25 : AC := .seq s_Components_26 s_Components_28
def s_Components_21 : AC := .seq s_Components_22 s_Components_25
def s_Components_20 : AC := .loop s_Components_21
def s_Components_19 : AC := .block 0 s_Components_20
def s_Components_17 : AC := .seq s_Components_18 s_Components_19
def s_Components_31 : AC := .ops [⟨(some 10), none, .mv (.k (.int .i64 0))⟩]
def s_Components_36 : AC := .ops [⟨none, none, .mv (.v 10)⟩,
  ⟨none, none, .fa 0 (.v 1)⟩,
  ⟨none, none, .ld (.r 0)⟩,
  ⟨(some 41), none, .bin .lss (.r 2) (.r 0)⟩]
def s_Components_37 : AC := .cond (.v 41) .skip (.exit 2)
def s_Components_35 : AC := .seq s_Components_36 s_Components_37
def s_Components_42 : AC := .ops [⟨none, none, .mv (.v 8)⟩,
  ⟨none, none, .mv (.v 10)⟩,
  ⟨none, none, .ia 1 (.r 1) (.r 0)⟩,
  ⟨none, none, .ld (.r 0)⟩,
  ⟨(some 48), none, .bin .geq (.r 0) (.k (.int .i64 0))⟩]
def s_Components_43 : AC := .cond (.v 48) (.exit 3) .skip
def s_Components_41 : AC := .seq s_Components_42 s_Components_43
def s_Components_45 : AC := .ops [⟨none, none, .mv (.v 4)⟩,
  ⟨none, none, .fa 0 (.v 1)⟩,
  ⟨none, none, .ld (.r 0)⟩,
  ⟨none, none, .mv (.v 10)⟩,
  ⟨none, none, .mksl 3 1 1 [.int .i64 0] [(0, .r 0)]⟩,
  ⟨none, none, .call 27 [.r 4, .r 2, .r 0]⟩,
  ⟨(some 11), none, .mv (.r 0)⟩]
def s_Components_47 : AC := .ops [⟨none, none, .mv (.v 7)⟩,
  ⟨none, none, .fa 0 (.v 1)⟩,
  ⟨none, none, .ld (.r 0)⟩,
  ⟨none, none, .mv (.v 10)⟩,
  ⟨none, none, .mksl 3 1 1 [.int .i64 0] [(0, .r 0)]⟩,
  ⟨none, none, .call 27 [.r 4, .r 2, .r 0]⟩,
  ⟨(some 12), none, .mv (.r 0)⟩]
def s_Components_49 : AC := .ops [⟨(some 13), none, .mv (.k (.int .i64 0))⟩]
def s_Components_54 : AC := .ops [⟨none, none, .mv (.v 13)⟩,
  ⟨none, none, .fa 0 (.v 1)⟩,
  ⟨none, none, .ld (.r 0)⟩,
  ⟨(some 64), none, .bin .lss (.r 2) (.r 0)⟩]
def s_Components_55 : AC := .cond (.v 64) .skip (.exit 4)
def s_Components_53 : AC := .seq s_Components_54 s_Components_55
def s_Components_59 : AC := .ops [⟨none, none, .mv (.v 11)⟩,
  ⟨none, none, .mv (.v 13)⟩,
  ⟨none, none, .ia 1 (.r 1) (.r 0)⟩,
  ⟨none, none, .ld (.r 0)⟩,
  ⟨none, none, .mv (.r 0)⟩,
  ⟨none, (some (0, true)), .mv (.v 12)⟩,
  ⟨none, (some (1, true)), .mv (.v 13)⟩,
  ⟨none, (some (2, true)), .ia 1 (.r 1) (.r 0)⟩,
  ⟨none, (some (3, true)), .ld (.r 0)⟩,
  ⟨(some 76), none, .pick (.r 4) (.r 0) (.k (.bool false))⟩]
def s_Components_61 : AC := .ops [⟨none, none, .mv (.v 8)⟩,
  ⟨none, none, .mv (.v 13)⟩,
  ⟨none, none, .mv (.v 10)⟩,
  ⟨none, none, .ia 1 (.r 2) (.r 1)⟩,
  ⟨none, none, .st 1 (.r 0) (.r 1)⟩]
def s_Components_60 : AC := .cond (.v 76) s_Components_61 .skip
def s_Components_58 : AC := .seq s_Components_59 s_Components_60
def s_Components_57 : AC := .block 5 s_Components_58
def s_Components_62 : AC := .ops [⟨none, none, .mv (.v 13)⟩,
  ⟨none, none, .bin .add (.r 0) (.k (.int .i64 1))⟩,
  ⟨(some 13), none, .mv (.r 0)⟩]
def s_Components_56 : AC := .seq s_Components_57 s_Components_62
def s_Components_52 : AC := .seq s_Components_53 s_Components_56
def s_Components_51 : AC := .loop s_Components_52
def s_Components_50 : AC := .block 4 s_Components_51
def s_Components_48 : AC := .seq s_Components_49 s_Components_50
def s_Components_46 : AC := .seq s_Components_47 s_Components_48
def s_Components_44 : AC := .seq s_Components_45 s_Components_46
def s_Components_40 : AC := .seq s_Components_41 s_Components_44
def s_Components_39 : AC := .block 3 s_Components_40
def s_Components_63 : AC := .ops [⟨none, none, .mv (.v 10)⟩,
  ⟨none, none, .bin .add (.r 0) (.k (.int .i64 1))⟩,
  ⟨(some 10), none, .mv (.r 0)⟩]
def s_Components_38 : AC := .seq s_Components_39 s_Components_63
def s_Components_34 : AC := .seq s_Components_35 s_Components_38
def s_Components_33 : AC := .loop s_Components_34
def s_Components_32 : AC := .block 2 s_Components_33
def s_Components_30 : AC := .seq s_Components_31 s_Components_32
def s_Components_65 : AC := .ops [⟨none, none, .mv (.v 8)⟩,
  ⟨(some 2), none, .mv (.r 0)⟩,
  ⟨(some 3), none, .mv (.k (.int .i64 0))⟩]
def s_Components_64 : AC := .seq s_Components_65 .ret
def s_Components_29 : AC := .seq s_Components_30 s_Components_64
def s_Components_16 : AC := .seq s_Components_17 s_Components_29
def s_Components_14 : AC := .seq s_Components_15 s_Components_16
def s_Components_12 : AC := .seq s_Components_13 s_Components_14
def s_Components_10 : AC := .seq s_Components_11 s_Components_12
def s_Components_8 : AC := .seq s_Components_9 s_Components_10
def s_Components_2 : AC := .seq s_Components_3 s_Components_8
def s_Components_0 : AC := .seq s_Components_1 s_Components_2
def rs_s_Components : List ARes := [.t 2, .t 3]
theorem cf_s_Components : cfun Go.Proofs.Try.prog [0, 1, 2, 3, 4, 5, 7, 8, 9, 10, 11, 12, 13, 16, 32, 41, 48, 64, 76] Go.Proofs.Try.f14 = some (s_Components_0, rs_s_Components) := by kernel_rfl

/-! impl.Components -/
def i_Components_1 : AC := .ops [⟨(some 1), none, .box 28 (.v 0)⟩,
  ⟨(some 2), none, .mv (.k (.slice none 0 0))⟩,
  ⟨(some 3), none, .mv (.k (.int .i64 0))⟩]
def i_Components_4 : AC := .ops [⟨none, none, .ldn 5 (.v 1)⟩,
  ⟨none, none, .call 20 [.r 0]⟩,
  ⟨(some 13), none, .un .not (.r 0)⟩]
def i_Components_7 : AC := .ops [⟨(some 2), none, .mv (.k (.slice none 0 0))⟩,
  ⟨(some 3), none, .mv (.k (.int .i64 1))⟩]
def i_Components_6 : AC := .seq i_Components_7 .ret
def i_Components_5 : AC := .cond (.v 13) i_Components_6 .skip
def i_Components_3 : AC := .seq i_Components_4 i_Components_5
def i_Components_9 : AC := .draw [⟨none, none, .fa 0 (.v 1)⟩,
  ⟨none, none, .ld (.r 0)⟩,
  ⟨none, none, .mks 3 [.int .i64 0] 8 (.r 0) (.r 0)⟩,
  ⟨none, none, .fa 0 (.v 1)⟩,
  ⟨none, none, .ld (.r 0)⟩,
  ⟨none, none, .mks 3 [.int .i64 0] 8 (.r 0) (.r 0)⟩,
  ⟨(some 4), none, .alloc 22 [.slice none 0 0]⟩,
  ⟨(some 5), none, .alloc 22 [.slice none 0 0]⟩,
  ⟨none, none, .st 1 (.r 1) (.r 5)⟩,
  ⟨none, none, .st 1 (.r 1) (.r 3)⟩] [(4, 8), (5, 8)]
def i_Components_11 : AC := .ops [⟨none, none, .mksl 3 1 1 [.int .i64 0] [(0, .k (.int .i64 (-1)))]⟩,
  ⟨none, none, .fa 0 (.v 1)⟩,
  ⟨none, none, .ld (.r 0)⟩,
  ⟨none, none, .call 22 [.r 2, .r 0]⟩,
  ⟨(some 6), none, .alloc 22 [.slice none 0 0]⟩,
  ⟨none, none, .st 1 (.r 0) (.r 1)⟩]
def i_Components_13 : AC := .ops [⟨none, none, .mksl 3 1 0 [] []⟩,
  ⟨(some 7), none, .alloc 22 [.slice none 0 0]⟩,
  ⟨none, none, .st 1 (.r 0) (.r 1)⟩]
def i_Components_15 : AC := .ops [⟨(some 8), none, .alloc 3 [.int .i64 0]⟩,
  ⟨none, none, .st 1 (.r 0) (.k (.int .i64 1))⟩]
def i_Components_17 : AC := .ops [⟨(some 9), none, .alloc 58 [.nilFunc]⟩]
def i_Components_19 : AC := .ops [⟨none, none, .fn (.func 28) [] [.v 8, .v 4, .v 5, .v 7, .v 1, .v 9, .v 6]⟩,
  ⟨none, none, .st 1 (.v 9) (.r 0)⟩]
def i_Components_22 : AC := .ops [⟨none, none, .fa 0 (.v 1)⟩,
  ⟨(some 27), none, .ld (.r 0)⟩,
  ⟨(some 28), none, .mv (.k (.int .i64 0))⟩]
def i_Components_26 : AC := .ops [⟨(some 29), none, .bin .lss (.v 28) (.v 27)⟩]
def i_Components_28 : AC := .cond (.v 29) .skip (.exit 0)
def i_Components_32 : AC := .ops [⟨none, none, .mv (.v 28)⟩,
  ⟨(some 10), none, .mv (.r 0)⟩]
def i_Components_34 : AC := .ops [⟨none, none, .ld (.v 4)⟩,
  ⟨none, none, .mv (.v 10)⟩,
  ⟨none, none, .ia 1 (.r 1) (.r 0)⟩,
  ⟨none, none, .ld (.r 0)⟩,
  ⟨(some 35), none, .bin .eql (.r 0) (.k (.int .i64 0))⟩]
def i_Components_36 : AC := .ops [⟨none, none, .ld (.v 9)⟩,
  ⟨none, none, .mv (.v 10)⟩,
  ⟨none, none, .callv (.r 1) [.r 0]⟩]
def i_Components_35 : AC := .cond (.v 35) i_Components_36 .skip
def i_Components_33 : AC := .seq i_Components_34 i_Components_35
def i_Components_31 : AC := .seq i_Components_32 i_Components_33
def i_Components_30 : AC := .block 1 i_Components_31
def i_Components_37 : AC := .ops [⟨none, none, .bin .add (.v 28) (.k (.int .i64 1))⟩,
  ⟨(some 28), none, .mv (.r 0)⟩]
def i_Components_29 : AC := .seq i_Components_30 i_Components_37
def i_Components_27 : AC := .seq i_Components_28 i_Components_29
def i_Components_25 : AC := .seq i_Components_26 i_Components_27
def i_Components_24 : AC := .loop i_Components_25
def i_Components_23 : AC := .block 0 i_Components_24
def i_Components_21 : AC := .seq i_Components_22 i_Components_23
def i_Components_39 : AC := .ops [⟨none, none, .ld (.v 6)⟩,
  ⟨(some 2), none, .mv (.r 0)⟩,
  ⟨(some 3), none, .mv (.k (.int .i64 0))⟩]
def i_Components_38 : AC := .seq i_Components_39 .ret
def i_Components_20 : AC := .seq i_Components_21 i_Components_38
def i_Components_18 : AC := .seq i_Components_19 i_Components_20
def i_Components_16 : AC := .seq i_Components_17 i_Components_18
def i_Components_14 : AC := .seq i_Components_15 i_Components_16
def i_Components_12 : AC := .seq i_Components_13 i_Components_14
def i_Components_10 : AC := .seq i_Components_11 i_Components_12
def i_Components_8 : AC := .seq i_Components_9 i_Components_10
def i_Components_2 : AC := .seq i_Components_3 i_Components_8
def i_Components_0 : AC := .seq i_Components_1 i_Components_2
def rs_i_Components : List ARes := [.t 2, .t 3]
theorem cf_i_Components : cfun Go.Proofs.Try.prog [0, 1, 2, 3, 4, 5, 6, 7, 8, 9, 10, 13, 27, 28, 29, 35] Go.Proofs.Try.f15 = some (i_Components_0, rs_i_Components) := by kernel_rfl

/-! laws.szIntS -/
def l_szIntS_1 : AC := .ops [⟨(some 4), none, .mv (.k (.int .i64 0))⟩]
def l_szIntS_3 : AC := .ops [⟨none, none, .mv (.v 1)⟩,
  ⟨none, none, .mv (.v 0)⟩,
  ⟨none, none, .len (.r 0)⟩,
  ⟨none, none, .bin .sub (.r 2) (.r 0)⟩,
  ⟨(some 1), none, .mv (.r 0)⟩]
def l_szIntS_6 : AC := .ops [⟨none, none, .mv (.v 1)⟩,
  ⟨(some 10), none, .bin .lss (.r 0) (.k (.int .i64 0))⟩]
def l_szIntS_9 : AC := .ops [⟨(some 4), none, .mv (.k (.int .i64 (-1)))⟩]
def l_szIntS_8 : AC := .seq l_szIntS_9 .ret
def l_szIntS_7 : AC := .cond (.v 10) l_szIntS_8 .skip
def l_szIntS_5 : AC := .seq l_szIntS_6 l_szIntS_7
def l_szIntS_11 : AC := .ops [⟨none, none, .mv (.v 1)⟩,
  ⟨(some 4), none, .mv (.r 0)⟩]
def l_szIntS_10 : AC := .seq l_szIntS_11 .ret
def l_szIntS_4 : AC := .seq l_szIntS_5 l_szIntS_10
def l_szIntS_2 : AC := .seq l_szIntS_3 l_szIntS_4
def l_szIntS_0 : AC := .seq l_szIntS_1 l_szIntS_2
def rs_l_szIntS : List ARes := [.t 4]
theorem cf_l_szIntS : cfun Go.Proofs.Try.prog [0, 1, 4, 10] Go.Proofs.Try.f16 = some (l_szIntS_0, rs_l_szIntS) := by kernel_rfl

/-! spec.ValidGraph -/
def s_ValidGraph_1 : AC := .ops [⟨(some 1), none, .box 28 (.v 0)⟩,
  ⟨(some 2), none, .mv (.k (.bool false))⟩]
def s_ValidGraph_4 : AC := .ops [⟨none, none, .fa 0 (.v 1)⟩,
  ⟨none, none, .ld (.r 0)⟩,
  ⟨none, none, .bin .lss (.r 0) (.k (.int .i64 1))⟩,
  ⟨none, none, .mv (.r 0)⟩,
  ⟨none, (some (0, false)), .fa 0 (.v 1)⟩,
  ⟨none, (some (1, false)), .ld (.r 0)⟩,
  ⟨none, (some (2, false)), .bin .gtr (.r 0) (.k (.int .i64 1600))⟩,
  ⟨none, none, .pick (.r 3) (.k (.bool true)) (.r 0)⟩,
  ⟨none, none, .mv (.r 0)⟩,
  ⟨none, (some (0, false)), .fa 1 (.v 1)⟩,
  ⟨none, (some (1, false)), .ld (.r 0)⟩,
  ⟨none, (some (2, false)), .len (.r 0)⟩,
  ⟨none, (some (3, false)), .fa 0 (.v 1)⟩,
  ⟨none, (some (4, false)), .ld (.r 0)⟩,
  ⟨none, (some (5, false)), .bin .add (.r 0) (.k (.int .i64 1))⟩,
  ⟨none, (some (6, false)), .bin .neq (.r 3) (.r 0)⟩,
  ⟨none, none, .pick (.r 7) (.k (.bool true)) (.r 0)⟩,
  ⟨none, none, .mv (.r 0)⟩,
  ⟨none, (some (0, false)), .fa 1 (.v 1)⟩,
  ⟨none, (some (1, false)), .ld (.r 0)⟩,
  ⟨none, (some (2, false)), .ia 1 (.r 0) (.k (.int .i64 0))⟩,
  ⟨none, (some (3, false)), .ld (.r 0)⟩,
  ⟨none, (some (4, false)), .bin .neq (.r 0) (.k (.int .i64 0))⟩,
  ⟨(some 29), none, .pick (.r 5) (.k (.bool true)) (.r 0)⟩]
def s_ValidGraph_7 : AC := .ops [⟨(some 2), none, .mv (.k (.bool false))⟩]
def s_ValidGraph_6 : AC := .seq s_ValidGraph_7 .ret
def s_ValidGraph_5 : AC := .cond (.v 29) s_ValidGraph_6 .skip
def s_ValidGraph_3 : AC := .seq s_ValidGraph_4 s_ValidGraph_5
def s_ValidGraph_9 : AC := .ops [⟨none, none, .fa 1 (.v 1)⟩,
  ⟨none, none, .ld (.r 0)⟩,
  ⟨none, none, .fa 0 (.v 1)⟩,
  ⟨none, none, .ld (.r 0)⟩,
  ⟨none, none, .ia 1 (.r 2) (.r 0)⟩,
  ⟨none, none, .ld (.r 0)⟩,
  ⟨(some 3), none, .mv (.r 0)⟩]
def s_ValidGraph_12 : AC := .ops [⟨none, none, .mv (.v 3)⟩,
  ⟨none, none, .bin .gtr (.r 0) (.k (.int .i64 6400))⟩,
  ⟨none, none, .mv (.r 0)⟩,
  ⟨none, (some (0, false)), .fa 2 (.v 1)⟩,
  ⟨none, (some (1, false)), .ld (.r 0)⟩,
  ⟨none, (some (2, false)), .len (.r 0)⟩,
  ⟨none, (some (3, false)), .mv (.v 3)⟩,
  ⟨none, (some (4, false)), .bin .neq (.r 1) (.r 0)⟩,
  ⟨none, none, .pick (.r 5) (.k (.bool true)) (.r 0)⟩,
  ⟨none, none, .mv (.r 0)⟩,
  ⟨none, (some (0, false)), .fa 3 (.v 1)⟩,
  ⟨none, (some (1, false)), .ld (.r 0)⟩,
  ⟨none, (some (2, false)), .len (.r 0)⟩,
  ⟨none, (some (3, false)), .mv (.v 3)⟩,
  ⟨none, (some (4, false)), .bin .neq (.r 1) (.r 0)⟩,
  ⟨none, none, .pick (.r 5) (.k (.bool true)) (.r 0)⟩,
  ⟨none, none, .mv (.r 0)⟩,
  ⟨none, (some (0, false)), .fa 4 (.v 1)⟩,
  ⟨none, (some (1, false)), .ld (.r 0)⟩,
  ⟨none, (some (2, false)), .len (.r 0)⟩,
  ⟨none, (some (3, false)), .mv (.v 3)⟩,
  ⟨none, (some (4, false)), .bin .neq (.r 1) (.r 0)⟩,
  ⟨(some 58), none, .pick (.r 5) (.k (.bool true)) (.r 0)⟩]
def s_ValidGraph_15 : AC := .ops [⟨(some 2), none, .mv (.k (.bool false))⟩]
def s_ValidGraph_14 : AC := .seq s_ValidGraph_15 .ret
def s_ValidGraph_13 : AC := .cond (.v 58) s_ValidGraph_14 .skip
def s_ValidGraph_11 : AC := .seq s_ValidGraph_12 s_ValidGraph_13
def s_ValidGraph_18 : AC := .ops [⟨(some 4), none, .mv (.k (.int .i64 0))⟩]
def s_ValidGraph_23 : AC := .ops [⟨none, none, .mv (.v 4)⟩,
  ⟨none, none, .fa 0 (.v 1)⟩,
  ⟨none, none, .ld (.r 0)⟩,
  ⟨(some 62), none, .bin .lss (.r 2) (.r 0)⟩]
def s_ValidGraph_24 : AC := .cond (.v 62) .skip (.exit 0)
def s_ValidGraph_22 : AC := .seq s_ValidGraph_23 s_ValidGraph_24
def s_ValidGraph_28 : AC := .draw [⟨none, none, .fa 1 (.v 1)⟩,
  ⟨none, none, .ld (.r 0)⟩,
  ⟨none, none, .mv (.v 4)⟩,
  ⟨none, none, .bin .add (.r 0) (.k (.int .i64 1))⟩,
  ⟨none, none, .ia 1 (.r 2) (.r 0)⟩,
  ⟨none, none, .ld (.r 0)⟩,
  ⟨none, none, .fa 1 (.v 1)⟩,
  ⟨none, none, .ld (.r 0)⟩,
  ⟨none, none, .mv (.v 4)⟩,
  ⟨none, none, .ia 1 (.r 1) (.r 0)⟩,
  ⟨none, none, .ld (.r 0)⟩,
  ⟨(some 76), none, .bin .lss (.r 5) (.r 0)⟩] []
def s_ValidGraph_31 : AC := .ops [⟨(some 2), none, .mv (.k (.bool false))⟩]
def s_ValidGraph_30 : AC := .seq s_ValidGraph_31 .ret
def s_ValidGraph_29 : AC := .cond (.v 76) s_ValidGraph_30 .skip
def s_ValidGraph_27 : AC := .seq s_ValidGraph_28 s_ValidGraph_29
def s_ValidGraph_26 : AC := .block 1 s_ValidGraph_27
def s_ValidGraph_32 : AC := .ops [⟨none, none, .mv (.v 4)⟩,
  ⟨none, none, .bin .add (.r 0) (.k (.int .i64 1))⟩,
  ⟨(some 4), none, .mv (.r 0)⟩]
def s_ValidGraph_25 : AC := .seq s_ValidGraph_26 s_ValidGraph_32
def s_ValidGraph_21 : AC := .seq s_ValidGraph_22 s_ValidGraph_25
def s_ValidGraph_20 : AC := .loop s_ValidGraph_21
def s_ValidGraph_19 : AC := .block 0 s_ValidGraph_20
def s_ValidGraph_17 : AC := .seq s_ValidGraph_18 s_ValidGraph_19
def s_ValidGraph_35 : AC := .ops [⟨(some 5), none, .mv (.k (.int .i64 0))⟩]
def s_ValidGraph_40 : AC := .ops [⟨none, none, .mv (.v 5)⟩,
  ⟨none, none, .mv (.v 3)⟩,
  ⟨(some 79), none, .bin .lss (.r 1) (.r 0)⟩]
def s_ValidGraph_41 : AC := .cond (.v 79) .skip (.exit 2)
def s_ValidGraph_39 : AC := .seq s_ValidGraph_40 s_ValidGraph_41
def s_ValidGraph_45 : AC := .draw [⟨none, none, .fa 2 (.v 1)⟩,
  ⟨none, none, .ld (.r 0)⟩,
  ⟨none, none, .mv (.v 5)⟩,
  ⟨none, none, .ia 1 (.r 1) (.r 0)⟩,
  ⟨none, none, .ld (.r 0)⟩,
  ⟨none, none, .bin .lss (.r 0) (.k (.int .i64 0))⟩,
  ⟨none, none, .mv (.r 0)⟩,
  ⟨none, (some (0, false)), .fa 2 (.v 1)⟩,
  ⟨none, (some (1, false)), .ld (.r 0)⟩,
  ⟨none, (some (2, false)), .mv (.v 5)⟩,
  ⟨none, (some (3, false)), .ia 1 (.r 1) (.r 0)⟩,
  ⟨none, (some (4, false)), .ld (.r 0)⟩,
  ⟨none, (some (5, false)), .fa 0 (.v 1)⟩,
  ⟨none, (some (6, false)), .ld (.r 0)⟩,
  ⟨none, (some (7, false)), .bin .geq (.r 2) (.r 0)⟩,
  ⟨none, none, .pick (.r 8) (.k (.bool true)) (.r 0)⟩,
  ⟨none, none, .mv (.r 0)⟩,
  ⟨none, (some (0, false)), .fa 3 (.v 1)⟩,
  ⟨none, (some (1, false)), .ld (.r 0)⟩,
  ⟨none, (some (2, false)), .mv (.v 5)⟩,
  ⟨none, (some (3, false)), .ia 1 (.r 1) (.r 0)⟩,
  ⟨none, (some (4, false)), .ld (.r 0)⟩,
  ⟨none, (some (5, false)), .bin .lss (.r 0) (.k (.int .i64 0))⟩,
  ⟨none, none, .pick (.r 6) (.k (.bool true)) (.r 0)⟩,
  ⟨none, none, .mv (.r 0)⟩,
  ⟨none, (some (0, false)), .fa 3 (.v 1)⟩,
  ⟨none, (some (1, false)), .ld (.r 0)⟩,
  ⟨none, (some (2, false)), .mv (.v 5)⟩,
  ⟨none, (some (3, false)), .ia 1 (.r 1) (.r 0)⟩,
  ⟨none, (some (4, false)), .ld (.r 0)⟩,
  ⟨none, (some (5, false)), .bin .gtr (.r 0) (.k (.int .i64 3))⟩,
  ⟨none, none, .pick (.r 6) (.k (.bool true)) (.r 0)⟩,
  ⟨none, none, .mv (.r 0)⟩,
  ⟨none, (some (0, false)), .fa 4 (.v 1)⟩,
  ⟨none, (some (1, false)), .ld (.r 0)⟩,
  ⟨none, (some (2, false)), .mv (.v 5)⟩,
  ⟨none, (some (3, false)), .ia 1 (.r 1) (.r 0)⟩,
  ⟨none, (some (4, false)), .ld (.r 0)⟩,
  ⟨none, (some (5, false)), .bin .lss (.r 0) (.k (.int .i64 1))⟩,
  ⟨none, none, .pick (.r 6) (.k (.bool true)) (.r 0)⟩,
  ⟨none, none, .mv (.r 0)⟩,
  ⟨none, (some (0, false)), .fa 4 (.v 1)⟩,
  ⟨none, (some (1, false)), .ld (.r 0)⟩,
  ⟨none, (some (2, false)), .mv (.v 5)⟩,
  ⟨none, (some (3, false)), .ia 1 (.r 1) (.r 0)⟩,
  ⟨none, (some (4, false)), .ld (.r 0)⟩,
  ⟨none, (some (5, false)), .bin .gtr (.r 0) (.k (.int .i64 9))⟩,
  ⟨(some 129), none, .pick (.r 6) (.k (.bool true)) (.r 0)⟩] []
def s_ValidGraph_48 : AC := .ops [⟨(some 2), none, .mv (.k (.bool false))⟩]
def s_ValidGraph_47 : AC := .seq s_ValidGraph_48 .ret
def s_ValidGraph_46 : AC := .cond (.v 129) s_ValidGraph_47 .skip
def s_ValidGraph_44 : AC := .seq s_ValidGraph_45 s_ValidGraph_46
def s_ValidGraph_43 : AC := .block 3 s_ValidGraph_44
def s_ValidGraph_49 : AC := .ops [⟨none, none, .mv (.v 5)⟩,
  ⟨none, none, .bin .add (.r 0) (.k (.int .i64 1))⟩,
  ⟨(some 5), none, .mv (.r 0)⟩]
def s_ValidGraph_42 : AC := .seq s_ValidGraph_43 s_ValidGraph_49
def s_ValidGraph_38 : AC := .seq s_ValidGraph_39 s_ValidGraph_42
def s_ValidGraph_37 : AC := .loop s_ValidGraph_38
def s_ValidGraph_36 : AC := .block 2 s_ValidGraph_37
def s_ValidGraph_34 : AC := .seq s_ValidGraph_35 s_ValidGraph_36
def s_ValidGraph_51 : AC := .ops [⟨(some 2), none, .mv (.k (.bool true))⟩]
def s_ValidGraph_50 : AC := .seq s_ValidGraph_51 .ret
def s_ValidGraph_33 : AC := .seq s_ValidGraph_34 s_ValidGraph_50
def s_ValidGraph_16 : AC := .seq s_ValidGraph_17 s_ValidGraph_33
def s_ValidGraph_10 : AC := .seq s_ValidGraph_11 s_ValidGraph_16
def s_ValidGraph_8 : AC := .seq s_ValidGraph_9 s_ValidGraph_10
def s_ValidGraph_2 : AC := .seq s_ValidGraph_3 s_ValidGraph_8
def s_ValidGraph_0 : AC := .seq s_ValidGraph_1 s_ValidGraph_2
def rs_s_ValidGraph : List ARes := [.t 2]
theorem cf_s_ValidGraph : cfun Go.Proofs.Try.prog [0, 1, 2, 3, 4, 5, 29, 58, 62, 76, 79, 129] Go.Proofs.Try.f17 = some (s_ValidGraph_0, rs_s_ValidGraph) := by kernel_rfl

/-! spec.l5edges -/
def s_l5edges_1 : AC := .ops [⟨(some 1), none, .box 28 (.v 0)⟩,
  ⟨(some 2), none, .mv (.k (.slice none 0 0))⟩]
def s_l5edges_3 : AC := .ops [⟨(some 3), none, .mv (.k (.slice none 0 0))⟩]
def s_l5edges_6 : AC := .ops [⟨(some 4), none, .mv (.k (.int .i64 0))⟩]
def s_l5edges_11 : AC := .ops [⟨none, none, .mv (.v 4)⟩,
  ⟨none, none, .fa 0 (.v 1)⟩,
  ⟨none, none, .ld (.r 0)⟩,
  ⟨(some 9), none, .bin .lss (.r 2) (.r 0)⟩]
def s_l5edges_12 : AC := .cond (.v 9) .skip (.exit 0)
def s_l5edges_10 : AC := .seq s_l5edges_11 s_l5edges_12
def s_l5edges_16 : AC := .ops [⟨none, none, .fa 1 (.v 1)⟩,
  ⟨none, none, .ld (.r 0)⟩,
  ⟨none, none, .mv (.v 4)⟩,
  ⟨none, none, .ia 1 (.r 1) (.r 0)⟩,
  ⟨none, none, .ld (.r 0)⟩,
  ⟨(some 5), none, .mv (.r 0)⟩]
def s_l5edges_21 : AC := .ops [⟨none, none, .mv (.v 5)⟩,
  ⟨none, none, .fa 1 (.v 1)⟩,
  ⟨none, none, .ld (.r 0)⟩,
  ⟨none, none, .mv (.v 4)⟩,
  ⟨none, none, .bin .add (.r 0) (.k (.int .i64 1))⟩,
  ⟨none, none, .ia 1 (.r 2) (.r 0)⟩,
  ⟨none, none, .ld (.r 0)⟩,
  ⟨(some 24), none, .bin .lss (.r 6) (.r 0)⟩]
def s_l5edges_22 : AC := .cond (.v 24) .skip (.exit 2)
def s_l5edges_20 : AC := .seq s_l5edges_21 s_l5edges_22
def s_l5edges_25 : AC := .draw [⟨none, none, .mv (.v 3)⟩,
  ⟨none, none, .mv (.v 4)⟩,
  ⟨none, none, .fa 2 (.v 1)⟩,
  ⟨none, none, .ld (.r 0)⟩,
  ⟨none, none, .mv (.v 5)⟩,
  ⟨none, none, .ia 1 (.r 1) (.r 0)⟩,
  ⟨none, none, .ld (.r 0)⟩,
  ⟨none, none, .fa 3 (.v 1)⟩,
  ⟨none, none, .ld (.r 0)⟩,
  ⟨none, none, .mv (.v 5)⟩,
  ⟨none, none, .ia 1 (.r 1) (.r 0)⟩,
  ⟨none, none, .ld (.r 0)⟩,
  ⟨none, none, .fa 4 (.v 1)⟩,
  ⟨none, none, .ld (.r 0)⟩,
  ⟨none, none, .mv (.v 5)⟩,
  ⟨none, none, .ia 1 (.r 1) (.r 0)⟩,
  ⟨none, none, .ld (.r 0)⟩,
  ⟨none, none, .build [.int .i64 0, .int .i64 0, .int .i64 0, .int .i64 0] [(0, 1), (1, 1), (2, 1), (3, 1)] [(0, .r 15), (1, .r 10), (2, .r 5), (3, .r 0)]⟩,
  ⟨none, none, .mksl 42 4 1 [.int .i64 0, .int .i64 0, .int .i64 0, .int .i64 0] [(0, .r 0)]⟩,
  ⟨none, none, .app 42 4 32 (.r 18) (.r 0)⟩,
  ⟨(some 3), none, .mv (.r 0)⟩] []
def s_l5edges_24 : AC := .block 3 s_l5edges_25
def s_l5edges_26 : AC := .ops [⟨none, none, .mv (.v 5)⟩,
  ⟨none, none, .bin .add (.r 0) (.k (.int .i64 1))⟩,
  ⟨(some 5), none, .mv (.r 0)⟩]
def s_l5edges_23 : AC := .seq s_l5edges_24 s_l5edges_26
def s_l5edges_19 : AC := .seq s_l5edges_20 s_l5edges_23
def s_l5edges_18 : AC := .loop s_l5edges_19
def s_l5edges_17 : AC := .block 2 s_l5edges_18
def s_l5edges_15 : AC := .seq s_l5edges_16 s_l5edges_17
def s_l5edges_14 : AC := .block 1 s_l5edges_15
def s_l5edges_27 : AC := .ops [⟨none, none, .mv (.v 4)⟩,
  ⟨none, none, .bin .add (.r 0) (.k (.int .i64 1))⟩,
  ⟨(some 4), none, .mv (.r 0)⟩]
def s_l5edges_13 : AC := .seq s_l5edges_14 s_l5edges_27
def s_l5edges_9 : AC := .seq s_l5edges_10 s_l5edges_13
def s_l5edges_8 : AC := .loop s_l5edges_9
def s_l5edges_7 : AC := .block 0 s_l5edges_8
def s_l5edges_5 : AC := .seq s_l5edges_6 s_l5edges_7
def s_l5edges_29 : AC := .ops [⟨none, none, .mv (.v 3)⟩,
  ⟨(some 2), none, .mv (.r 0)⟩]
def s_l5edges_28 : AC := .seq s_l5edges_29 .ret
def s_l5edges_4 : AC := .seq s_l5edges_5 s_l5edges_28
def s_l5edges_2 : AC := .seq s_l5edges_3 s_l5edges_4
def s_l5edges_0 : AC := .seq s_l5edges_1 s_l5edges_2
def rs_s_l5edges : List ARes := [.t 2]
theorem cf_s_l5edges : cfun Go.Proofs.Try.prog [0, 1, 2, 3, 4, 5, 9, 24] Go.Proofs.Try.f18 = some (s_l5edges_0, rs_s_l5edges) := by kernel_rfl

/-! laws.toIntS -/
def l_toIntS_1 : AC := .ops [⟨(some 2), none, .mv (.k (.slice none 0 0))⟩]
def l_toIntS_3 : AC := .ops [⟨none, none, .mv (.v 0)⟩,
  ⟨none, none, .len (.r 0)⟩,
  ⟨none, none, .mks 3 [.int .i64 0] 8 (.r 0) (.r 0)⟩,
  ⟨(some 3), none, .mv (.r 0)⟩]
def l_toIntS_6 : AC := .ops [⟨(some 4), none, .mv (.k (.int .i64 0))⟩]
def l_toIntS_11 : AC := .ops [⟨none, none, .mv (.v 4)⟩,
  ⟨none, none, .mv (.v 0)⟩,
  ⟨none, none, .len (.r 0)⟩,
  ⟨(some 11), none, .bin .lss (.r 2) (.r 0)⟩]
def l_toIntS_12 : AC := .cond (.v 11) .skip (.exit 0)
def l_toIntS_10 : AC := .seq l_toIntS_11 l_toIntS_12
def l_toIntS_15 : AC := .ops [⟨none, none, .mv (.v 3)⟩,
  ⟨none, none, .mv (.v 4)⟩,
  ⟨none, none, .mv (.v 0)⟩,
  ⟨none, none, .mv (.v 4)⟩,
  ⟨none, none, .ia 1 (.r 1) (.r 0)⟩,
  ⟨none, none, .ld (.r 0)⟩,
  ⟨none, none, .ia 1 (.r 5) (.r 4)⟩,
  ⟨none, none, .st 1 (.r 0) (.r 1)⟩]
def l_toIntS_14 : AC := .block 1 l_toIntS_15
def l_toIntS_16 : AC := .ops [⟨none, none, .mv (.v 4)⟩,
  ⟨none, none, .bin .add (.r 0) (.k (.int .i64 1))⟩,
  ⟨(some 4), none, .mv (.r 0)⟩]
def l_toIntS_13 : AC := .seq l_toIntS_14 l_toIntS_16
def l_toIntS_9 : AC := .seq l_toIntS_10 l_toIntS_13
def l_toIntS_8 : AC := .loop l_toIntS_9
def l_toIntS_7 : AC := .block 0 l_toIntS_8
def l_toIntS_5 : AC := .seq l_toIntS_6 l_toIntS_7
def l_toIntS_18 : AC := .ops [⟨none, none, .mv (.v 3)⟩,
  ⟨(some 2), none, .mv (.r 0)⟩]
def l_toIntS_17 : AC := .seq l_toIntS_18 .ret
def l_toIntS_4 : AC := .seq l_toIntS_5 l_toIntS_17
def l_toIntS_2 : AC := .seq l_toIntS_3 l_toIntS_4
def l_toIntS_0 : AC := .seq l_toIntS_1 l_toIntS_2
def rs_l_toIntS : List ARes := [.t 2]
theorem cf_l_toIntS : cfun Go.Proofs.Try.prog [0, 2, 3, 4, 11] Go.Proofs.Try.f19 = some (l_toIntS_0, rs_l_toIntS) := by kernel_rfl

/-! impl.ValidGraph -/
def i_ValidGraph_1 : AC := .ops [⟨(some 1), none, .box 28 (.v 0)⟩,
  ⟨(some 2), none, .mv (.k (.bool false))⟩]
def i_ValidGraph_4 : AC := .ops [⟨none, none, .fa 0 (.v 1)⟩,
  ⟨none, none, .ld (.r 0)⟩,
  ⟨none, none, .bin .lss (.r 0) (.k (.int .i64 1))⟩,
  ⟨none, none, .mv (.r 0)⟩,
  ⟨none, (some (0, false)), .fa 0 (.v 1)⟩,
  ⟨none, (some (1, false)), .ld (.r 0)⟩,
  ⟨none, (some (2, false)), .bin .gtr (.r 0) (.k (.int .i64 1600))⟩,
  ⟨none, none, .pick (.r 3) (.k (.bool true)) (.r 0)⟩,
  ⟨none, none, .mv (.r 0)⟩,
  ⟨none, (some (0, false)), .fa 1 (.v 1)⟩,
  ⟨none, (some (1, false)), .ld (.r 0)⟩,
  ⟨none, (some (2, false)), .len (.r 0)⟩,
  ⟨none, (some (3, false)), .fa 0 (.v 1)⟩,
  ⟨none, (some (4, false)), .ld (.r 0)⟩,
  ⟨none, (some (5, false)), .bin .add (.r 0) (.k (.int .i64 1))⟩,
  ⟨none, (some (6, false)), .bin .neq (.r 3) (.r 0)⟩,
  ⟨none, none, .pick (.r 7) (.k (.bool true)) (.r 0)⟩,
  ⟨none, none, .mv (.r 0)⟩,
  ⟨none, (some (0, false)), .fa 1 (.v 1)⟩,
  ⟨none, (some (1, false)), .ld (.r 0)⟩,
  ⟨none, (some (2, false)), .ia 1 (.r 0) (.k (.int .i64 0))⟩,
  ⟨none, (some (3, false)), .ld (.r 0)⟩,
  ⟨none, (some (4, false)), .bin .neq (.r 0) (.k (.int .i64 0))⟩,
  ⟨none, none, .pick (.r 5) (.k (.bool true)) (.r 0)⟩,
  ⟨none, none, .mv (.r 0)⟩,
  ⟨none, (some (0, false)), .fa 1 (.v 1)⟩,
  ⟨none, (some (1, false)), .ld (.r 0)⟩,
  ⟨none, (some (2, false)), .call 31 [.r 0]⟩,
  ⟨none, (some (3, false)), .un .not (.r 0)⟩,
  ⟨(some 34), none, .pick (.r 4) (.k (.bool true)) (.r 0)⟩]
def i_ValidGraph_7 : AC := .ops [⟨(some 2), none, .mv (.k (.bool false))⟩]
def i_ValidGraph_6 : AC := .seq i_ValidGraph_7 .ret
def i_ValidGraph_5 : AC := .cond (.v 34) i_ValidGraph_6 .skip
def i_ValidGraph_3 : AC := .seq i_ValidGraph_4 i_ValidGraph_5
def i_ValidGraph_9 : AC := .ops [⟨none, none, .fa 1 (.v 1)⟩,
  ⟨none, none, .ld (.r 0)⟩,
  ⟨none, none, .fa 0 (.v 1)⟩,
  ⟨none, none, .ld (.r 0)⟩,
  ⟨none, none, .ia 1 (.r 2) (.r 0)⟩,
  ⟨none, none, .ld (.r 0)⟩,
  ⟨(some 3), none, .mv (.r 0)⟩]
def i_ValidGraph_12 : AC := .ops [⟨none, none, .mv (.v 3)⟩,
  ⟨none, none, .bin .gtr (.r 0) (.k (.int .i64 6400))⟩,
  ⟨none, none, .mv (.r 0)⟩,
  ⟨none, (some (0, false)), .fa 2 (.v 1)⟩,
  ⟨none, (some (1, false)), .ld (.r 0)⟩,
  ⟨none, (some (2, false)), .len (.r 0)⟩,
  ⟨none, (some (3, false)), .mv (.v 3)⟩,
  ⟨none, (some (4, false)), .bin .neq (.r 1) (.r 0)⟩,
  ⟨none, none, .pick (.r 5) (.k (.bool true)) (.r 0)⟩,
  ⟨none, none, .mv (.r 0)⟩,
  ⟨none, (some (0, false)), .fa 3 (.v 1)⟩,
  ⟨none, (some (1, false)), .ld (.r 0)⟩,
  ⟨none, (some (2, false)), .len (.r 0)⟩,
  ⟨none, (some (3, false)), .mv (.v 3)⟩,
  ⟨none, (some (4, false)), .bin .neq (.r 1) (.r 0)⟩,
  ⟨none, none, .pick (.r 5) (.k (.bool true)) (.r 0)⟩,
  ⟨none, none, .mv (.r 0)⟩,
  ⟨none, (some (0, false)), .fa 4 (.v 1)⟩,
  ⟨none, (some (1, false)), .ld (.r 0)⟩,
  ⟨none, (some (2, false)), .len (.r 0)⟩,
  ⟨none, (some (3, false)), .mv (.v 3)⟩,
  ⟨none, (some (4, false)), .bin .neq (.r 1) (.r 0)⟩,
  ⟨(some 63), none, .pick (.r 5) (.k (.bool true)) (.r 0)⟩]
def i_ValidGraph_15 : AC := .ops [⟨(some 2), none, .mv (.k (.bool false))⟩]
def i_ValidGraph_14 : AC := .seq i_ValidGraph_15 .ret
def i_ValidGraph_13 : AC := .cond (.v 63) i_ValidGraph_14 .skip
def i_ValidGraph_11 : AC := .seq i_ValidGraph_12 i_ValidGraph_13
def i_ValidGraph_18 : AC := .ops [⟨(some 64), none, .mv (.v 3)⟩,
  ⟨(some 65), none, .mv (.k (.int .i64 0))⟩]
def i_ValidGraph_22 : AC := .ops [⟨(some 66), none, .bin .lss (.v 65) (.v 64)⟩]
def i_ValidGraph_24 : AC := .cond (.v 66) .skip (.exit 0)
def i_ValidGraph_28 : AC := .ops [⟨none, none, .mv (.v 65)⟩,
  ⟨(some 4), none, .mv (.r 0)⟩]
def i_ValidGraph_30 : AC := .draw [⟨none, none, .fa 2 (.v 1)⟩,
  ⟨none, none, .ld (.r 0)⟩,
  ⟨none, none, .mv (.v 4)⟩,
  ⟨none, none, .ia 1 (.r 1) (.r 0)⟩,
  ⟨none, none, .ld (.r 0)⟩,
  ⟨none, none, .bin .lss (.r 0) (.k (.int .i64 0))⟩,
  ⟨none, none, .mv (.r 0)⟩,
  ⟨none, (some (0, false)), .fa 2 (.v 1)⟩,
  ⟨none, (some (1, false)), .ld (.r 0)⟩,
  ⟨none, (some (2, false)), .mv (.v 4)⟩,
  ⟨none, (some (3, false)), .ia 1 (.r 1) (.r 0)⟩,
  ⟨none, (some (4, false)), .ld (.r 0)⟩,
  ⟨none, (some (5, false)), .fa 0 (.v 1)⟩,
  ⟨none, (some (6, false)), .ld (.r 0)⟩,
  ⟨none, (some (7, false)), .bin .geq (.r 2) (.r 0)⟩,
  ⟨none, none, .pick (.r 8) (.k (.bool true)) (.r 0)⟩,
  ⟨none, none, .mv (.r 0)⟩,
  ⟨none, (some (0, false)), .fa 3 (.v 1)⟩,
  ⟨none, (some (1, false)), .ld (.r 0)⟩,
  ⟨none, (some (2, false)), .mv (.v 4)⟩,
  ⟨none, (some (3, false)), .ia 1 (.r 1) (.r 0)⟩,
  ⟨none, (some (4, false)), .ld (.r 0)⟩,
  ⟨none, (some (5, false)), .bin .lss (.r 0) (.k (.int .i64 0))⟩,
  ⟨none, none, .pick (.r 6) (.k (.bool true)) (.r 0)⟩,
  ⟨none, none, .mv (.r 0)⟩,
  ⟨none, (some (0, false)), .fa 3 (.v 1)⟩,
  ⟨none, (some (1, false)), .ld (.r 0)⟩,
  ⟨none, (some (2, false)), .mv (.v 4)⟩,
  ⟨none, (some (3, false)), .ia 1 (.r 1) (.r 0)⟩,
  ⟨none, (some (4, false)), .ld (.r 0)⟩,
  ⟨none, (some (5, false)), .bin .gtr (.r 0) (.k (.int .i64 3))⟩,
  ⟨none, none, .pick (.r 6) (.k (.bool true)) (.r 0)⟩,
  ⟨none, none, .mv (.r 0)⟩,
  ⟨none, (some (0, false)), .fa 4 (.v 1)⟩,
  ⟨none, (some (1, false)), .ld (.r 0)⟩,
  ⟨none, (some (2, false)), .mv (.v 4)⟩,
  ⟨none, (some (3, false)), .ia 1 (.r 1) (.r 0)⟩,
  ⟨none, (some (4, false)), .ld (.r 0)⟩,
  ⟨none, (some (5, false)), .bin .lss (.r 0) (.k (.int .i64 1))⟩,
  ⟨none, none, .pick (.r 6) (.k (.bool true)) (.r 0)⟩,
  ⟨none, none, .mv (.r 0)⟩,
  ⟨none, (some (0, false)), .fa 4 (.v 1)⟩,
  ⟨none, (some (1, false)), .ld (.r 0)⟩,
  ⟨none, (some (2, false)), .mv (.v 4)⟩,
  ⟨none, (some (3, false)), .ia 1 (.r 1) (.r 0)⟩,
  ⟨none, (some (4, false)), .ld (.r 0)⟩,
  ⟨none, (some (5, false)), .bin .gtr (.r 0) (.k (.int .i64 9))⟩,
  ⟨(some 115), none, .pick (.r 6) (.k (.bool true)) (.r 0)⟩] []
def i_ValidGraph_33 : AC := .ops [⟨(some 2), none, .mv (.k (.bool false))⟩]
def i_ValidGraph_32 : AC := .seq i_ValidGraph_33 .ret
def i_ValidGraph_31 : AC := .cond (.v 115) i_ValidGraph_32 .skip
def i_ValidGraph_29 : AC := .seq i_ValidGraph_30 i_ValidGraph_31
def i_ValidGraph_27 : AC := .seq i_ValidGraph_28 i_ValidGraph_29
def i_ValidGraph_26 : AC := .block 1 i_ValidGraph_27
def i_ValidGraph_34 : AC := .ops [⟨none, none, .bin .add (.v 65) (.k (.int .i64 1))⟩,
  ⟨(some 65), none, .mv (.r 0)⟩]
def i_ValidGraph_25 : AC := .seq i_ValidGraph_26 i_ValidGraph_34
def i_ValidGraph_23 : AC := .seq i_ValidGraph_24 i_ValidGraph_25
def i_ValidGraph_21 : AC := .seq i_ValidGraph_22 i_ValidGraph_23
def i_ValidGraph_20 : AC := .loop i_ValidGraph_21
def i_ValidGraph_19 : AC := .block 0 i_ValidGraph_20
def i_ValidGraph_17 : AC := .seq i_ValidGraph_18 i_ValidGraph_19
def i_ValidGraph_36 : AC := .ops [⟨(some 2), none, .mv (.k (.bool true))⟩]
def i_ValidGraph_35 : AC := .seq i_ValidGraph_36 .ret
def i_ValidGraph_16 : AC := .seq i_ValidGraph_17 i_ValidGraph_35
def i_ValidGraph_10 : AC := .seq i_ValidGraph_11 i_ValidGraph_16
def i_ValidGraph_8 : AC := .seq i_ValidGraph_9 i_ValidGraph_10
def i_ValidGraph_2 : AC := .seq i_ValidGraph_3 i_ValidGraph_8
def i_ValidGraph_0 : AC := .seq i_ValidGraph_1 i_ValidGraph_2
def rs_i_ValidGraph : List ARes := [.t 2]
theorem cf_i_ValidGraph : cfun Go.Proofs.Try.prog [0, 1, 2, 3, 4, 34, 63, 64, 65, 66, 115] Go.Proofs.Try.f20 = some (i_ValidGraph_0, rs_i_ValidGraph) := by kernel_rfl

/-! impl.Reverse -/
def i_Reverse_1 : AC := .ops [⟨(some 1), none, .box 28 (.v 0)⟩,
  ⟨(some 2), none, .alloc 28 [.int .i64 0, .slice none 0 0, .slice none 0 0, .slice none 0 0, .slice none 0 0]⟩,
  ⟨(some 3), none, .mv (.k (.int .i64 0))⟩]
def i_Reverse_4 : AC := .ops [⟨none, none, .ldn 5 (.v 1)⟩,
  ⟨none, none, .call 20 [.r 0]⟩,
  ⟨(some 15), none, .un .not (.r 0)⟩]
def i_Reverse_7 : AC := .ops [⟨none, none, .build [.int .i64 0, .slice none 0 0, .slice none 0 0, .slice none 0 0, .slice none 0 0] [(0, 1), (1, 1), (2, 1), (3, 1), (4, 1)] []⟩,
  ⟨none, none, .st 5 (.v 2) (.r 0)⟩,
  ⟨(some 3), none, .mv (.k (.int .i64 1))⟩]
def i_Reverse_6 : AC := .seq i_Reverse_7 .ret
def i_Reverse_5 : AC := .cond (.v 15) i_Reverse_6 .skip
def i_Reverse_3 : AC := .seq i_Reverse_4 i_Reverse_5
def i_Reverse_9 : AC := .ops [⟨none, none, .fa 0 (.v 1)⟩,
  ⟨none, none, .ld (.r 0)⟩,
  ⟨none, none, .mks 22 [.slice none 0 0] 24 (.r 0) (.r 0)⟩,
  ⟨(some 4), none, .mv (.r 0)⟩]
def i_Reverse_11 : AC := .ops [⟨none, none, .fa 2 (.v 1)⟩,
  ⟨none, none, .ld (.r 0)⟩,
  ⟨none, none, .len (.r 0)⟩,
  ⟨none, none, .mks 3 [.int .i64 0] 8 (.r 0) (.r 0)⟩,
  ⟨(some 5), none, .mv (.r 0)⟩]
def i_Reverse_14 : AC := .ops [⟨none, none, .fa 0 (.v 1)⟩,
  ⟨(some 25), none, .ld (.r 0)⟩,
  ⟨(some 26), none, .mv (.k (.int .i64 0))⟩]
def i_Reverse_18 : AC := .ops [⟨(some 27), none, .bin .lss (.v 26) (.v 25)⟩]
def i_Reverse_20 : AC := .cond (.v 27) .skip (.exit 0)
def i_Reverse_24 : AC := .ops [⟨none, none, .mv (.v 26)⟩,
  ⟨(some 6), none, .mv (.r 0)⟩]
def i_Reverse_26 : AC := .ops [⟨none, none, .fa 1 (.v 1)⟩,
  ⟨none, none, .ld (.r 0)⟩,
  ⟨none, none, .mv (.v 6)⟩,
  ⟨none, none, .ia 1 (.r 1) (.r 0)⟩,
  ⟨none, none, .ld (.r 0)⟩,
  ⟨(some 7), none, .mv (.r 0)⟩]
def i_Reverse_31 : AC := .ops [⟨none, none, .mv (.v 7)⟩,
  ⟨none, none, .fa 1 (.v 1)⟩,
  ⟨none, none, .ld (.r 0)⟩,
  ⟨none, none, .mv (.v 6)⟩,
  ⟨none, none, .bin .add (.r 0) (.k (.int .i64 1))⟩,
  ⟨none, none, .ia 1 (.r 2) (.r 0)⟩,
  ⟨none, none, .ld (.r 0)⟩,
  ⟨(some 41), none, .bin .lss (.r 6) (.r 0)⟩]
def i_Reverse_32 : AC := .cond (.v 41) .skip (.exit 2)
def i_Reverse_30 : AC := .seq i_Reverse_31 i_Reverse_32
def i_Reverse_36 : AC := .draw [⟨none, none, .mv (.v 4)⟩,
  ⟨none, none, .fa 2 (.v 1)⟩,
  ⟨none, none, .ld (.r 0)⟩,
  ⟨none, none, .mv (.v 7)⟩,
  ⟨none, none, .ia 1 (.r 1) (.r 0)⟩,
  ⟨none, none, .ld (.r 0)⟩,
  ⟨none, none, .mv (.v 4)⟩,
  ⟨none, none, .fa 2 (.v 1)⟩,
  ⟨none, none, .ld (.r 0)⟩,
  ⟨none, none, .mv (.v 7)⟩,
  ⟨none, none, .ia 1 (.r 1) (.r 0)⟩,
  ⟨none, none, .ld (.r 0)⟩,
  ⟨none, none, .ia 1 (.r 5) (.r 0)⟩,
  ⟨none, none, .ld (.r 0)⟩,
  ⟨none, none, .mv (.v 7)⟩,
  ⟨none, none, .mksl 3 1 1 [.int .i64 0] [(0, .r 0)]⟩,
  ⟨none, none, .app 3 1 8 (.r 2) (.r 0)⟩,
  ⟨none, none, .ia 1 (.r 16) (.r 11)⟩,
  ⟨none, none, .st 1 (.r 0) (.r 1)⟩] [(2, 16), (5, 16)]
def i_Reverse_37 : AC := .ops [⟨none, none, .mv (.v 5)⟩,
  ⟨none, none, .mv (.v 7)⟩,
  ⟨none, none, .mv (.v 6)⟩,
  ⟨none, none, .ia 1 (.r 2) (.r 1)⟩,
  ⟨none, none, .st 1 (.r 0) (.r 1)⟩]
def i_Reverse_35 : AC := .seq i_Reverse_36 i_Reverse_37
def i_Reverse_34 : AC := .block 3 i_Reverse_35
def i_Reverse_38 : AC := .ops [⟨none, none, .mv (.v 7)⟩,
  ⟨none, none, .bin .add (.r 0) (.k (.int .i64 1))⟩,
  ⟨(some 7), none, .mv (.r 0)⟩]
def i_Reverse_33 : AC := .seq i_Reverse_34 i_Reverse_38
def i_Reverse_29 : AC := .seq i_Reverse_30 i_Reverse_33
def i_Reverse_28 : AC := .loop i_Reverse_29
def i_Reverse_27 : AC := .block 2 i_Reverse_28
def i_Reverse_25 : AC := .seq i_Reverse_26 i_Reverse_27
def i_Reverse_23 : AC := .seq i_Reverse_24 i_Reverse_25
def i_Reverse_22 : AC := .block 1 i_Reverse_23
def i_Reverse_39 : AC := .ops [⟨none, none, .bin .add (.v 26) (.k (.int .i64 1))⟩,
  ⟨(some 26), none, .mv (.r 0)⟩]
def i_Reverse_21 : AC := .seq i_Reverse_22 i_Reverse_39
def i_Reverse_19 : AC := .seq i_Reverse_20 i_Reverse_21
def i_Reverse_17 : AC := .seq i_Reverse_18 i_Reverse_19
def i_Reverse_16 : AC := .loop i_Reverse_17
def i_Reverse_15 : AC := .block 0 i_Reverse_16
def i_Reverse_13 : AC := .seq i_Reverse_14 i_Reverse_15
def i_Reverse_41 : AC := .ops [⟨none, none, .fa 0 (.v 1)⟩,
  ⟨none, none, .ld (.r 0)⟩,
  ⟨none, none, .build [.int .i64 0, .slice none 0 0, .slice none 0 0, .slice none 0 0, .slice none 0 0] [(0, 1), (1, 1), (2, 1), (3, 1), (4, 1)] [(0, .r 0)]⟩,
  ⟨(some 8), none, .alloc 28 [.int .i64 0, .slice none 0 0, .slice none 0 0, .slice none 0 0, .slice none 0 0]⟩,
  ⟨none, none, .st 5 (.r 0) (.r 1)⟩]
def i_Reverse_44 : AC := .ops [⟨(some 70), none, .mv (.v 4)⟩,
  ⟨(some 71), none, .len (.r 0)⟩,
  ⟨(some 72), none, .mv (.k (.int .i64 0))⟩]
def i_Reverse_48 : AC := .ops [⟨(some 73), none, .bin .lss (.v 72) (.v 71)⟩]
def i_Reverse_50 : AC := .cond (.v 73) .skip (.exit 4)
def i_Reverse_54 : AC := .ops [⟨none, none, .ia 1 (.v 70) (.v 72)⟩,
  ⟨none, none, .ld (.r 0)⟩,
  ⟨(some 10), none, .mv (.r 0)⟩]
def i_Reverse_56 : AC := .ops [⟨none, none, .fa 1 (.v 8)⟩,
  ⟨none, none, .ld (.r 0)⟩,
  ⟨none, none, .fa 2 (.v 8)⟩,
  ⟨none, none, .ld (.r 0)⟩,
  ⟨none, none, .len (.r 0)⟩,
  ⟨none, none, .mksl 3 1 1 [.int .i64 0] [(0, .r 0)]⟩,
  ⟨none, none, .app 3 1 8 (.r 4) (.r 0)⟩,
  ⟨none, none, .fa 1 (.v 8)⟩,
  ⟨none, none, .st 1 (.r 0) (.r 1)⟩]
def i_Reverse_58 : AC := .ops [⟨(some 84), none, .mv (.v 10)⟩,
  ⟨(some 85), none, .len (.r 0)⟩,
  ⟨(some 86), none, .mv (.k (.int .i64 0))⟩]
def i_Reverse_62 : AC := .ops [⟨(some 87), none, .bin .lss (.v 86) (.v 85)⟩]
def i_Reverse_64 : AC := .cond (.v 87) .skip (.exit 6)
def i_Reverse_68 : AC := .ops [⟨none, none, .ia 1 (.v 84) (.v 86)⟩,
  ⟨none, none, .ld (.r 0)⟩,
  ⟨(some 12), none, .mv (.r 0)⟩]
def i_Reverse_69 : AC := .draw [⟨none, none, .mv (.v 5)⟩,
  ⟨none, none, .mv (.v 12)⟩,
  ⟨none, none, .ia 1 (.r 1) (.r 0)⟩,
  ⟨none, none, .ld (.r 0)⟩,
  ⟨none, none, .fa 3 (.v 1)⟩,
  ⟨none, none, .ld (.r 0)⟩,
  ⟨none, none, .mv (.v 12)⟩,
  ⟨none, none, .ia 1 (.r 1) (.r 0)⟩,
  ⟨none, none, .ld (.r 0)⟩,
  ⟨none, none, .fa 4 (.v 1)⟩,
  ⟨none, none, .ld (.r 0)⟩,
  ⟨none, none, .mv (.v 12)⟩,
  ⟨none, none, .ia 1 (.r 1) (.r 0)⟩,
  ⟨none, none, .ld (.r 0)⟩,
  ⟨none, none, .call 32 [.v 8, .r 10, .r 5, .r 0]⟩] []
def i_Reverse_67 : AC := .seq i_Reverse_68 i_Reverse_69
def i_Reverse_66 : AC := .block 7 i_Reverse_67
def i_Reverse_70 : AC := .ops [⟨none, none, .bin .add (.v 86) (.k (.int .i64 1))⟩,
  ⟨(some 86), none, .mv (.r 0)⟩]
def i_Reverse_65 : AC := .seq i_Reverse_66 i_Reverse_70
def i_Reverse_63 : AC := .seq i_Reverse_64 i_Reverse_65
def i_Reverse_61 : AC := .seq i_Reverse_62 i_Reverse_63
def i_Reverse_60 : AC := .loop i_Reverse_61
def i_Reverse_59 : AC := .block 6 i_Reverse_60
def i_Reverse_57 : AC := .seq i_Reverse_58 i_Reverse_59
def i_Reverse_55 : AC := .seq i_Reverse_56 i_Reverse_57
def i_Reverse_53 : AC := .seq i_Reverse_54 i_Reverse_55
def i_Reverse_52 : AC := .block 5 i_Reverse_53
def i_Reverse_71 : AC := .ops [⟨none, none, .bin .add (.v 72) (.k (.int .i64 1))⟩,
  ⟨(some 72), none, .mv (.r 0)⟩]
def i_Reverse_51 : AC := .seq i_Reverse_52 i_Reverse_71
def i_Reverse_49 : AC := .seq i_Reverse_50 i_Reverse_51
def i_Reverse_47 : AC := .seq i_Reverse_48 i_Reverse_49
def i_Reverse_46 : AC := .loop i_Reverse_47
def i_Reverse_45 : AC := .block 4 i_Reverse_46
def i_Reverse_43 : AC := .seq i_Reverse_44 i_Reverse_45
def i_Reverse_73 : AC := .ops [⟨none, none, .fa 1 (.v 8)⟩,
  ⟨none, none, .ld (.r 0)⟩,
  ⟨none, none, .fa 2 (.v 8)⟩,
  ⟨none, none, .ld (.r 0)⟩,
  ⟨none, none, .len (.r 0)⟩,
  ⟨none, none, .mksl 3 1 1 [.int .i64 0] [(0, .r 0)]⟩,
  ⟨none, none, .app 3 1 8 (.r 4) (.r 0)⟩,
  ⟨none, none, .fa 1 (.v 8)⟩,
  ⟨none, none, .st 1 (.r 0) (.r 1)⟩]
def i_Reverse_75 : AC := .ops [⟨none, none, .ldn 5 (.v 8)⟩,
  ⟨none, none, .st 5 (.v 2) (.r 0)⟩,
  ⟨(some 3), none, .mv (.k (.int .i64 0))⟩]
def i_Reverse_74 : AC := .seq i_Reverse_75 .ret
def i_Reverse_72 : AC := .seq i_Reverse_73 i_Reverse_74
def i_Reverse_42 : AC := .seq i_Reverse_43 i_Reverse_72
def i_Reverse_40 : AC := .seq i_Reverse_41 i_Reverse_42
def i_Reverse_12 : AC := .seq i_Reverse_13 i_Reverse_40
def i_Reverse_10 : AC := .seq i_Reverse_11 i_Reverse_12
def i_Reverse_8 : AC := .seq i_Reverse_9 i_Reverse_10
def i_Reverse_2 : AC := .seq i_Reverse_3 i_Reverse_8
def i_Reverse_0 : AC := .seq i_Reverse_1 i_Reverse_2
def rs_i_Reverse : List ARes := [.cn 2 5, .t 3]
theorem cf_i_Reverse : cfun Go.Proofs.Try.prog [0, 1, 2, 3, 4, 5, 6, 7, 8, 10, 12, 15, 25, 26, 27, 41, 70, 71, 72, 73, 84, 85, 86, 87] Go.Proofs.Try.f21 = some (i_Reverse_0, rs_i_Reverse) := by kernel_rfl

/-! slices.Repeat[[]int,int] -/
def slices_Repeat_int_int_1 : AC := .ops [⟨(some 4), none, .mv (.k (.slice none 0 0))⟩]
def slices_Repeat_int_int_4 : AC := .ops [⟨none, none, .mv (.v 1)⟩,
  ⟨(some 10), none, .bin .lss (.r 0) (.k (.int .i64 0))⟩]
def slices_Repeat_int_int_6 : AC := .ops [⟨none, none, .ifc 9 (.k (.string ⟨#[99, 97, 110, 110, 111, 116, 32, 98, 101, 32, 110, 101, 103, 97, 116, 105, 118, 101]⟩))⟩,
  ⟨none, none, .bad⟩]
def slices_Repeat_int_int_5 : AC := .cond (.v 10) slices_Repeat_int_int_6 .skip
def slices_Repeat_int_int_3 : AC := .seq slices_Repeat_int_int_4 slices_Repeat_int_int_5
def slices_Repeat_int_int_8 : AC := .ops [⟨none, none, .mv (.v 0)⟩,
  ⟨none, none, .len (.r 0)⟩,
  ⟨none, none, .cvi .u64 (.r 0)⟩,
  ⟨none, none, .mv (.v 1)⟩,
  ⟨none, none, .cvi .u64 (.r 0)⟩,
  ⟨none, none, .call 33 [.r 2, .r 0]⟩,
  ⟨none, none, .mv (.r 0)⟩,
  ⟨none, none, .ext 0 (.r 0)⟩,
  ⟨none, none, .ext 1 (.r 1)⟩,
  ⟨(some 5), none, .mv (.r 1)⟩,
  ⟨(some 6), none, .mv (.r 1)⟩]
def slices_Repeat_int_int_11 : AC := .ops [⟨none, none, .mv (.v 5)⟩,
  ⟨none, none, .bin .gtr (.r 0) (.k (.int .u64 0))⟩,
  ⟨none, none, .mv (.r 0)⟩,
  ⟨none, (some (0, false)), .mv (.v 6)⟩,
  ⟨none, (some (1, false)), .bin .gtr (.r 0) (.k (.int .u64 9223372036854775807))⟩,
  ⟨(some 26), none, .pick (.r 2) (.k (.bool true)) (.r 0)⟩]
def slices_Repeat_int_int_13 : AC := .ops [⟨none, none, .ifc 9 (.k (.string ⟨#[116, 104, 101, 32, 114, 101, 115, 117, 108, 116, 32, 111, 102, 32, 40, 108, 101, 110, 40, 120, 41, 32, 42, 32, 99, 111, 117, 110, 116, 41, 32, 111, 118, 101, 114, 102, 108, 111, 119, 115]⟩))⟩,
  ⟨none, none, .bad⟩]
def slices_Repeat_int_int_12 : AC := .cond (.v 26) slices_Repeat_int_int_13 .skip
def slices_Repeat_int_int_10 : AC := .seq slices_Repeat_int_int_11 slices_Repeat_int_int_12
def slices_Repeat_int_int_15 : AC := .ops [⟨none, none, .mv (.v 6)⟩,
  ⟨none, none, .cvi .i64 (.r 0)⟩,
  ⟨none, none, .mks 3 [.int .i64 0] 8 (.r 0) (.r 0)⟩,
  ⟨(some 7), none, .mv (.r 0)⟩]
def slices_Repeat_int_int_17 : AC := .ops [⟨none, none, .mv (.v 7)⟩,
  ⟨none, none, .mv (.v 0)⟩,
  ⟨none, none, .copy 1 (.r 1) (.r 0)⟩,
  ⟨(some 8), none, .mv (.r 0)⟩]
def slices_Repeat_int_int_23 : AC := .ops [⟨none, none, .mv (.v 8)⟩,
  ⟨none, none, .mv (.v 7)⟩,
  ⟨none, none, .len (.r 0)⟩,
  ⟨(some 37), none, .bin .lss (.r 2) (.r 0)⟩]
def slices_Repeat_int_int_24 : AC := .cond (.v 37) .skip (.exit 0)
def slices_Repeat_int_int_22 : AC := .seq slices_Repeat_int_int_23 slices_Repeat_int_int_24
def slices_Repeat_int_int_26 : AC := .draw [⟨none, none, .mv (.v 8)⟩,
  ⟨none, none, .mv (.v 7)⟩,
  ⟨none, none, .mv (.v 8)⟩,
  ⟨none, none, .slc 3 1 (.r 1) (some (.r 0)) none⟩,
  ⟨none, none, .mv (.v 7)⟩,
  ⟨none, none, .mv (.v 8)⟩,
  ⟨none, none, .slc 3 1 (.r 1) none (some (.r 0))⟩,
  ⟨none, none, .copy 1 (.r 3) (.r 0)⟩,
  ⟨none, none, .bin .add (.r 7) (.r 0)⟩,
  ⟨(some 8), none, .mv (.r 0)⟩] []
def slices_Repeat_int_int_25 : AC := .block 1 slices_Repeat_int_int_26
def slices_Repeat_int_int_21 : AC := .seq slices_Repeat_int_int_22 slices_Repeat_int_int_25
def slices_Repeat_int_int_20 : AC := .loop slices_Repeat_int_int_21
def slices_Repeat_int_int_19 : AC := .block 0 slices_Repeat_int_int_20
def slices_Repeat_int_int_28 : AC := .ops [⟨none, none, .mv (.v 7)⟩,
  ⟨(some 4), none, .mv (.r 0)⟩]
def slices_Repeat_int_int_27 : AC := .seq slices_Repeat_int_int_28 .ret
def slices_Repeat_int_int_18 : AC := .seq slices_Repeat_int_int_19 slices_Repeat_int_int_27
def slices_Repeat_int_int_16 : AC := .seq slices_Repeat_int_int_17 slices_Repeat_int_int_18
def slices_Repeat_int_int_14 : AC := .seq slices_Repeat_int_int_15 slices_Repeat_int_int_16
def slices_Repeat_int_int_9 : AC := .seq slices_Repeat_int_int_10 slices_Repeat_int_int_14
def slices_Repeat_int_int_7 : AC := .seq slices_Repeat_int_int_8 slices_Repeat_int_int_9
def slices_Repeat_int_int_2 : AC := .seq slices_Repeat_int_int_3 slices_Repeat_int_int_7
def slices_Repeat_int_int_0 : AC := .seq slices_Repeat_int_int_1 slices_Repeat_int_int_2
def rs_slices_Repeat_int_int : List ARes := [.t 4]
theorem cf_slices_Repeat_int_int : cfun Go.Proofs.Try.prog [0, 1, 4, 5, 6, 7, 8, 10, 26, 37] Go.Proofs.Try.f22 = some (slices_Repeat_int_int_0, rs_slices_Repeat_int_int) := by kernel_rfl

/-! impl.Route$1 -/
def i_Route_1_1 : AC := .ops [⟨(some 2), none, .box 49 (.v 0)⟩,
  ⟨(some 3), none, .box 49 (.v 1)⟩,
  ⟨(some 4), none, .mv (.k (.bool false))⟩]
def i_Route_1_3 : AC := .ops [⟨none, none, .fa 1 (.v 2)⟩,
  ⟨none, none, .ld (.r 0)⟩,
  ⟨none, none, .fa 1 (.v 3)⟩,
  ⟨none, none, .ld (.r 0)⟩,
  ⟨none, none, .bin .lss (.r 2) (.r 0)⟩,
  ⟨(some 4), none, .mv (.r 0)⟩]
def i_Route_1_2 : AC := .seq i_Route_1_3 .ret
def i_Route_1_0 : AC := .seq i_Route_1_1 i_Route_1_2
def rs_i_Route_1 : List ARes := [.t 4]
theorem cf_i_Route_1 : cfun Go.Proofs.Try.prog [0, 1, 2, 3, 4] Go.Proofs.Try.f23 = some (i_Route_1_0, rs_i_Route_1) := by kernel_rfl

/-! (*impl.heap[impl.reached]).put -/
def i_heap_i_reached_put_1 : AC := .ops [⟨(some 3), none, .box 49 (.v 1)⟩]
def i_heap_i_reached_put_3 : AC := .draw [⟨none, none, .mv (.v 0)⟩,
  ⟨none, none, .mv (.v 0)⟩,
  ⟨none, none, .nilck (.r 0)⟩,
  ⟨none, none, .fa 0 (.r 0)⟩,
  ⟨none, none, .ld (.r 0)⟩,
  ⟨none, none, .ldn 2 (.v 3)⟩,
  ⟨none, none, .mksl 49 2 1 [.int .i64 0, .int .i64 0] [(0, .r 0)]⟩,
  ⟨none, none, .app 49 2 16 (.r 2) (.r 0)⟩,
  ⟨none, none, .nilck (.r 7)⟩,
  ⟨none, none, .fa 0 (.r 0)⟩,
  ⟨none, none, .st 1 (.r 0) (.r 2)⟩] []
def i_heap_i_reached_put_5 : AC := .ops [⟨none, none, .mv (.v 0)⟩,
  ⟨none, none, .nilck (.r 0)⟩,
  ⟨none, none, .fa 0 (.r 0)⟩,
  ⟨none, none, .ld (.r 0)⟩,
  ⟨none, none, .len (.r 0)⟩,
  ⟨none, none, .bin .sub (.r 0) (.k (.int .i64 1))⟩,
  ⟨(some 4), none, .mv (.r 0)⟩]
def i_heap_i_reached_put_10 : AC := .ops [⟨none, none, .mv (.v 4)⟩,
  ⟨(some 23), none, .bin .gtr (.r 0) (.k (.int .i64 0))⟩]
def i_heap_i_reached_put_11 : AC := .cond (.v 23) .skip (.exit 0)
def i_heap_i_reached_put_9 : AC := .seq i_heap_i_reached_put_10 i_heap_i_reached_put_11
def i_heap_i_reached_put_14 : AC := .ops [⟨none, none, .mv (.v 4)⟩,
  ⟨none, none, .bin .sub (.r 0) (.k (.int .i64 1))⟩,
  ⟨none, none, .bin .quo (.r 0) (.k (.int .i64 2))⟩,
  ⟨(some 5), none, .mv (.r 0)⟩]
def i_heap_i_reached_put_17 : AC := .draw [⟨none, none, .mv (.v 0)⟩,
  ⟨none, none, .nilck (.r 0)⟩,
  ⟨none, none, .fa 1 (.r 0)⟩,
  ⟨none, none, .ld (.r 0)⟩,
  ⟨none, none, .mv (.v 0)⟩,
  ⟨none, none, .nilck (.r 0)⟩,
  ⟨none, none, .fa 0 (.r 0)⟩,
  ⟨none, none, .ld (.r 0)⟩,
  ⟨none, none, .mv (.v 4)⟩,
  ⟨none, none, .ia 2 (.r 1) (.r 0)⟩,
  ⟨none, none, .ldn 2 (.r 0)⟩,
  ⟨none, none, .mv (.v 0)⟩,
  ⟨none, none, .nilck (.r 0)⟩,
  ⟨none, none, .fa 0 (.r 0)⟩,
  ⟨none, none, .ld (.r 0)⟩,
  ⟨none, none, .mv (.v 5)⟩,
  ⟨none, none, .ia 2 (.r 1) (.r 0)⟩,
  ⟨none, none, .ldn 2 (.r 0)⟩,
  ⟨none, none, .callv (.r 14) [.r 7, .r 0]⟩,
  ⟨(some 46), none, .un .not (.r 0)⟩] []
def i_heap_i_reached_put_18 : AC := .cond (.v 46) .ret .skip
def i_heap_i_reached_put_16 : AC := .seq i_heap_i_reached_put_17 i_heap_i_reached_put_18
def i_heap_i_reached_put_20 : AC := .draw [⟨none, none, .mv (.v 0)⟩,
  ⟨none, none, .nilck (.r 0)⟩,
  ⟨none, none, .fa 0 (.r 0)⟩,
  ⟨none, none, .ld (.r 0)⟩,
  ⟨none, none, .mv (.v 4)⟩,
  ⟨none, none, .mv (.v 0)⟩,
  ⟨none, none, .nilck (.r 0)⟩,
  ⟨none, none, .fa 0 (.r 0)⟩,
  ⟨none, none, .ld (.r 0)⟩,
  ⟨none, none, .mv (.v 5)⟩,
  ⟨none, none, .mv (.v 0)⟩,
  ⟨none, none, .nilck (.r 0)⟩,
  ⟨none, none, .fa 0 (.r 0)⟩,
  ⟨none, none, .ld (.r 0)⟩,
  ⟨none, none, .mv (.v 5)⟩,
  ⟨none, none, .ia 2 (.r 1) (.r 0)⟩,
  ⟨none, none, .ldn 2 (.r 0)⟩,
  ⟨none, none, .mv (.v 0)⟩,
  ⟨none, none, .nilck (.r 0)⟩,
  ⟨none, none, .fa 0 (.r 0)⟩,
  ⟨none, none, .ld (.r 0)⟩,
  ⟨none, none, .mv (.v 4)⟩,
  ⟨none, none, .ia 2 (.r 1) (.r 0)⟩,
  ⟨none, none, .ldn 2 (.r 0)⟩,
  ⟨none, none, .ia 2 (.r 20) (.r 19)⟩,
  ⟨none, none, .st 2 (.r 0) (.r 8)⟩,
  ⟨none, none, .ia 2 (.r 17) (.r 16)⟩,
  ⟨none, none, .st 2 (.r 0) (.r 3)⟩] []
def i_heap_i_reached_put_21 : AC := .ops [⟨none, none, .mv (.v 5)⟩,
  ⟨(some 4), none, .mv (.r 0)⟩]
def i_heap_i_reached_put_19 : AC := .seq i_heap_i_reached_put_20 i_heap_i_reached_put_21
def i_heap_i_reached_put_15 : AC := .seq i_heap_i_reached_put_16 i_heap_i_reached_put_19
def i_heap_i_reached_put_13 : AC := .seq i_heap_i_reached_put_14 i_heap_i_reached_put_15
def i_heap_i_reached_put_12 : AC := .block 1 i_heap_i_reached_put_13
def i_heap_i_reached_put_8 : AC := .seq i_heap_i_reached_put_9 i_heap_i_reached_put_12
def i_heap_i_reached_put_7 : AC := .loop i_heap_i_reached_put_8
def i_heap_i_reached_put_6 : AC := .block 0 i_heap_i_reached_put_7
def i_heap_i_reached_put_4 : AC := .seq i_heap_i_reached_put_5 i_heap_i_reached_put_6
def i_heap_i_reached_put_2 : AC := .seq i_heap_i_reached_put_3 i_heap_i_reached_put_4
def i_heap_i_reached_put_0 : AC := .seq i_heap_i_reached_put_1 i_heap_i_reached_put_2
def rs_i_heap_i_reached_put : List ARes := []
theorem cf_i_heap_i_reached_put : cfun Go.Proofs.Try.prog [0, 1, 3, 4, 5, 23, 46] Go.Proofs.Try.f24 = some (i_heap_i_reached_put_0, rs_i_heap_i_reached_put) := by kernel_rfl

/-! (*impl.heap[impl.reached]).take -/
def i_heap_i_reached_take_1 : AC := .ops [⟨(some 2), none, .alloc 49 [.int .i64 0, .int .i64 0]⟩]
def i_heap_i_reached_take_3 : AC := .ops [⟨none, none, .mv (.v 0)⟩,
  ⟨none, none, .nilck (.r 0)⟩,
  ⟨none, none, .fa 0 (.r 0)⟩,
  ⟨none, none, .ld (.r 0)⟩,
  ⟨none, none, .ia 2 (.r 0) (.k (.int .i64 0))⟩,
  ⟨none, none, .ldn 2 (.r 0)⟩,
  ⟨(some 3), none, .alloc 49 [.int .i64 0, .int .i64 0]⟩,
  ⟨none, none, .st 2 (.r 0) (.r 1)⟩]
def i_heap_i_reached_take_5 : AC := .ops [⟨none, none, .mv (.v 0)⟩,
  ⟨none, none, .nilck (.r 0)⟩,
  ⟨none, none, .fa 0 (.r 0)⟩,
  ⟨none, none, .ld (.r 0)⟩,
  ⟨none, none, .len (.r 0)⟩,
  ⟨none, none, .bin .sub (.r 0) (.k (.int .i64 1))⟩,
  ⟨(some 4), none, .mv (.r 0)⟩]
def i_heap_i_reached_take_7 : AC := .draw [⟨none, none, .mv (.v 0)⟩,
  ⟨none, none, .nilck (.r 0)⟩,
  ⟨none, none, .fa 0 (.r 0)⟩,
  ⟨none, none, .ld (.r 0)⟩,
  ⟨none, none, .mv (.v 0)⟩,
  ⟨none, none, .nilck (.r 0)⟩,
  ⟨none, none, .fa 0 (.r 0)⟩,
  ⟨none, none, .ld (.r 0)⟩,
  ⟨none, none, .mv (.v 4)⟩,
  ⟨none, none, .ia 2 (.r 1) (.r 0)⟩,
  ⟨none, none, .ldn 2 (.r 0)⟩,
  ⟨none, none, .ia 2 (.r 7) (.k (.int .i64 0))⟩,
  ⟨none, none, .st 2 (.r 0) (.r 1)⟩] []
def i_heap_i_reached_take_9 : AC := .ops [⟨none, none, .mv (.v 0)⟩,
  ⟨none, none, .mv (.v 0)⟩,
  ⟨none, none, .nilck (.r 0)⟩,
  ⟨none, none, .fa 0 (.r 0)⟩,
  ⟨none, none, .ld (.r 0)⟩,
  ⟨none, none, .mv (.v 4)⟩,
  ⟨none, none, .slc 49 2 (.r 1) none (some (.r 0))⟩,
  ⟨none, none, .nilck (.r 6)⟩,
  ⟨none, none, .fa 0 (.r 0)⟩,
  ⟨none, none, .st 1 (.r 0) (.r 2)⟩]
def i_heap_i_reached_take_11 : AC := .ops [⟨(some 5), none, .mv (.k (.int .i64 0))⟩]
def i_heap_i_reached_take_16 : AC := .ops [⟨none, none, .mv (.v 5)⟩,
  ⟨(some 6), none, .mv (.r 0)⟩]
def i_heap_i_reached_take_19 : AC := .ops [⟨none, none, .mv (.v 5)⟩,
  ⟨none, none, .bin .mul (.k (.int .i64 2)) (.r 0)⟩,
  ⟨none, none, .bin .add (.r 0) (.k (.int .i64 1))⟩,
  ⟨(some 7), none, .mv (.r 0)⟩]
def i_heap_i_reached_take_24 : AC := .ops [⟨none, none, .mv (.v 7)⟩,
  ⟨none, none, .mv (.v 5)⟩,
  ⟨none, none, .bin .mul (.k (.int .i64 2)) (.r 0)⟩,
  ⟨none, none, .bin .add (.r 0) (.k (.int .i64 2))⟩,
  ⟨none, none, .bin .leq (.r 3) (.r 0)⟩,
  ⟨none, none, .mv (.r 0)⟩,
  ⟨none, (some (0, true)), .mv (.v 7)⟩,
  ⟨none, (some (1, true)), .mv (.v 4)⟩,
  ⟨none, (some (2, true)), .bin .lss (.r 1) (.r 0)⟩,
  ⟨(some 54), none, .pick (.r 3) (.r 0) (.k (.bool false))⟩]
def i_heap_i_reached_take_25 : AC := .cond (.v 54) .skip (.exit 2)
def i_heap_i_reached_take_23 : AC := .seq i_heap_i_reached_take_24 i_heap_i_reached_take_25
def i_heap_i_reached_take_29 : AC := .draw [⟨none, none, .mv (.v 0)⟩,
  ⟨none, none, .nilck (.r 0)⟩,
  ⟨none, none, .fa 1 (.r 0)⟩,
  ⟨none, none, .ld (.r 0)⟩,
  ⟨none, none, .mv (.v 0)⟩,
  ⟨none, none, .nilck (.r 0)⟩,
  ⟨none, none, .fa 0 (.r 0)⟩,
  ⟨none, none, .ld (.r 0)⟩,
  ⟨none, none, .mv (.v 7)⟩,
  ⟨none, none, .ia 2 (.r 1) (.r 0)⟩,
  ⟨none, none, .ldn 2 (.r 0)⟩,
  ⟨none, none, .mv (.v 0)⟩,
  ⟨none, none, .nilck (.r 0)⟩,
  ⟨none, none, .fa 0 (.r 0)⟩,
  ⟨none, none, .ld (.r 0)⟩,
  ⟨none, none, .mv (.v 6)⟩,
  ⟨none, none, .ia 2 (.r 1) (.r 0)⟩,
  ⟨none, none, .ldn 2 (.r 0)⟩,
  ⟨(some 75), none, .callv (.r 14) [.r 7, .r 0]⟩] []
def i_heap_i_reached_take_31 : AC := .ops [⟨none, none, .mv (.v 7)⟩,
  ⟨(some 6), none, .mv (.r 0)⟩]
def i_heap_i_reached_take_30 : AC := .cond (.v 75) i_heap_i_reached_take_31 .skip
def i_heap_i_reached_take_28 : AC := .seq i_heap_i_reached_take_29 i_heap_i_reached_take_30
def i_heap_i_reached_take_27 : AC := .block 3 i_heap_i_reached_take_28
def i_heap_i_reached_take_32 : AC := .ops [⟨none, none, .mv (.v 7)⟩,
  ⟨none, none, .bin .add (.r 0) (.k (.int .i64 1))⟩,
  ⟨(some 7), none, .mv (.r 0)⟩]
def i_heap_i_reached_take_26 : AC := .seq i_heap_i_reached_take_27 i_heap_i_reached_take_32
def i_heap_i_reached_take_22 : AC := .seq i_heap_i_reached_take_23 i_heap_i_reached_take_26
def i_heap_i_reached_take_21 : AC := .loop i_heap_i_reached_take_22
def i_heap_i_reached_take_20 : AC := .block 2 i_heap_i_reached_take_21
def i_heap_i_reached_take_18 : AC := .seq i_heap_i_reached_take_19 i_heap_i_reached_take_20
def i_heap_i_reached_take_35 : AC := .ops [⟨none, none, .mv (.v 6)⟩,
  ⟨none, none, .mv (.v 5)⟩,
  ⟨(some 79), none, .bin .eql (.r 1) (.r 0)⟩]
def i_heap_i_reached_take_38 : AC := .ops [⟨none, none, .ldn 2 (.v 3)⟩,
  ⟨none, none, .st 2 (.v 2) (.r 0)⟩]
def i_heap_i_reached_take_37 : AC := .seq i_heap_i_reached_take_38 .ret
def i_heap_i_reached_take_36 : AC := .cond (.v 79) i_heap_i_reached_take_37 .skip
def i_heap_i_reached_take_34 : AC := .seq i_heap_i_reached_take_35 i_heap_i_reached_take_36
def i_heap_i_reached_take_40 : AC := .draw [⟨none, none, .mv (.v 0)⟩,
  ⟨none, none, .nilck (.r 0)⟩,
  ⟨none, none, .fa 0 (.r 0)⟩,
  ⟨none, none, .ld (.r 0)⟩,
  ⟨none, none, .mv (.v 5)⟩,
  ⟨none, none, .mv (.v 0)⟩,
  ⟨none, none, .nilck (.r 0)⟩,
  ⟨none, none, .fa 0 (.r 0)⟩,
  ⟨none, none, .ld (.r 0)⟩,
  ⟨none, none, .mv (.v 6)⟩,
  ⟨none, none, .mv (.v 0)⟩,
  ⟨none, none, .nilck (.r 0)⟩,
  ⟨none, none, .fa 0 (.r 0)⟩,
  ⟨none, none, .ld (.r 0)⟩,
  ⟨none, none, .mv (.v 6)⟩,
  ⟨none, none, .ia 2 (.r 1) (.r 0)⟩,
  ⟨none, none, .ldn 2 (.r 0)⟩,
  ⟨none, none, .mv (.v 0)⟩,
  ⟨none, none, .nilck (.r 0)⟩,
  ⟨none, none, .fa 0 (.r 0)⟩,
  ⟨none, none, .ld (.r 0)⟩,
  ⟨none, none, .mv (.v 5)⟩,
  ⟨none, none, .ia 2 (.r 1) (.r 0)⟩,
  ⟨none, none, .ldn 2 (.r 0)⟩,
  ⟨none, none, .ia 2 (.r 20) (.r 19)⟩,
  ⟨none, none, .st 2 (.r 0) (.r 8)⟩,
  ⟨none, none, .ia 2 (.r 17) (.r 16)⟩,
  ⟨none, none, .st 2 (.r 0) (.r 3)⟩] []
def i_heap_i_reached_take_41 : AC := .ops [⟨none, none, .mv (.v 6)⟩,
  ⟨(some 5), none, .mv (.r 0)⟩]
def i_heap_i_reached_take_39 : AC := .seq i_heap_i_reached_take_40 i_heap_i_reached_take_41
def i_heap_i_reached_take_33 : AC := .seq i_heap_i_reached_take_34 i_heap_i_reached_take_39
def i_heap_i_reached_take_17 : AC := .seq i_heap_i_reached_take_18 i_heap_i_reached_take_33
def i_heap_i_reached_take_15 : AC := .seq i_heap_i_reached_take_16 i_heap_i_reached_take_17
def i_heap_i_reached_take_14 : AC := .block 1 i_heap_i_reached_take_15
def i_heap_i_reached_take_13 : AC := .loop i_heap_i_reached_take_14
def i_heap_i_reached_take_12 : AC := .block 0 i_heap_i_reached_take_13
def i_heap_i_reached_take_10 : AC := .seq i_heap_i_reached_take_11 i_heap_i_reached_take_12
def i_heap_i_reached_take_8 : AC := .seq i_heap_i_reached_take_9 i_heap_i_reached_take_10
def i_heap_i_reached_take_6 : AC := .seq i_heap_i_reached_take_7 i_heap_i_reached_take_8
def i_heap_i_reached_take_4 : AC := .seq i_heap_i_reached_take_5 i_heap_i_reached_take_6
def i_heap_i_reached_take_2 : AC := .seq i_heap_i_reached_take_3 i_heap_i_reached_take_4
def i_heap_i_reached_take_0 : AC := .seq i_heap_i_reached_take_1 i_heap_i_reached_take_2
def rs_i_heap_i_reached_take : List ARes := [.cn 2 2]
theorem cf_i_heap_i_reached_take : cfun Go.Proofs.Try.prog [0, 2, 3, 4, 5, 6, 7, 54, 75, 79] Go.Proofs.Try.f25 = some (i_heap_i_reached_take_0, rs_i_heap_i_reached_take) := by kernel_rfl

/-! spec.Reverse -/
def s_Reverse_1 : AC := .ops [⟨(some 1), none, .box 28 (.v 0)⟩,
  ⟨(some 2), none, .alloc 28 [.int .i64 0, .slice none 0 0, .slice none 0 0, .slice none 0 0, .slice none 0 0]⟩,
  ⟨(some 3), none, .mv (.k (.int .i64 0))⟩]
def s_Reverse_4 : AC := .ops [⟨none, none, .ldn 5 (.v 1)⟩,
  ⟨none, none, .call 17 [.r 0]⟩,
  ⟨(some 10), none, .un .not (.r 0)⟩]
def s_Reverse_7 : AC := .ops [⟨none, none, .build [.int .i64 0, .slice none 0 0, .slice none 0 0, .slice none 0 0, .slice none 0 0] [(0, 1), (1, 1), (2, 1), (3, 1), (4, 1)] []⟩,
  ⟨none, none, .st 5 (.v 2) (.r 0)⟩,
  ⟨(some 3), none, .mv (.k (.int .i64 1))⟩]
def s_Reverse_6 : AC := .seq s_Reverse_7 .ret
def s_Reverse_5 : AC := .cond (.v 10) s_Reverse_6 .skip
def s_Reverse_3 : AC := .seq s_Reverse_4 s_Reverse_5
def s_Reverse_9 : AC := .ops [⟨none, none, .ldn 5 (.v 1)⟩,
  ⟨none, none, .call 18 [.r 0]⟩,
  ⟨(some 4), none, .mv (.r 0)⟩]
def s_Reverse_11 : AC := .ops [⟨(some 5), none, .mv (.k (.slice none 0 0))⟩]
def s_Reverse_14 : AC := .ops [⟨(some 6), none, .mv (.k (.int .i64 0))⟩]
def s_Reverse_19 : AC := .ops [⟨none, none, .mv (.v 6)⟩,
  ⟨none, none, .mv (.v 4)⟩,
  ⟨none, none, .len (.r 0)⟩,
  ⟨(some 17), none, .bin .lss (.r 2) (.r 0)⟩]
def s_Reverse_20 : AC := .cond (.v 17) .skip (.exit 0)
def s_Reverse_18 : AC := .seq s_Reverse_19 s_Reverse_20
def s_Reverse_24 : AC := .ops [⟨none, none, .mv (.v 4)⟩,
  ⟨none, none, .mv (.v 6)⟩,
  ⟨none, none, .ia 4 (.r 1) (.r 0)⟩,
  ⟨none, none, .ldn 4 (.r 0)⟩,
  ⟨(some 7), none, .alloc 42 [.int .i64 0, .int .i64 0, .int .i64 0, .int .i64 0]⟩,
  ⟨none, none, .st 4 (.r 0) (.r 1)⟩]
def s_Reverse_25 : AC := .ops [⟨none, none, .mv (.v 5)⟩,
  ⟨none, none, .fa 1 (.v 7)⟩,
  ⟨none, none, .ld (.r 0)⟩,
  ⟨none, none, .fa 0 (.v 7)⟩,
  ⟨none, none, .ld (.r 0)⟩,
  ⟨none, none, .fa 2 (.v 7)⟩,
  ⟨none, none, .ld (.r 0)⟩,
  ⟨none, none, .fa 3 (.v 7)⟩,
  ⟨none, none, .ld (.r 0)⟩,
  ⟨none, none, .build [.int .i64 0, .int .i64 0, .int .i64 0, .int .i64 0] [(0, 1), (1, 1), (2, 1), (3, 1)] [(0, .r 6), (1, .r 4), (2, .r 2), (3, .r 0)]⟩,
  ⟨none, none, .mksl 42 4 1 [.int .i64 0, .int .i64 0, .int .i64 0, .int .i64 0] [(0, .r 0)]⟩,
  ⟨none, none, .app 42 4 32 (.r 10) (.r 0)⟩,
  ⟨(some 5), none, .mv (.r 0)⟩]
def s_Reverse_23 : AC := .seq s_Reverse_24 s_Reverse_25
def s_Reverse_22 : AC := .block 1 s_Reverse_23
def s_Reverse_26 : AC := .ops [⟨none, none, .mv (.v 6)⟩,
  ⟨none, none, .bin .add (.r 0) (.k (.int .i64 1))⟩,
  ⟨(some 6), none, .mv (.r 0)⟩]
def s_Reverse_21 : AC := .seq s_Reverse_22 s_Reverse_26
def s_Reverse_17 : AC := .seq s_Reverse_18 s_Reverse_21
def s_Reverse_16 : AC := .loop s_Reverse_17
def s_Reverse_15 : AC := .block 0 s_Reverse_16
def s_Reverse_13 : AC := .seq s_Reverse_14 s_Reverse_15
def s_Reverse_28 : AC := .ops [⟨none, none, .fa 0 (.v 1)⟩,
  ⟨none, none, .ld (.r 0)⟩,
  ⟨none, none, .mv (.v 5)⟩,
  ⟨none, none, .call 34 [.r 1, .r 0]⟩,
  ⟨none, none, .st 5 (.v 2) (.r 0)⟩,
  ⟨(some 3), none, .mv (.k (.int .i64 0))⟩]
def s_Reverse_27 : AC := .seq s_Reverse_28 .ret
def s_Reverse_12 : AC := .seq s_Reverse_13 s_Reverse_27
def s_Reverse_10 : AC := .seq s_Reverse_11 s_Reverse_12
def s_Reverse_8 : AC := .seq s_Reverse_9 s_Reverse_10
def s_Reverse_2 : AC := .seq s_Reverse_3 s_Reverse_8
def s_Reverse_0 : AC := .seq s_Reverse_1 s_Reverse_2
def rs_s_Reverse : List ARes := [.cn 2 5, .t 3]
theorem cf_s_Reverse : cfun Go.Proofs.Try.prog [0, 1, 2, 3, 4, 5, 6, 7, 10, 17] Go.Proofs.Try.f26 = some (s_Reverse_0, rs_s_Reverse) := by kernel_rfl

/-! spec.l5reach -/
def s_l5reach_1 : AC := .ops [⟨(some 6), none, .mv (.k (.slice none 0 0))⟩]
def s_l5reach_3 : AC := .ops [⟨none, none, .mv (.v 1)⟩,
  ⟨none, none, .mks 4 [.bool false] 1 (.r 0) (.r 0)⟩,
  ⟨(some 7), none, .mv (.r 0)⟩]
def s_l5reach_6 : AC := .ops [⟨(some 8), none, .mv (.k (.int .i64 0))⟩]
def s_l5reach_11 : AC := .ops [⟨none, none, .mv (.v 8)⟩,
  ⟨none, none, .mv (.v 2)⟩,
  ⟨none, none, .len (.r 0)⟩,
  ⟨(some 16), none, .bin .lss (.r 2) (.r 0)⟩]
def s_l5reach_12 : AC := .cond (.v 16) .skip (.exit 0)
def s_l5reach_10 : AC := .seq s_l5reach_11 s_l5reach_12
def s_l5reach_15 : AC := .ops [⟨none, none, .mv (.v 7)⟩,
  ⟨none, none, .mv (.v 2)⟩,
  ⟨none, none, .mv (.v 8)⟩,
  ⟨none, none, .ia 1 (.r 1) (.r 0)⟩,
  ⟨none, none, .ld (.r 0)⟩,
  ⟨none, none, .ia 1 (.r 4) (.r 0)⟩,
  ⟨none, none, .st 1 (.r 0) (.k (.bool true))⟩]
def s_l5reach_14 : AC := .block 1 s_l5reach_15
def s_l5reach_16 : AC := .ops [⟨none, none, .mv (.v 8)⟩,
  ⟨none, none, .bin .add (.r 0) (.k (.int .i64 1))⟩,
  ⟨(some 8), none, .mv (.r 0)⟩]
def s_l5reach_13 : AC := .seq s_l5reach_14 s_l5reach_16
def s_l5reach_9 : AC := .seq s_l5reach_10 s_l5reach_13
def s_l5reach_8 : AC := .loop s_l5reach_9
def s_l5reach_7 : AC := .block 0 s_l5reach_8
def s_l5reach_5 : AC := .seq s_l5reach_6 s_l5reach_7
def s_l5reach_21 : AC := .ops [⟨(some 9), none, .mv (.k (.bool false))⟩]
def s_l5reach_24 : AC := .ops [⟨(some 10), none, .mv (.k (.int .i64 0))⟩]
def s_l5reach_29 : AC := .ops [⟨none, none, .mv (.v 10)⟩,
  ⟨none, none, .mv (.v 0)⟩,
  ⟨none, none, .len (.r 0)⟩,
  ⟨(some 28), none, .bin .lss (.r 2) (.r 0)⟩]
def s_l5reach_30 : AC := .cond (.v 28) .skip (.exit 4)
def s_l5reach_28 : AC := .seq s_l5reach_29 s_l5reach_30
def s_l5reach_34 : AC := .ops [⟨none, none, .mv (.v 7)⟩,
  ⟨none, none, .mv (.v 0)⟩,
  ⟨none, none, .mv (.v 10)⟩,
  ⟨none, none, .ia 4 (.r 1) (.r 0)⟩,
  ⟨none, none, .fa 0 (.r 0)⟩,
  ⟨none, none, .ld (.r 0)⟩,
  ⟨none, none, .ia 1 (.r 5) (.r 0)⟩,
  ⟨none, none, .ld (.r 0)⟩,
  ⟨none, none, .mv (.r 0)⟩,
  ⟨none, (some (0, true)), .mv (.v 7)⟩,
  ⟨none, (some (1, true)), .mv (.v 0)⟩,
  ⟨none, (some (2, true)), .mv (.v 10)⟩,
  ⟨none, (some (3, true)), .ia 4 (.r 1) (.r 0)⟩,
  ⟨none, (some (4, true)), .fa 1 (.r 0)⟩,
  ⟨none, (some (5, true)), .ld (.r 0)⟩,
  ⟨none, (some (6, true)), .ia 1 (.r 5) (.r 0)⟩,
  ⟨none, (some (7, true)), .ld (.r 0)⟩,
  ⟨none, (some (8, true)), .un .not (.r 0)⟩,
  ⟨(some 49), none, .pick (.r 9) (.r 0) (.k (.bool false))⟩]
def s_l5reach_37 : AC := .ops [⟨none, none, .mv (.v 7)⟩,
  ⟨none, none, .mv (.v 0)⟩,
  ⟨none, none, .mv (.v 10)⟩,
  ⟨none, none, .ia 4 (.r 1) (.r 0)⟩,
  ⟨none, none, .fa 1 (.r 0)⟩,
  ⟨none, none, .ld (.r 0)⟩,
  ⟨none, none, .ia 1 (.r 5) (.r 0)⟩,
  ⟨none, none, .st 1 (.r 0) (.k (.bool true))⟩]
def s_l5reach_38 : AC := .ops [⟨(some 9), none, .mv (.k (.bool true))⟩]
def s_l5reach_36 : AC := .seq s_l5reach_37 s_l5reach_38
def s_l5reach_35 : AC := .cond (.v 49) s_l5reach_36 .skip
def s_l5reach_33 : AC := .seq s_l5reach_34 s_l5reach_35
def s_l5reach_32 : AC := .block 5 s_l5reach_33
def s_l5reach_39 : AC := .ops [⟨none, none, .mv (.v 10)⟩,
  ⟨none, none, .bin .add (.r 0) (.k (.int .i64 1))⟩,
  ⟨(some 10), none, .mv (.r 0)⟩]
def s_l5reach_31 : AC := .seq s_l5reach_32 s_l5reach_39
def s_l5reach_27 : AC := .seq s_l5reach_28 s_l5reach_31
def s_l5reach_26 : AC := .loop s_l5reach_27
def s_l5reach_25 : AC := .block 4 s_l5reach_26
def s_l5reach_23 : AC := .seq s_l5reach_24 s_l5reach_25
def s_l5reach_41 : AC := .ops [⟨none, none, .mv (.v 9)⟩,
  ⟨(some 58), none, .un .not (.r 0)⟩]
def s_l5reach_44 : AC := .ops [⟨none, none, .mv (.v 7)⟩,
  ⟨(some 6), none, .mv (.r 0)⟩]
def s_l5reach_43 : AC := .seq s_l5reach_44 .ret
def s_l5reach_42 : AC := .cond (.v 58) s_l5reach_43 .skip
def s_l5reach_40 : AC := .seq s_l5reach_41 s_l5reach_42
def s_l5reach_22 : AC := .seq s_l5reach_23 s_l5reach_40
def s_l5reach_20 : AC := .seq s_l5reach_21 s_l5reach_22
def s_l5reach_19 : AC := .block 3 s_l5reach_20
def s_l5reach_18 : AC := .loop s_l5reach_19
def s_l5reach_17 : AC := .block 2 s_l5reach_18
def s_l5reach_4 : AC := .seq s_l5reach_5 s_l5reach_17
def s_l5reach_2 : AC := .seq s_l5reach_3 s_l5reach_4
def s_l5reach_0 : AC := .seq s_l5reach_1 s_l5reach_2
def rs_s_l5reach : List ARes := [.t 6]
theorem cf_s_l5reach : cfun Go.Proofs.Try.prog [0, 1, 2, 6, 7, 8, 9, 10, 16, 28, 49, 58] Go.Proofs.Try.f27 = some (s_l5reach_0, rs_s_l5reach) := by kernel_rfl

/-! impl.Components$1 -/
def i_Components_1_1 : AC := .draw [⟨none, none, .ld (.v 2)⟩,
  ⟨none, none, .mv (.v 0)⟩,
  ⟨none, none, .ld (.v 3)⟩,
  ⟨none, none, .mv (.v 0)⟩,
  ⟨none, none, .ld (.v 1)⟩,
  ⟨none, none, .ld (.v 1)⟩,
  ⟨none, none, .ia 1 (.r 5) (.r 4)⟩,
  ⟨none, none, .st 1 (.r 0) (.r 2)⟩,
  ⟨none, none, .ia 1 (.r 5) (.r 4)⟩,
  ⟨none, none, .st 1 (.r 0) (.r 3)⟩] [(2, 7), (5, 7)]
def i_Components_1_3 : AC := .ops [⟨none, none, .ld (.v 1)⟩,
  ⟨none, none, .bin .add (.r 0) (.k (.int .i64 1))⟩,
  ⟨none, none, .st 1 (.v 1) (.r 0)⟩]
def i_Components_1_5 : AC := .ops [⟨none, none, .ld (.v 4)⟩,
  ⟨none, none, .mv (.v 0)⟩,
  ⟨none, none, .mksl 3 1 1 [.int .i64 0] [(0, .r 0)]⟩,
  ⟨none, none, .app 3 1 8 (.r 2) (.r 0)⟩,
  ⟨none, none, .st 1 (.v 4) (.r 0)⟩]
def i_Components_1_8 : AC := .draw [⟨none, none, .fa 2 (.v 5)⟩,
  ⟨none, none, .ld (.r 0)⟩,
  ⟨none, none, .fa 1 (.v 5)⟩,
  ⟨none, none, .ld (.r 0)⟩,
  ⟨none, none, .mv (.v 0)⟩,
  ⟨none, none, .ia 1 (.r 1) (.r 0)⟩,
  ⟨none, none, .ld (.r 0)⟩,
  ⟨none, none, .fa 1 (.v 5)⟩,
  ⟨none, none, .ld (.r 0)⟩,
  ⟨none, none, .mv (.v 0)⟩,
  ⟨none, none, .bin .add (.r 0) (.k (.int .i64 1))⟩,
  ⟨none, none, .ia 1 (.r 2) (.r 0)⟩,
  ⟨none, none, .ld (.r 0)⟩,
  ⟨(some 42), none, .slc 3 1 (.r 11) (some (.r 6)) (some (.r 0))⟩,
  ⟨(some 43), none, .len (.r 0)⟩,
  ⟨(some 44), none, .mv (.k (.int .i64 0))⟩] []
def i_Components_1_12 : AC := .ops [⟨(some 45), none, .bin .lss (.v 44) (.v 43)⟩]
def i_Components_1_14 : AC := .cond (.v 45) .skip (.exit 0)
def i_Components_1_18 : AC := .ops [⟨none, none, .ia 1 (.v 42) (.v 44)⟩,
  ⟨none, none, .ld (.r 0)⟩,
  ⟨(some 10), none, .mv (.r 0)⟩]
def i_Components_1_20 : AC := .ops [⟨none, none, .ld (.v 2)⟩,
  ⟨none, none, .mv (.v 10)⟩,
  ⟨none, none, .ia 1 (.r 1) (.r 0)⟩,
  ⟨none, none, .ld (.r 0)⟩,
  ⟨(some 52), none, .bin .eql (.r 0) (.k (.int .i64 0))⟩]
def i_Components_1_23 : AC := .ops [⟨none, none, .ld (.v 6)⟩,
  ⟨none, none, .mv (.v 10)⟩,
  ⟨none, none, .callv (.r 1) [.r 0]⟩]
def i_Components_1_24 : AC := .draw [⟨none, none, .ld (.v 3)⟩,
  ⟨none, none, .mv (.v 0)⟩,
  ⟨none, none, .ld (.v 3)⟩,
  ⟨none, none, .mv (.v 0)⟩,
  ⟨none, none, .ia 1 (.r 1) (.r 0)⟩,
  ⟨none, none, .ld (.r 0)⟩,
  ⟨none, none, .ld (.v 3)⟩,
  ⟨none, none, .mv (.v 10)⟩,
  ⟨none, none, .ia 1 (.r 1) (.r 0)⟩,
  ⟨none, none, .ld (.r 0)⟩,
  ⟨none, none, .mn [.r 4, .r 0]⟩,
  ⟨none, none, .ia 1 (.r 10) (.r 9)⟩,
  ⟨none, none, .st 1 (.r 0) (.r 1)⟩] []
def i_Components_1_22 : AC := .seq i_Components_1_23 i_Components_1_24
def i_Components_1_26 : AC := .ops [⟨none, none, .ld (.v 7)⟩,
  ⟨none, none, .mv (.v 10)⟩,
  ⟨none, none, .ia 1 (.r 1) (.r 0)⟩,
  ⟨none, none, .ld (.r 0)⟩,
  ⟨(some 72), none, .bin .lss (.r 0) (.k (.int .i64 0))⟩]
def i_Components_1_28 : AC := .draw [⟨none, none, .ld (.v 3)⟩,
  ⟨none, none, .mv (.v 0)⟩,
  ⟨none, none, .ld (.v 3)⟩,
  ⟨none, none, .mv (.v 0)⟩,
  ⟨none, none, .ia 1 (.r 1) (.r 0)⟩,
  ⟨none, none, .ld (.r 0)⟩,
  ⟨none, none, .ld (.v 2)⟩,
  ⟨none, none, .mv (.v 10)⟩,
  ⟨none, none, .ia 1 (.r 1) (.r 0)⟩,
  ⟨none, none, .ld (.r 0)⟩,
  ⟨none, none, .mn [.r 4, .r 0]⟩,
  ⟨none, none, .ia 1 (.r 10) (.r 9)⟩,
  ⟨none, none, .st 1 (.r 0) (.r 1)⟩] []
def i_Components_1_27 : AC := .cond (.v 72) i_Components_1_28 .skip
def i_Components_1_25 : AC := .seq i_Components_1_26 i_Components_1_27
def i_Components_1_21 : AC := .cond (.v 52) i_Components_1_22 i_Components_1_25
def i_Components_1_19 : AC := .seq i_Components_1_20 i_Components_1_21
def i_Components_1_17 : AC := .seq i_Components_1_18 i_Components_1_19
def i_Components_1_16 : AC := .block 1 i_Components_1_17
def i_Components_1_29 : AC := .ops [⟨none, none, .bin .add (.v 44) (.k (.int .i64 1))⟩,
  ⟨(some 44), none, .mv (.r 0)⟩]
def i_Components_1_15 : AC := .seq i_Components_1_16 i_Components_1_29
def i_Components_1_13 : AC := .seq i_Components_1_14 i_Components_1_15
def i_Components_1_11 : AC := .seq i_Components_1_12 i_Components_1_13
def i_Components_1_10 : AC := .loop i_Components_1_11
def i_Components_1_9 : AC := .block 0 i_Components_1_10
def i_Components_1_7 : AC := .seq i_Components_1_8 i_Components_1_9
def i_Components_1_32 : AC := .draw [⟨none, none, .ld (.v 3)⟩,
  ⟨none, none, .mv (.v 0)⟩,
  ⟨none, none, .ia 1 (.r 1) (.r 0)⟩,
  ⟨none, none, .ld (.r 0)⟩,
  ⟨none, none, .ld (.v 2)⟩,
  ⟨none, none, .mv (.v 0)⟩,
  ⟨none, none, .ia 1 (.r 1) (.r 0)⟩,
  ⟨none, none, .ld (.r 0)⟩,
  ⟨(some 94), none, .bin .neq (.r 4) (.r 0)⟩] []
def i_Components_1_33 : AC := .cond (.v 94) .ret .skip
def i_Components_1_31 : AC := .seq i_Components_1_32 i_Components_1_33
def i_Components_1_35 : AC := .ops [⟨none, none, .ld (.v 4)⟩,
  ⟨none, none, .mv (.v 0)⟩,
  ⟨none, none, .call 29 [.r 1, .r 0]⟩,
  ⟨(some 11), none, .mv (.r 0)⟩]
def i_Components_1_37 : AC := .ops [⟨none, none, .ld (.v 4)⟩,
  ⟨none, none, .mv (.v 11)⟩,
  ⟨none, none, .slc 3 1 (.r 1) (some (.r 0)) none⟩,
  ⟨none, none, .call 30 [.r 0]⟩,
  ⟨(some 12), none, .mv (.r 0)⟩]
def i_Components_1_40 : AC := .ops [⟨none, none, .ld (.v 4)⟩,
  ⟨none, none, .mv (.v 11)⟩,
  ⟨(some 104), none, .slc 3 1 (.r 1) (some (.r 0)) none⟩,
  ⟨(some 105), none, .len (.r 0)⟩,
  ⟨(some 106), none, .mv (.k (.int .i64 0))⟩]
def i_Components_1_44 : AC := .ops [⟨(some 107), none, .bin .lss (.v 106) (.v 105)⟩]
def i_Components_1_46 : AC := .cond (.v 107) .skip (.exit 2)
def i_Components_1_50 : AC := .ops [⟨none, none, .ia 1 (.v 104) (.v 106)⟩,
  ⟨none, none, .ld (.r 0)⟩,
  ⟨(some 14), none, .mv (.r 0)⟩]
def i_Components_1_51 : AC := .ops [⟨none, none, .ld (.v 7)⟩,
  ⟨none, none, .mv (.v 14)⟩,
  ⟨none, none, .mv (.v 12)⟩,
  ⟨none, none, .ia 1 (.r 2) (.r 1)⟩,
  ⟨none, none, .st 1 (.r 0) (.r 1)⟩]
def i_Components_1_49 : AC := .seq i_Components_1_50 i_Components_1_51
def i_Components_1_48 : AC := .block 3 i_Components_1_49
def i_Components_1_52 : AC := .ops [⟨none, none, .bin .add (.v 106) (.k (.int .i64 1))⟩,
  ⟨(some 106), none, .mv (.r 0)⟩]
def i_Components_1_47 : AC := .seq i_Components_1_48 i_Components_1_52
def i_Components_1_45 : AC := .seq i_Components_1_46 i_Components_1_47
def i_Components_1_43 : AC := .seq i_Components_1_44 i_Components_1_45
def i_Components_1_42 : AC := .loop i_Components_1_43
def i_Components_1_41 : AC := .block 2 i_Components_1_42
def i_Components_1_39 : AC := .seq i_Components_1_40 i_Components_1_41
def i_Components_1_53 : AC := .ops [⟨none, none, .ld (.v 4)⟩,
  ⟨none, none, .mv (.v 11)⟩,
  ⟨none, none, .slc 3 1 (.r 1) none (some (.r 0))⟩,
  ⟨none, none, .st 1 (.v 4) (.r 0)⟩]
def i_Components_1_38 : AC := .seq i_Components_1_39 i_Components_1_53
def i_Components_1_36 : AC := .seq i_Components_1_37 i_Components_1_38
def i_Components_1_34 : AC := .seq i_Components_1_35 i_Components_1_36
def i_Components_1_30 : AC := .seq i_Components_1_31 i_Components_1_34
def i_Components_1_6 : AC := .seq i_Components_1_7 i_Components_1_30
def i_Components_1_4 : AC := .seq i_Components_1_5 i_Components_1_6
def i_Components_1_2 : AC := .seq i_Components_1_3 i_Components_1_4
def i_Components_1_0 : AC := .seq i_Components_1_1 i_Components_1_2
def rs_i_Components_1 : List ARes := []
theorem cf_i_Components_1 : cfun Go.Proofs.Try.prog [0, 1, 2, 3, 4, 5, 6, 7, 10, 11, 12, 14, 42, 43, 44, 45, 52, 72, 94, 104, 105, 106, 107] Go.Proofs.Try.f28 = some (i_Components_1_0, rs_i_Components_1) := by kernel_rfl

/-! slices.Index[[]int,int] -/
def slices_Index_int_int_1 : AC := .ops [⟨(some 4), none, .mv (.k (.int .i64 0))⟩]
def slices_Index_int_int_4 : AC := .ops [⟨none, none, .mv (.v 0)⟩,
  ⟨(some 7), none, .len (.r 0)⟩,
  ⟨(some 8), none, .mv (.k (.int .i64 0))⟩]
def slices_Index_int_int_8 : AC := .ops [⟨(some 9), none, .bin .lss (.v 8) (.v 7)⟩]
def slices_Index_int_int_10 : AC := .cond (.v 9) .skip (.exit 0)
def slices_Index_int_int_14 : AC := .ops [⟨none, none, .mv (.v 8)⟩,
  ⟨(some 5), none, .mv (.r 0)⟩]
def slices_Index_int_int_16 : AC := .ops [⟨none, none, .mv (.v 1)⟩,
  ⟨none, none, .mv (.v 0)⟩,
  ⟨none, none, .mv (.v 5)⟩,
  ⟨none, none, .ia 1 (.r 1) (.r 0)⟩,
  ⟨none, none, .ld (.r 0)⟩,
  ⟨(some 16), none, .bin .eql (.r 4) (.r 0)⟩]
def slices_Index_int_int_19 : AC := .ops [⟨none, none, .mv (.v 5)⟩,
  ⟨(some 4), none, .mv (.r 0)⟩]
def slices_Index_int_int_18 : AC := .seq slices_Index_int_int_19 .ret
def slices_Index_int_int_17 : AC := .cond (.v 16) slices_Index_int_int_18 .skip
def slices_Index_int_int_15 : AC := .seq slices_Index_int_int_16 slices_Index_int_int_17
def slices_Index_int_int_13 : AC := .seq slices_Index_int_int_14 slices_Index_int_int_15
def slices_Index_int_int_12 : AC := .block 1 slices_Index_int_int_13
def slices_Index_int_int_20 : AC := .ops [⟨none, none, .bin .add (.v 8) (.k (.int .i64 1))⟩,
  ⟨(some 8), none, .mv (.r 0)⟩]
def slices_Index_int_int_11 : AC := .seq slices_Index_int_int_12 slices_Index_int_int_20
def slices_Index_int_int_9 : AC := .seq slices_Index_int_int_10 slices_Index_int_int_11
def slices_Index_int_int_7 : AC := .seq slices_Index_int_int_8 slices_Index_int_int_9
def slices_Index_int_int_6 : AC := .loop slices_Index_int_int_7
def slices_Index_int_int_5 : AC := .block 0 slices_Index_int_int_6
def slices_Index_int_int_3 : AC := .seq slices_Index_int_int_4 slices_Index_int_int_5
def slices_Index_int_int_22 : AC := .ops [⟨(some 4), none, .mv (.k (.int .i64 (-1)))⟩]
def slices_Index_int_int_21 : AC := .seq slices_Index_int_int_22 .ret
def slices_Index_int_int_2 : AC := .seq slices_Index_int_int_3 slices_Index_int_int_21
def slices_Index_int_int_0 : AC := .seq slices_Index_int_int_1 slices_Index_int_int_2
def rs_slices_Index_int_int : List ARes := [.t 4]
theorem cf_slices_Index_int_int : cfun Go.Proofs.Try.prog [0, 1, 4, 5, 7, 8, 9, 16] Go.Proofs.Try.f29 = some (slices_Index_int_int_0, rs_slices_Index_int_int) := by kernel_rfl

/-! slices.Min[[]int,int] -/
def slices_Min_int_int_1 : AC := .ops [⟨(some 2), none, .mv (.k (.int .i64 0))⟩]
def slices_Min_int_int_4 : AC := .ops [⟨none, none, .mv (.v 0)⟩,
  ⟨none, none, .len (.r 0)⟩,
  ⟨(some 7), none, .bin .lss (.r 0) (.k (.int .i64 1))⟩]
def slices_Min_int_int_6 : AC := .ops [⟨none, none, .ifc 9 (.k (.string ⟨#[115, 108, 105, 99, 101, 115, 46, 77, 105, 110, 58, 32, 101, 109, 112, 116, 121, 32, 108, 105, 115, 116]⟩))⟩,
  ⟨none, none, .bad⟩]
def slices_Min_int_int_5 : AC := .cond (.v 7) slices_Min_int_int_6 .skip
def slices_Min_int_int_3 : AC := .seq slices_Min_int_int_4 slices_Min_int_int_5
def slices_Min_int_int_8 : AC := .ops [⟨none, none, .mv (.v 0)⟩,
  ⟨none, none, .ia 1 (.r 0) (.k (.int .i64 0))⟩,
  ⟨none, none, .ld (.r 0)⟩,
  ⟨(some 3), none, .mv (.r 0)⟩]
def slices_Min_int_int_11 : AC := .ops [⟨(some 4), none, .mv (.k (.int .i64 1))⟩]
def slices_Min_int_int_16 : AC := .ops [⟨none, none, .mv (.v 4)⟩,
  ⟨none, none, .mv (.v 0)⟩,
  ⟨none, none, .len (.r 0)⟩,
  ⟨(some 15), none, .bin .lss (.r 2) (.r 0)⟩]
def slices_Min_int_int_17 : AC := .cond (.v 15) .skip (.exit 0)
def slices_Min_int_int_15 : AC := .seq slices_Min_int_int_16 slices_Min_int_int_17
def slices_Min_int_int_20 : AC := .ops [⟨none, none, .mv (.v 3)⟩,
  ⟨none, none, .mv (.v 0)⟩,
  ⟨none, none, .mv (.v 4)⟩,
  ⟨none, none, .ia 1 (.r 1) (.r 0)⟩,
  ⟨none, none, .ld (.r 0)⟩,
  ⟨none, none, .mn [.r 4, .r 0]⟩,
  ⟨(some 3), none, .mv (.r 0)⟩]
def slices_Min_int_int_19 : AC := .block 1 slices_Min_int_int_20
def slices_Min_int_int_21 : AC := .ops [⟨none, none, .mv (.v 4)⟩,
  ⟨none, none, .bin .add (.r 0) (.k (.int .i64 1))⟩,
  ⟨(some 4), none, .mv (.r 0)⟩]
def slices_Min_int_int_18 : AC := .seq slices_Min_int_int_19 slices_Min_int_int_21
def slices_Min_int_int_14 : AC := .seq slices_Min_int_int_15 slices_Min_int_int_18
def slices_Min_int_int_13 : AC := .loop slices_Min_int_int_14
def slices_Min_int_int_12 : AC := .block 0 slices_Min_int_int_13
def slices_Min_int_int_10 : AC := .seq slices_Min_int_int_11 slices_Min_int_int_12
def slices_Min_int_int_23 : AC := .ops [⟨none, none, .mv (.v 3)⟩,
  ⟨(some 2), none, .mv (.r 0)⟩]
def slices_Min_int_int_22 : AC := .seq slices_Min_int_int_23 .ret
def slices_Min_int_int_9 : AC := .seq slices_Min_int_int_10 slices_Min_int_int_22
def slices_Min_int_int_7 : AC := .seq slices_Min_int_int_8 slices_Min_int_int_9
def slices_Min_int_int_2 : AC := .seq slices_Min_int_int_3 slices_Min_int_int_7
def slices_Min_int_int_0 : AC := .seq slices_Min_int_int_1 slices_Min_int_int_2
def rs_slices_Min_int_int : List ARes := [.t 2]
theorem cf_slices_Min_int_int : cfun Go.Proofs.Try.prog [0, 2, 3, 4, 7, 15] Go.Proofs.Try.f30 = some (slices_Min_int_int_0, rs_slices_Min_int_int) := by kernel_rfl

/-! slices.IsSorted[[]int,int] -/
def slices_IsSorted_int_int_1 : AC := .ops [⟨(some 2), none, .mv (.k (.bool false))⟩]
def slices_IsSorted_int_int_4 : AC := .ops [⟨none, none, .mv (.v 0)⟩,
  ⟨none, none, .len (.r 0)⟩,
  ⟨none, none, .bin .sub (.r 0) (.k (.int .i64 1))⟩,
  ⟨(some 3), none, .mv (.r 0)⟩]
def slices_IsSorted_int_int_9 : AC := .ops [⟨none, none, .mv (.v 3)⟩,
  ⟨(some 8), none, .bin .gtr (.r 0) (.k (.int .i64 0))⟩]
def slices_IsSorted_int_int_10 : AC := .cond (.v 8) .skip (.exit 0)
def slices_IsSorted_int_int_8 : AC := .seq slices_IsSorted_int_int_9 slices_IsSorted_int_int_10
def slices_IsSorted_int_int_14 : AC := .draw [⟨none, none, .mv (.v 0)⟩,
  ⟨none, none, .mv (.v 3)⟩,
  ⟨none, none, .ia 1 (.r 1) (.r 0)⟩,
  ⟨none, none, .ld (.r 0)⟩,
  ⟨none, none, .mv (.v 0)⟩,
  ⟨none, none, .mv (.v 3)⟩,
  ⟨none, none, .bin .sub (.r 0) (.k (.int .i64 1))⟩,
  ⟨none, none, .ia 1 (.r 2) (.r 0)⟩,
  ⟨none, none, .ld (.r 0)⟩,
  ⟨(some 20), none, .call 35 [.r 5, .r 0]⟩] []
def slices_IsSorted_int_int_17 : AC := .ops [⟨(some 2), none, .mv (.k (.bool false))⟩]
def slices_IsSorted_int_int_16 : AC := .seq slices_IsSorted_int_int_17 .ret
def slices_IsSorted_int_int_15 : AC := .cond (.v 20) slices_IsSorted_int_int_16 .skip
def slices_IsSorted_int_int_13 : AC := .seq slices_IsSorted_int_int_14 slices_IsSorted_int_int_15
def slices_IsSorted_int_int_12 : AC := .block 1 slices_IsSorted_int_int_13
def slices_IsSorted_int_int_18 : AC := .ops [⟨none, none, .mv (.v 3)⟩,
  ⟨none, none, .bin .sub (.r 0) (.k (.int .i64 1))⟩,
  ⟨(some 3), none, .mv (.r 0)⟩]
def slices_IsSorted_int_int_11 : AC := .seq slices_IsSorted_int_int_12 slices_IsSorted_int_int_18
def slices_IsSorted_int_int_7 : AC := .seq slices_IsSorted_int_int_8 slices_IsSorted_int_int_11
def slices_IsSorted_int_int_6 : AC := .loop slices_IsSorted_int_int_7
def slices_IsSorted_int_int_5 : AC := .block 0 slices_IsSorted_int_int_6
def slices_IsSorted_int_int_3 : AC := .seq slices_IsSorted_int_int_4 slices_IsSorted_int_int_5
def slices_IsSorted_int_int_20 : AC := .ops [⟨(some 2), none, .mv (.k (.bool true))⟩]
def slices_IsSorted_int_int_19 : AC := .seq slices_IsSorted_int_int_20 .ret
def slices_IsSorted_int_int_2 : AC := .seq slices_IsSorted_int_int_3 slices_IsSorted_int_int_19
def slices_IsSorted_int_int_0 : AC := .seq slices_IsSorted_int_int_1 slices_IsSorted_int_int_2
def rs_slices_IsSorted_int_int : List ARes := [.t 2]
theorem cf_slices_IsSorted_int_int : cfun Go.Proofs.Try.prog [0, 2, 3, 8, 20] Go.Proofs.Try.f31 = some (slices_IsSorted_int_int_0, rs_slices_IsSorted_int_int) := by kernel_rfl

/-! (*impl.Graph).add -/
def i_Graph_add_1 : AC := .ops [⟨none, none, .mv (.v 0)⟩,
  ⟨none, none, .mv (.v 0)⟩,
  ⟨none, none, .nilck (.r 0)⟩,
  ⟨none, none, .fa 2 (.r 0)⟩,
  ⟨none, none, .ld (.r 0)⟩,
  ⟨none, none, .mv (.v 1)⟩,
  ⟨none, none, .mksl 3 1 1 [.int .i64 0] [(0, .r 0)]⟩,
  ⟨none, none, .app 3 1 8 (.r 2) (.r 0)⟩,
  ⟨none, none, .nilck (.r 7)⟩,
  ⟨none, none, .fa 2 (.r 0)⟩,
  ⟨none, none, .st 1 (.r 0) (.r 2)⟩]
def i_Graph_add_3 : AC := .ops [⟨none, none, .mv (.v 0)⟩,
  ⟨none, none, .mv (.v 0)⟩,
  ⟨none, none, .nilck (.r 0)⟩,
  ⟨none, none, .fa 3 (.r 0)⟩,
  ⟨none, none, .ld (.r 0)⟩,
  ⟨none, none, .mv (.v 2)⟩,
  ⟨none, none, .mksl 3 1 1 [.int .i64 0] [(0, .r 0)]⟩,
  ⟨none, none, .app 3 1 8 (.r 2) (.r 0)⟩,
  ⟨none, none, .nilck (.r 7)⟩,
  ⟨none, none, .fa 3 (.r 0)⟩,
  ⟨none, none, .st 1 (.r 0) (.r 2)⟩]
def i_Graph_add_4 : AC := .ops [⟨none, none, .mv (.v 0)⟩,
  ⟨none, none, .mv (.v 0)⟩,
  ⟨none, none, .nilck (.r 0)⟩,
  ⟨none, none, .fa 4 (.r 0)⟩,
  ⟨none, none, .ld (.r 0)⟩,
  ⟨none, none, .mv (.v 3)⟩,
  ⟨none, none, .mksl 3 1 1 [.int .i64 0] [(0, .r 0)]⟩,
  ⟨none, none, .app 3 1 8 (.r 2) (.r 0)⟩,
  ⟨none, none, .nilck (.r 7)⟩,
  ⟨none, none, .fa 4 (.r 0)⟩,
  ⟨none, none, .st 1 (.r 0) (.r 2)⟩]
def i_Graph_add_2 : AC := .seq i_Graph_add_3 i_Graph_add_4
def i_Graph_add_0 : AC := .seq i_Graph_add_1 i_Graph_add_2
def rs_i_Graph_add : List ARes := []
theorem cf_i_Graph_add : cfun Go.Proofs.Try.prog [0, 1, 2, 3] Go.Proofs.Try.f32 = some (i_Graph_add_0, rs_i_Graph_add) := by kernel_rfl

/-! math/bits.Mul -/
def math_bits_Mul_1 : AC := .ops [⟨(some 4), none, .mv (.k (.int .u64 0))⟩,
  ⟨(some 5), none, .mv (.k (.int .u64 0))⟩]
def math_bits_Mul_5 : AC := .ops [⟨none, none, .mv (.v 0)⟩,
  ⟨none, none, .cvi .u32 (.r 0)⟩,
  ⟨none, none, .mv (.v 1)⟩,
  ⟨none, none, .cvi .u32 (.r 0)⟩,
  ⟨none, none, .call 36 [.r 2, .r 0]⟩,
  ⟨none, none, .mv (.r 0)⟩,
  ⟨none, none, .ext 0 (.r 0)⟩,
  ⟨none, none, .ext 1 (.r 1)⟩,
  ⟨(some 6), none, .mv (.r 1)⟩,
  ⟨(some 7), none, .mv (.r 1)⟩]
def math_bits_Mul_7 : AC := .ops [⟨none, none, .mv (.v 6)⟩,
  ⟨none, none, .cvi .u64 (.r 0)⟩,
  ⟨none, none, .mv (.v 7)⟩,
  ⟨none, none, .cvi .u64 (.r 0)⟩,
  ⟨(some 4), none, .mv (.r 2)⟩,
  ⟨(some 5), none, .mv (.r 1)⟩]
def math_bits_Mul_6 : AC := .seq math_bits_Mul_7 .ret
def math_bits_Mul_4 : AC := .seq math_bits_Mul_5 math_bits_Mul_6
def math_bits_Mul_3 : AC := .cond (.k (.bool false)) math_bits_Mul_4 .skip
def math_bits_Mul_9 : AC := .ops [⟨none, none, .mv (.v 0)⟩,
  ⟨none, none, .mv (.v 1)⟩,
  ⟨none, none, .call 37 [.r 1, .r 0]⟩,
  ⟨none, none, .mv (.r 0)⟩,
  ⟨none, none, .ext 0 (.r 0)⟩,
  ⟨none, none, .ext 1 (.r 1)⟩,
  ⟨(some 8), none, .mv (.r 1)⟩,
  ⟨(some 9), none, .mv (.r 1)⟩]
def math_bits_Mul_11 : AC := .ops [⟨none, none, .mv (.v 8)⟩,
  ⟨none, none, .mv (.v 9)⟩,
  ⟨(some 4), none, .mv (.r 1)⟩,
  ⟨(some 5), none, .mv (.r 1)⟩]
def math_bits_Mul_10 : AC := .seq math_bits_Mul_11 .ret
def math_bits_Mul_8 : AC := .seq math_bits_Mul_9 math_bits_Mul_10
def math_bits_Mul_2 : AC := .seq math_bits_Mul_3 math_bits_Mul_8
def math_bits_Mul_0 : AC := .seq math_bits_Mul_1 math_bits_Mul_2
def rs_math_bits_Mul : List ARes := [.t 4, .t 5]
theorem cf_math_bits_Mul : cfun Go.Proofs.Try.prog [0, 1, 4, 5, 6, 7, 8, 9] Go.Proofs.Try.f33 = some (math_bits_Mul_0, rs_math_bits_Mul) := by kernel_rfl

/-! spec.l5graph -/
def s_l5graph_1 : AC := .ops [⟨(some 4), none, .alloc 28 [.int .i64 0, .slice none 0 0, .slice none 0 0, .slice none 0 0, .slice none 0 0]⟩]
def s_l5graph_3 : AC := .ops [⟨none, none, .mv (.v 0)⟩,
  ⟨none, none, .build [.int .i64 0, .slice none 0 0, .slice none 0 0, .slice none 0 0, .slice none 0 0] [(0, 1), (1, 1), (2, 1), (3, 1), (4, 1)] [(0, .r 0)]⟩,
  ⟨(some 5), none, .alloc 28 [.int .i64 0, .slice none 0 0, .slice none 0 0, .slice none 0 0, .slice none 0 0]⟩,
  ⟨none, none, .st 5 (.r 0) (.r 1)⟩]
def s_l5graph_5 : AC := .ops [⟨none, none, .mv (.v 0)⟩,
  ⟨none, none, .mks 39 [.slice none 0 0] 24 (.r 0) (.r 0)⟩,
  ⟨(some 6), none, .mv (.r 0)⟩]
def s_l5graph_8 : AC := .ops [⟨(some 7), none, .mv (.k (.int .i64 0))⟩]
def s_l5graph_13 : AC := .ops [⟨none, none, .mv (.v 7)⟩,
  ⟨none, none, .mv (.v 1)⟩,
  ⟨none, none, .len (.r 0)⟩,
  ⟨(some 18), none, .bin .lss (.r 2) (.r 0)⟩]
def s_l5graph_14 : AC := .cond (.v 18) .skip (.exit 0)
def s_l5graph_12 : AC := .seq s_l5graph_13 s_l5graph_14
def s_l5graph_18 : AC := .ops [⟨none, none, .mv (.v 1)⟩,
  ⟨none, none, .mv (.v 7)⟩,
  ⟨none, none, .ia 4 (.r 1) (.r 0)⟩,
  ⟨none, none, .fa 0 (.r 0)⟩,
  ⟨none, none, .ld (.r 0)⟩,
  ⟨(some 8), none, .mv (.r 0)⟩]
def s_l5graph_19 : AC := .draw [⟨none, none, .mv (.v 6)⟩,
  ⟨none, none, .mv (.v 8)⟩,
  ⟨none, none, .mv (.v 6)⟩,
  ⟨none, none, .mv (.v 8)⟩,
  ⟨none, none, .ia 1 (.r 1) (.r 0)⟩,
  ⟨none, none, .ld (.r 0)⟩,
  ⟨none, none, .mv (.v 1)⟩,
  ⟨none, none, .mv (.v 7)⟩,
  ⟨none, none, .ia 4 (.r 1) (.r 0)⟩,
  ⟨none, none, .ldn 4 (.r 0)⟩,
  ⟨none, none, .mksl 42 4 1 [.int .i64 0, .int .i64 0, .int .i64 0, .int .i64 0] [(0, .r 0)]⟩,
  ⟨none, none, .app 42 4 32 (.r 5) (.r 0)⟩,
  ⟨none, none, .ia 1 (.r 11) (.r 10)⟩,
  ⟨none, none, .st 1 (.r 0) (.r 1)⟩] []
def s_l5graph_17 : AC := .seq s_l5graph_18 s_l5graph_19
def s_l5graph_16 : AC := .block 1 s_l5graph_17
def s_l5graph_20 : AC := .ops [⟨none, none, .mv (.v 7)⟩,
  ⟨none, none, .bin .add (.r 0) (.k (.int .i64 1))⟩,
  ⟨(some 7), none, .mv (.r 0)⟩]
def s_l5graph_15 : AC := .seq s_l5graph_16 s_l5graph_20
def s_l5graph_11 : AC := .seq s_l5graph_12 s_l5graph_15
def s_l5graph_10 : AC := .loop s_l5graph_11
def s_l5graph_9 : AC := .block 0 s_l5graph_10
def s_l5graph_7 : AC := .seq s_l5graph_8 s_l5graph_9
def s_l5graph_23 : AC := .ops [⟨(some 9), none, .mv (.k (.int .i64 0))⟩]
def s_l5graph_28 : AC := .ops [⟨none, none, .mv (.v 9)⟩,
  ⟨none, none, .mv (.v 0)⟩,
  ⟨(some 41), none, .bin .lss (.r 1) (.r 0)⟩]
def s_l5graph_29 : AC := .cond (.v 41) .skip (.exit 2)
def s_l5graph_27 : AC := .seq s_l5graph_28 s_l5graph_29
def s_l5graph_33 : AC := .ops [⟨none, none, .fa 1 (.v 5)⟩,
  ⟨none, none, .ld (.r 0)⟩,
  ⟨none, none, .fa 2 (.v 5)⟩,
  ⟨none, none, .ld (.r 0)⟩,
  ⟨none, none, .len (.r 0)⟩,
  ⟨none, none, .mksl 3 1 1 [.int .i64 0] [(0, .r 0)]⟩,
  ⟨none, none, .app 3 1 8 (.r 4) (.r 0)⟩,
  ⟨none, none, .fa 1 (.v 5)⟩,
  ⟨none, none, .st 1 (.r 0) (.r 1)⟩]
def s_l5graph_35 : AC := .ops [⟨(some 10), none, .mv (.k (.int .i64 0))⟩]
def s_l5graph_40 : AC := .ops [⟨none, none, .mv (.v 10)⟩,
  ⟨none, none, .mv (.v 6)⟩,
  ⟨none, none, .mv (.v 9)⟩,
  ⟨none, none, .ia 1 (.r 1) (.r 0)⟩,
  ⟨none, none, .ld (.r 0)⟩,
  ⟨none, none, .len (.r 0)⟩,
  ⟨(some 58), none, .bin .lss (.r 5) (.r 0)⟩]
def s_l5graph_41 : AC := .cond (.v 58) .skip (.exit 4)
def s_l5graph_39 : AC := .seq s_l5graph_40 s_l5graph_41
def s_l5graph_45 : AC := .draw [⟨none, none, .fa 2 (.v 5)⟩,
  ⟨none, none, .ld (.r 0)⟩,
  ⟨none, none, .mv (.v 6)⟩,
  ⟨none, none, .mv (.v 9)⟩,
  ⟨none, none, .ia 1 (.r 1) (.r 0)⟩,
  ⟨none, none, .ld (.r 0)⟩,
  ⟨none, none, .mv (.v 10)⟩,
  ⟨none, none, .ia 4 (.r 1) (.r 0)⟩,
  ⟨none, none, .fa 1 (.r 0)⟩,
  ⟨none, none, .ld (.r 0)⟩,
  ⟨none, none, .mksl 3 1 1 [.int .i64 0] [(0, .r 0)]⟩,
  ⟨none, none, .app 3 1 8 (.r 9) (.r 0)⟩,
  ⟨none, none, .fa 2 (.v 5)⟩,
  ⟨none, none, .st 1 (.r 0) (.r 1)⟩] []
def s_l5graph_47 : AC := .draw [⟨none, none, .fa 3 (.v 5)⟩,
  ⟨none, none, .ld (.r 0)⟩,
  ⟨none, none, .mv (.v 6)⟩,
  ⟨none, none, .mv (.v 9)⟩,
  ⟨none, none, .ia 1 (.r 1) (.r 0)⟩,
  ⟨none, none, .ld (.r 0)⟩,
  ⟨none, none, .mv (.v 10)⟩,
  ⟨none, none, .ia 4 (.r 1) (.r 0)⟩,
  ⟨none, none, .fa 2 (.r 0)⟩,
  ⟨none, none, .ld (.r 0)⟩,
  ⟨none, none, .mksl 3 1 1 [.int .i64 0] [(0, .r 0)]⟩,
  ⟨none, none, .app 3 1 8 (.r 9) (.r 0)⟩,
  ⟨none, none, .fa 3 (.v 5)⟩,
  ⟨none, none, .st 1 (.r 0) (.r 1)⟩] []
def s_l5graph_48 : AC := .draw [⟨none, none, .fa 4 (.v 5)⟩,
  ⟨none, none, .ld (.r 0)⟩,
  ⟨none, none, .mv (.v 6)⟩,
  ⟨none, none, .mv (.v 9)⟩,
  ⟨none, none, .ia 1 (.r 1) (.r 0)⟩,
  ⟨none, none, .ld (.r 0)⟩,
  ⟨none, none, .mv (.v 10)⟩,
  ⟨none, none, .ia 4 (.r 1) (.r 0)⟩,
  ⟨none, none, .fa 3 (.r 0)⟩,
  ⟨none, none, .ld (.r 0)⟩,
  ⟨none, none, .mksl 3 1 1 [.int .i64 0] [(0, .r 0)]⟩,
  ⟨none, none, .app 3 1 8 (.r 9) (.r 0)⟩,
  ⟨none, none, .fa 4 (.v 5)⟩,
  ⟨none, none, .st 1 (.r 0) (.r 1)⟩] []
def s_l5graph_46 : AC := .seq s_l5graph_47 s_l5graph_48
def s_l5graph_44 : AC := .seq s_l5graph_45 s_l5graph_46
def s_l5graph_43 : AC := .block 5 s_l5graph_44
def s_l5graph_49 : AC := .ops [⟨none, none, .mv (.v 10)⟩,
  ⟨none, none, .bin .add (.r 0) (.k (.int .i64 1))⟩,
  ⟨(some 10), none, .mv (.r 0)⟩]
def s_l5graph_42 : AC := .seq s_l5graph_43 s_l5graph_49
def s_l5graph_38 : AC := .seq s_l5graph_39 s_l5graph_42
def s_l5graph_37 : AC := .loop s_l5graph_38
def s_l5graph_36 : AC := .block 4 s_l5graph_37
def s_l5graph_34 : AC := .seq s_l5graph_35 s_l5graph_36
def s_l5graph_32 : AC := .seq s_l5graph_33 s_l5graph_34
def s_l5graph_31 : AC := .block 3 s_l5graph_32
def s_l5graph_50 : AC := .ops [⟨none, none, .mv (.v 9)⟩,
  ⟨none, none, .bin .add (.r 0) (.k (.int .i64 1))⟩,
  ⟨(some 9), none, .mv (.r 0)⟩]
def s_l5graph_30 : AC := .seq s_l5graph_31 s_l5graph_50
def s_l5graph_26 : AC := .seq s_l5graph_27 s_l5graph_30
def s_l5graph_25 : AC := .loop s_l5graph_26
def s_l5graph_24 : AC := .block 2 s_l5graph_25
def s_l5graph_22 : AC := .seq s_l5graph_23 s_l5graph_24
def s_l5graph_52 : AC := .ops [⟨none, none, .fa 1 (.v 5)⟩,
  ⟨none, none, .ld (.r 0)⟩,
  ⟨none, none, .fa 2 (.v 5)⟩,
  ⟨none, none, .ld (.r 0)⟩,
  ⟨none, none, .len (.r 0)⟩,
  ⟨none, none, .mksl 3 1 1 [.int .i64 0] [(0, .r 0)]⟩,
  ⟨none, none, .app 3 1 8 (.r 4) (.r 0)⟩,
  ⟨none, none, .fa 1 (.v 5)⟩,
  ⟨none, none, .st 1 (.r 0) (.r 1)⟩]
def s_l5graph_54 : AC := .ops [⟨none, none, .ldn 5 (.v 5)⟩,
  ⟨none, none, .st 5 (.v 4) (.r 0)⟩]
def s_l5graph_53 : AC := .seq s_l5graph_54 .ret
def s_l5graph_51 : AC := .seq s_l5graph_52 s_l5graph_53
def s_l5graph_21 : AC := .seq s_l5graph_22 s_l5graph_51
def s_l5graph_6 : AC := .seq s_l5graph_7 s_l5graph_21
def s_l5graph_4 : AC := .seq s_l5graph_5 s_l5graph_6
def s_l5graph_2 : AC := .seq s_l5graph_3 s_l5graph_4
def s_l5graph_0 : AC := .seq s_l5graph_1 s_l5graph_2
def rs_s_l5graph : List ARes := [.cn 4 5]
theorem cf_s_l5graph : cfun Go.Proofs.Try.prog [0, 1, 4, 5, 6, 7, 8, 9, 10, 18, 41, 58] Go.Proofs.Try.f34 = some (s_l5graph_0, rs_s_l5graph) := by kernel_rfl

/-! cmp.Less[int] -/
def cmp_Less_int_1 : AC := .ops [⟨(some 4), none, .mv (.k (.bool false))⟩]
def cmp_Less_int_3 : AC := .ops [⟨none, none, .mv (.v 0)⟩,
  ⟨none, none, .call 38 [.r 0]⟩,
  ⟨none, none, .mv (.r 0)⟩,
  ⟨none, (some (0, true)), .mv (.v 1)⟩,
  ⟨none, (some (1, true)), .call 38 [.r 0]⟩,
  ⟨none, (some (2, true)), .un .not (.r 0)⟩,
  ⟨none, none, .pick (.r 3) (.r 0) (.k (.bool false))⟩,
  ⟨none, none, .mv (.r 0)⟩,
  ⟨none, (some (0, false)), .mv (.v 0)⟩,
  ⟨none, (some (1, false)), .mv (.v 1)⟩,
  ⟨none, (some (2, false)), .bin .lss (.r 1) (.r 0)⟩,
  ⟨none, none, .pick (.r 3) (.k (.bool true)) (.r 0)⟩,
  ⟨(some 4), none, .mv (.r 0)⟩]
def cmp_Less_int_2 : AC := .seq cmp_Less_int_3 .ret
def cmp_Less_int_0 : AC := .seq cmp_Less_int_1 cmp_Less_int_2
def rs_cmp_Less_int : List ARes := [.t 4]
theorem cf_cmp_Less_int : cfun Go.Proofs.Try.prog [0, 1, 4] Go.Proofs.Try.f35 = some (cmp_Less_int_0, rs_cmp_Less_int) := by kernel_rfl

/-! math/bits.Mul32 -/
def math_bits_Mul32_1 : AC := .ops [⟨(some 4), none, .mv (.k (.int .u32 0))⟩,
  ⟨(some 5), none, .mv (.k (.int .u32 0))⟩]
def math_bits_Mul32_3 : AC := .ops [⟨none, none, .mv (.v 0)⟩,
  ⟨none, none, .cvi .u64 (.r 0)⟩,
  ⟨none, none, .mv (.v 1)⟩,
  ⟨none, none, .cvi .u64 (.r 0)⟩,
  ⟨none, none, .bin .mul (.r 2) (.r 0)⟩,
  ⟨(some 6), none, .mv (.r 0)⟩]
def math_bits_Mul32_5 : AC := .ops [⟨none, none, .mv (.v 6)⟩,
  ⟨none, none, .bin .shr (.r 0) (.k (.int .u64 32))⟩,
  ⟨none, none, .cvi .u32 (.r 0)⟩,
  ⟨none, none, .mv (.v 6)⟩,
  ⟨none, none, .cvi .u32 (.r 0)⟩,
  ⟨(some 4), none, .mv (.r 2)⟩,
  ⟨(some 5), none, .mv (.r 1)⟩]
def math_bits_Mul32_4 : AC := .seq math_bits_Mul32_5 .ret
def math_bits_Mul32_2 : AC := .seq math_bits_Mul32_3 math_bits_Mul32_4
def math_bits_Mul32_0 : AC := .seq math_bits_Mul32_1 math_bits_Mul32_2
def rs_math_bits_Mul32 : List ARes := [.t 4, .t 5]
theorem cf_math_bits_Mul32 : cfun Go.Proofs.Try.prog [0, 1, 4, 5, 6] Go.Proofs.Try.f36 = some (math_bits_Mul32_0, rs_math_bits_Mul32) := by kernel_rfl

/-! math/bits.Mul64 -/
def math_bits_Mul64_1 : AC := .ops [⟨(some 4), none, .mv (.k (.int .u64 0))⟩,
  ⟨(some 5), none, .mv (.k (.int .u64 0))⟩]
def math_bits_Mul64_3 : AC := .ops [⟨none, none, .mv (.v 0)⟩,
  ⟨none, none, .bin .and (.r 0) (.k (.int .u64 4294967295))⟩,
  ⟨(some 6), none, .mv (.r 0)⟩]
def math_bits_Mul64_5 : AC := .ops [⟨none, none, .mv (.v 0)⟩,
  ⟨none, none, .bin .shr (.r 0) (.k (.int .u64 32))⟩,
  ⟨(some 7), none, .mv (.r 0)⟩]
def math_bits_Mul64_7 : AC := .ops [⟨none, none, .mv (.v 1)⟩,
  ⟨none, none, .bin .and (.r 0) (.k (.int .u64 4294967295))⟩,
  ⟨(some 8), none, .mv (.r 0)⟩]
def math_bits_Mul64_9 : AC := .ops [⟨none, none, .mv (.v 1)⟩,
  ⟨none, none, .bin .shr (.r 0) (.k (.int .u64 32))⟩,
  ⟨(some 9), none, .mv (.r 0)⟩]
def math_bits_Mul64_11 : AC := .ops [⟨none, none, .mv (.v 6)⟩,
  ⟨none, none, .mv (.v 8)⟩,
  ⟨none, none, .bin .mul (.r 1) (.r 0)⟩,
  ⟨(some 10), none, .mv (.r 0)⟩]
def math_bits_Mul64_13 : AC := .ops [⟨none, none, .mv (.v 7)⟩,
  ⟨none, none, .mv (.v 8)⟩,
  ⟨none, none, .bin .mul (.r 1) (.r 0)⟩,
  ⟨none, none, .mv (.v 10)⟩,
  ⟨none, none, .bin .shr (.r 0) (.k (.int .u64 32))⟩,
  ⟨none, none, .bin .add (.r 2) (.r 0)⟩,
  ⟨(some 11), none, .mv (.r 0)⟩]
def math_bits_Mul64_15 : AC := .ops [⟨none, none, .mv (.v 11)⟩,
  ⟨none, none, .bin .and (.r 0) (.k (.int .u64 4294967295))⟩,
  ⟨(some 12), none, .mv (.r 0)⟩]
def math_bits_Mul64_17 : AC := .ops [⟨none, none, .mv (.v 11)⟩,
  ⟨none, none, .bin .shr (.r 0) (.k (.int .u64 32))⟩,
  ⟨(some 13), none, .mv (.r 0)⟩]
def math_bits_Mul64_19 : AC := .ops [⟨none, none, .mv (.v 12)⟩,
  ⟨none, none, .mv (.v 6)⟩,
  ⟨none, none, .mv (.v 9)⟩,
  ⟨none, none, .bin .mul (.r 1) (.r 0)⟩,
  ⟨none, none, .bin .add (.r 3) (.r 0)⟩,
  ⟨(some 12), none, .mv (.r 0)⟩]
def math_bits_Mul64_21 : AC := .ops [⟨none, none, .mv (.v 7)⟩,
  ⟨none, none, .mv (.v 9)⟩,
  ⟨none, none, .bin .mul (.r 1) (.r 0)⟩,
  ⟨none, none, .mv (.v 13)⟩,
  ⟨none, none, .bin .add (.r 1) (.r 0)⟩,
  ⟨none, none, .mv (.v 12)⟩,
  ⟨none, none, .bin .shr (.r 0) (.k (.int .u64 32))⟩,
  ⟨none, none, .bin .add (.r 2) (.r 0)⟩,
  ⟨(some 4), none, .mv (.r 0)⟩]
def math_bits_Mul64_23 : AC := .ops [⟨none, none, .mv (.v 0)⟩,
  ⟨none, none, .mv (.v 1)⟩,
  ⟨none, none, .bin .mul (.r 1) (.r 0)⟩,
  ⟨(some 5), none, .mv (.r 0)⟩]
def math_bits_Mul64_22 : AC := .seq math_bits_Mul64_23 .ret
def math_bits_Mul64_20 : AC := .seq math_bits_Mul64_21 math_bits_Mul64_22
def math_bits_Mul64_18 : AC := .seq math_bits_Mul64_19 math_bits_Mul64_20
def math_bits_Mul64_16 : AC := .seq math_bits_Mul64_17 math_bits_Mul64_18
def math_bits_Mul64_14 : AC := .seq math_bits_Mul64_15 math_bits_Mul64_16
def math_bits_Mul64_12 : AC := .seq math_bits_Mul64_13 math_bits_Mul64_14
def math_bits_Mul64_10 : AC := .seq math_bits_Mul64_11 math_bits_Mul64_12
def math_bits_Mul64_8 : AC := .seq math_bits_Mul64_9 math_bits_Mul64_10
def math_bits_Mul64_6 : AC := .seq math_bits_Mul64_7 math_bits_Mul64_8
def math_bits_Mul64_4 : AC := .seq math_bits_Mul64_5 math_bits_Mul64_6
def math_bits_Mul64_2 : AC := .seq math_bits_Mul64_3 math_bits_Mul64_4
def math_bits_Mul64_0 : AC := .seq math_bits_Mul64_1 math_bits_Mul64_2
def rs_math_bits_Mul64 : List ARes := [.t 4, .t 5]
theorem cf_math_bits_Mul64 : cfun Go.Proofs.Try.prog [0, 1, 4, 5, 6, 7, 8, 9, 10, 11, 12, 13] Go.Proofs.Try.f37 = some (math_bits_Mul64_0, rs_math_bits_Mul64) := by kernel_rfl

/-! cmp.isNaN[int] -/
def cmp_isNaN_int_1 : AC := .ops [⟨(some 2), none, .mv (.k (.bool false))⟩]
def cmp_isNaN_int_3 : AC := .ops [⟨none, none, .mv (.v 0)⟩,
  ⟨none, none, .mv (.v 0)⟩,
  ⟨none, none, .bin .neq (.r 1) (.r 0)⟩,
  ⟨(some 2), none, .mv (.r 0)⟩]
def cmp_isNaN_int_2 : AC := .seq cmp_isNaN_int_3 .ret
def cmp_isNaN_int_0 : AC := .seq cmp_isNaN_int_1 cmp_isNaN_int_2
def rs_cmp_isNaN_int : List ARes := [.t 2]
theorem cf_cmp_isNaN_int : cfun Go.Proofs.Try.prog [0, 2] Go.Proofs.Try.f38 = some (cmp_isNaN_int_0, rs_cmp_isNaN_int) := by kernel_rfl

end Go.AB
