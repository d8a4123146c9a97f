import Derived.Test.YtfepabohinkpgaaVm12
import Derived.Test.YtfepabohinkpgaaProg
import Derived.KernelRfl
namespace Go.Proofs.Ytfepabohinkpgaa
open Go Vm
namespace Xs
abbrev n_main_main : Nat := 0
abbrev n_gosem_cut : Nat := 1
abbrev n_gosem_cut_init : Nat := 2
abbrev n_laws_FnExactStirOk : Nat := 3
abbrev n_laws_FnExactBoxOk : Nat := 4
abbrev n_laws_FnBoxes : Nat := 5
abbrev n_laws_FnExactAskOk : Nat := 6
abbrev n_laws_FnExactSessionOk : Nat := 7
abbrev n_laws_FnExactReadItem : Nat := 8
abbrev n_laws_FnExactMembersOf : Nat := 9
abbrev n_laws_FnExactDrop : Nat := 10
abbrev n_laws_FnExactFetch : Nat := 11
abbrev n_laws_FnBoxDraws : Nat := 12
abbrev n_laws_FnExactAskText : Nat := 13
abbrev n_laws_FnExactItemsOf : Nat := 14
abbrev n_laws_szStir : Nat := 15
abbrev n_spec_StirOk : Nat := 16
abbrev n_laws_toStir : Nat := 17
abbrev n_impl_StirOk : Nat := 18
abbrev n_laws_szBox : Nat := 19
abbrev n_spec_BoxOk : Nat := 20
abbrev n_laws_toBox : Nat := 21
abbrev n_impl_BoxOk : Nat := 22
abbrev n_laws_eqBox : Nat := 23
abbrev n_laws_big : Nat := 24
abbrev n_spec_DrawTexts : Nat := 25
abbrev n_impl_Drop : Nat := 26
abbrev n_impl_Fetch : Nat := 27
abbrev n_laws_szAsk : Nat := 28
abbrev n_spec_AskOk : Nat := 29
abbrev n_laws_toAsk : Nat := 30
abbrev n_impl_AskOk : Nat := 31
abbrev n_laws_eqAsk : Nat := 32
abbrev n_laws_szSession : Nat := 33
abbrev n_spec_SessionOk : Nat := 34
abbrev n_laws_toSession : Nat := 35
abbrev n_impl_SessionOk : Nat := 36
abbrev n_laws_eqSession : Nat := 37
abbrev n_spec_ReadItem : Nat := 38
abbrev n_impl_ReadItem : Nat := 39
abbrev n_laws_eqItem : Nat := 40
abbrev n_laws_szTable : Nat := 41
abbrev n_spec_MembersOf : Nat := 42
abbrev n_laws_toTable : Nat := 43
abbrev n_impl_MembersOf : Nat := 44
abbrev n_laws_eqStringS : Nat := 45
abbrev n_laws_eqTable : Nat := 46
abbrev n_laws_markTable : Nat := 47
abbrev n_laws_markStringS : Nat := 48
abbrev n_laws_heldStringS : Nat := 49
abbrev n_spec_Drop : Nat := 50
abbrev n_laws_markBox : Nat := 51
abbrev n_laws_heldBox : Nat := 52
abbrev n_spec_Fetch : Nat := 53
abbrev n_spec_DrawDrop : Nat := 54
abbrev n_spec_AskText : Nat := 55
abbrev n_impl_AskText : Nat := 56
abbrev n_laws_szEventS : Nat := 57
abbrev n_spec_ItemsOf : Nat := 58
abbrev n_laws_toEventS : Nat := 59
abbrev n_impl_ItemsOf : Nat := 60
abbrev n_laws_eqItemS : Nat := 61
abbrev n_laws_eqEventS : Nat := 62
abbrev n_laws_markEventS : Nat := 63
abbrev n_laws_markItemS : Nat := 64
abbrev n_laws_heldItemS : Nat := 65
abbrev n_laws_szDeed : Nat := 66
abbrev n_spec_l01In : Nat := 67
abbrev n_spec_DeedOk : Nat := 68
abbrev n_spec_l20NoDeed : Nat := 69
abbrev n_laws_toDeed : Nat := 70
abbrev n_impl_inRange : Nat := 71
abbrev n_impl_DeedOk : Nat := 72
abbrev n_laws_szStringS : Nat := 73
abbrev n_spec_NameOk : Nat := 74
abbrev n_laws_toStringS : Nat := 75
abbrev n_impl_NameOk : Nat := 76
abbrev n_impl_areShort : Nat := 77
abbrev n_spec_l01New : Nat := 78
abbrev n_spec_l01Below : Nat := 79
abbrev n_spec_l01Text : Nat := 80
abbrev n_impl_copyBox : Nat := 81
abbrev n_slices_Delete___string_string_ : Nat := 82
abbrev n_spec_l17Names : Nat := 83
abbrev n_impl_areNames : Nat := 84
abbrev n_impl_isLevel : Nat := 85
abbrev n_laws_szReader : Nat := 86
abbrev n_laws_toReader : Nat := 87
abbrev n_impl_isDaemon : Nat := 88
abbrev n_laws_eqReader : Nat := 89
abbrev n_spec_l05Var : Nat := 90
abbrev n_spec_l05One : Nat := 91
abbrev n_spec_l05ReadShort : Nat := 92
abbrev n_spec_ItemText : Nat := 93
abbrev n___impl_scanner__number : Nat := 94
abbrev n___impl_scanner__octet : Nat := 95
abbrev n___impl_scanner__short : Nat := 96
abbrev n___impl_scanner__done : Nat := 97
abbrev n_impl_ItemOk : Nat := 98
abbrev n_laws_szGroupS : Nat := 99
abbrev n_laws_toGroupS : Nat := 100
abbrev n_slices_Clone___string_string_ : Nat := 101
abbrev n_laws_eqGroupS : Nat := 102
abbrev n_laws_markGroupS : Nat := 103
abbrev n_laws_markText : Nat := 104
abbrev n_spec_l18Copy : Nat := 105
abbrev n_spec_l18Box : Nat := 106
abbrev n_spec_l01Once : Nat := 107
abbrev n_spec_l01Long : Nat := 108
abbrev n_spec_l03Name : Nat := 109
abbrev n_spec_l05Byte : Nat := 110
abbrev n_spec_l05Short : Nat := 111
abbrev n_spec_l01Var : Nat := 112
abbrev n_impl_octets : Nat := 113
abbrev n_impl_shortText : Nat := 114
abbrev n_impl_namesText : Nat := 115
abbrev n_laws_szEvent : Nat := 116
abbrev n_laws_toEvent : Nat := 117
abbrev n_laws_eqEvent : Nat := 118
abbrev n_laws_markIntS : Nat := 119
abbrev n_impl_wordsOk : Nat := 120
abbrev n_spec_l01Byte : Nat := 121
abbrev n_spec_ReadVar : Nat := 122
abbrev n_spec_l05Take : Nat := 123
abbrev n_spec_ItemOk : Nat := 124
abbrev n_impl_ReadVar : Nat := 125
abbrev n___impl_scanner__take : Nat := 126
abbrev n_laws_szGroup : Nat := 127
abbrev n_laws_toGroup : Nat := 128
abbrev n_laws_eqGroup : Nat := 129
abbrev n_spec_Decimal : Nat := 130
abbrev n_spec_l01Pick : Nat := 131
abbrev n_impl_varText : Nat := 132
abbrev n___strings_Builder__WriteString : Nat := 133
abbrev n___strings_Builder__String : Nat := 134
abbrev n_laws_szRing : Nat := 135
abbrev n_laws_szItem : Nat := 136
abbrev n_laws_szIntS : Nat := 137
abbrev n_laws_toRing : Nat := 138
abbrev n_laws_toItem : Nat := 139
abbrev n_laws_toIntS : Nat := 140
abbrev n_laws_eqRing : Nat := 141
abbrev n_laws_eqIntS : Nat := 142
abbrev n_spec_l01Figure : Nat := 143
abbrev n___strings_Builder__copyCheck : Nat := 144
abbrev n_internal_abi_NoEscape : Nat := 145
abbrev n__runtime_boundsError__Error : Nat := 146
abbrev n__runtime_boundsError__RuntimeError : Nat := 147
abbrev n__runtime_errorString__Error : Nat := 148
abbrev n__runtime_errorString__RuntimeError : Nat := 149
abbrev n__runtime_plainError__Error : Nat := 150
abbrev n__runtime_plainError__RuntimeError : Nat := 151
abbrev n__runtime_errorAddressString__Error : Nat := 152
abbrev n__runtime_errorAddressString__RuntimeError : Nat := 153
abbrev n___runtime_TypeAssertionError__Error : Nat := 154
abbrev n___runtime_TypeAssertionError__RuntimeError : Nat := 155
abbrev n___runtime_PanicNilError__Error : Nat := 156
abbrev n___runtime_PanicNilError__RuntimeError : Nat := 157
abbrev n___internal_abi_Type__Align : Nat := 158
abbrev n__internal_runtime_maps_unhashableTypeError__Error : Nat := 159
abbrev n__internal_runtime_maps_unhashableTypeError__RuntimeError : Nat := 160
abbrev n__impl_Ring__isNone : Nat := 161
abbrev n___strings_Builder__Reset : Nat := 162
abbrev n__internal_abi_Kind__String : Nat := 163
-- NONE 2 gosem.cut.init
def X_laws_FnExactStirOk : XF := ⟨(.seq (.reg [.p (.box 1 (.t 0)), .p (.mv 2 (.c (.bool false)))])
 (.seq (.reg [.p (.mv 3 (.c (.int .i64 1048576)))])
 (.seq (.reg [.p (.load 6 (.t 1) 8 true), .p (.mv 7 (.t 3)), .p (.callB 8 n_laws_szStir [((.t 6), 0), ((.t 7), 0)]), .p (.mv 3 (.t 8))])
 (.seq (.seq (.reg [.p (.mv 9 (.t 3)), .p (.bin 10 false .lss (.t 9) (.c (.int .i64 0)))])
 (.cond (.t 10) (.seq (.reg [.p (.mv 2 (.c (.bool true)))])
 .ret) .skip))
 (.seq (.reg [.p (.load 11 (.t 1) 8 true), .p (.callB 12 n_laws_toStir [((.t 11), 0)]), .p (.callB 13 n_spec_StirOk [((.t 12), 0)]), .p (.mv 4 (.t 13))])
 (.seq (.reg [.p (.load 14 (.t 1) 8 true), .p (.callB 15 n_laws_toStir [((.t 14), 0)]), .p (.callB 16 n_impl_StirOk [((.t 15), 0)]), .p (.mv 5 (.t 16))])
 (.seq (.seq (.reg [.p (.mv 17 (.t 5)), .p (.mv 18 (.t 4)), .p (.bin 19 true .neq (.t 17) (.t 18))])
 (.cond (.t 19) (.seq (.reg [.p (.mv 2 (.c (.bool false)))])
 .ret) .skip))
 (.seq (.reg [.p (.mv 2 (.c (.bool true)))])
 .ret)))))))),
 20, 1, [.t 2]⟩
theorem m_laws_FnExactStirOk : mF Try.prog 3 [] = some X_laws_FnExactStirOk := by kernel_rfl
-- NONE 4 loop.example/g00183/laws.FnExactBoxOk
-- NONE 5 loop.example/g00183/laws.FnBoxes
-- NONE 6 loop.example/g00183/laws.FnExactAskOk
-- NONE 7 loop.example/g00183/laws.FnExactSessionOk
def X_laws_FnExactReadItem : XF := ⟨(.seq (.reg [.p (.mv 2 (.c (.bool false)))])
 (.seq (.seq (.reg [.p (.mv 7 (.t 0)), .p (.lenS 8 (.t 7)), .p (.bin 9 false .gtr (.t 8) (.c (.int .i64 1048576)))])
 (.cond (.t 9) (.seq (.reg [.p (.mv 2 (.c (.bool true)))])
 .ret) .skip))
 (.seq (.reg [.p (.mv 11 (.t 0)), .p (.callB 12 n_spec_ReadItem [((.t 11), 0)]), .p (.mv 10 (.t 12)), .p (.ext 13 (.t 10) 0), .p (.ext 14 (.t 10) 1), .p (.alloc 3 [(.lit (.int .i64 0)), (.lit (.int .i64 0)), (.lit (.int .i64 0)), (.lit (.string (ba [])))]), .p (.store (.t 3) (.t 13) 4), .p (.mv 4 (.t 14))])
 (.seq (.reg [.p (.mv 16 (.t 0)), .p (.callB 17 n_impl_ReadItem [((.t 16), 0)]), .p (.mv 15 (.t 17)), .p (.ext 18 (.t 15) 0), .p (.ext 19 (.t 15) 1), .p (.alloc 5 [(.lit (.int .i64 0)), (.lit (.int .i64 0)), (.lit (.int .i64 0)), (.lit (.string (ba [])))]), .p (.store (.t 5) (.t 18) 4), .p (.mv 6 (.t 19))])
 (.seq (.seq (.reg [.p (.load 20 (.t 5) 4 true), .p (.load 21 (.t 3) 4 true), .p (.callB 22 n_laws_eqItem [((.t 20), 0), ((.t 21), 0)]), .p (.un 23 .not (.t 22)), .p (.mv 24 (.t 23)), .g 24 false (some 25) (.mv 25 (.t 6)), .g 24 false (some 26) (.mv 26 (.t 4)), .g 24 false (some 27) (.bin 27 true .neq (.t 25) (.t 26)), .p (.pick 28 (.t 24) (.c (.bool true)) (.t 27))])
 (.cond (.t 28) (.seq (.reg [.p (.mv 2 (.c (.bool false)))])
 .ret) .skip))
 (.seq (.reg [.p (.mv 2 (.c (.bool true)))])
 .ret)))))),
 29, 1, [.t 2]⟩
theorem m_laws_FnExactReadItem : mF Try.prog 8 [] = some X_laws_FnExactReadItem := by kernel_rfl
-- NONE 9 loop.example/g00183/laws.FnExactMembersOf
-- NONE 10 loop.example/g00183/laws.FnExactDrop
-- NONE 11 loop.example/g00183/laws.FnExactFetch
-- NONE 12 loop.example/g00183/laws.FnBoxDraws
-- NONE 13 loop.example/g00183/laws.FnExactAskText
def X_laws_FnExactItemsOf : XF := ⟨(.seq (.reg [.p (.mv 4 (.c (.bool false)))])
 (.seq (.reg [.p (.mv 5 (.c (.int .i64 1048576)))])
 (.seq (.reg [.p (.mv 13 (.t 0)), .p (.mv 14 (.t 5)), .p (.callB 15 n_laws_szEventS [((.t 13), 0), ((.t 14), 0)]), .p (.mv 5 (.t 15))])
 (.seq (.seq (.reg [.p (.mv 16 (.t 5)), .p (.bin 17 false .lss (.t 16) (.c (.int .i64 0)))])
 (.cond (.t 17) (.seq (.reg [.p (.mv 4 (.c (.bool true)))])
 .ret) .skip))
 (.seq (.reg [.p (.mv 18 (.t 0)), .p (.callB 19 n_laws_toEventS [((.t 18), 0)]), .p (.mv 20 (.t 1)), .p (.callB 21 n_spec_ItemsOf [((.t 19), 0), ((.t 20), 0)]), .p (.mv 6 (.t 21))])
 (.seq (.reg [.p (.mv 22 (.t 0)), .p (.callB 23 n_laws_toEventS [((.t 22), 0)]), .p (.mv 7 (.t 23))])
 (.seq (.reg [.p (.mv 24 (.t 7)), .p (.mv 25 (.t 1)), .p (.callB 26 n_impl_ItemsOf [((.t 24), 0), ((.t 25), 0)]), .p (.mv 8 (.t 26))])
 (.seq (.seq (.reg [.p (.mv 27 (.t 8)), .p (.mv 28 (.t 6)), .p (.callB 29 n_laws_eqItemS [((.t 27), 0), ((.t 28), 0)]), .p (.un 30 .not (.t 29))])
 (.cond (.t 30) (.seq (.reg [.p (.mv 4 (.c (.bool false)))])
 .ret) .skip))
 (.seq (.seq (.reg [.p (.mv 31 (.t 7)), .p (.mv 32 (.t 0)), .p (.callB 33 n_laws_toEventS [((.t 32), 0)]), .p (.callB 34 n_laws_eqEventS [((.t 31), 0), ((.t 33), 0)]), .p (.un 35 .not (.t 34))])
 (.cond (.t 35) (.seq (.reg [.p (.mv 4 (.c (.bool false)))])
 .ret) .skip))
 (.seq (.reg [.p (.mv 9 (.c (.int .i64 1)))])
 (.seq (.reg [.p (.mv 36 (.t 7)), .p (.mv 37 (.t 9)), .p (.callB 38 n_laws_markEventS [((.t 36), 0), ((.t 37), 0)]), .p (.mv 9 (.t 38))])
 (.seq (.seq (.reg [.p (.mv 39 (.t 9)), .p (.bin 40 false .lss (.t 39) (.c (.int .i64 0))), .p (.mv 41 (.t 40)), .g 41 false (some 42) (.mv 42 (.t 8)), .g 41 false (some 43) (.mv 43 (.t 6)), .g 41 false (some 44) (.callB 44 n_laws_eqItemS [((.t 42), 0), ((.t 43), 0)]), .g 41 false (some 45) (.un 45 .not (.t 44)), .p (.pick 46 (.t 41) (.c (.bool true)) (.t 45))])
 (.cond (.t 46) (.seq (.reg [.p (.mv 4 (.c (.bool false)))])
 .ret) .skip))
 (.seq (.reg [.p (.mv 10 (.c (.int .i64 1)))])
 (.seq (.reg [.p (.mv 47 (.t 8)), .p (.mv 48 (.t 10)), .p (.callB 49 n_laws_markItemS [((.t 47), 0), ((.t 48), 0)]), .p (.mv 10 (.t 49))])
 (.seq (.reg [.p (.mv 11 (.c (.int .i64 1)))])
 (.seq (.reg [.p (.mv 50 (.t 8)), .p (.mv 51 (.t 11)), .p (.callB 52 n_laws_heldItemS [((.t 50), 0), ((.t 51), 0)]), .p (.mv 11 (.t 52))])
 (.seq (.seq (.reg [.p (.mv 53 (.t 11)), .p (.bin 54 false .lss (.t 53) (.c (.int .i64 0)))])
 (.cond (.t 54) (.seq (.reg [.p (.mv 4 (.c (.bool false)))])
 .ret) .skip))
 (.seq (.seq (.reg [.p (.mv 55 (.t 11)), .p (.mv 56 (.t 10)), .p (.bin 57 false .neq (.t 55) (.t 56))])
 (.cond (.t 57) (.seq (.reg [.p (.mv 4 (.c (.bool false)))])
 .ret) .skip))
 (.seq (.reg [.p (.mv 58 (.t 0)), .p (.callB 59 n_laws_toEventS [((.t 58), 0)]), .p (.mv 60 (.t 1)), .p (.callB 61 n_impl_ItemsOf [((.t 59), 0), ((.t 60), 0)]), .p (.mv 12 (.t 61))])
 (.seq (.seq (.reg [.p (.mv 62 (.t 12)), .p (.mv 63 (.t 6)), .p (.callB 64 n_laws_eqItemS [((.t 62), 0), ((.t 63), 0)]), .p (.un 65 .not (.t 64))])
 (.cond (.t 65) (.seq (.reg [.p (.mv 4 (.c (.bool false)))])
 .ret) .skip))
 (.seq (.reg [.p (.mv 11 (.c (.int .i64 1)))])
 (.seq (.reg [.p (.mv 66 (.t 8)), .p (.mv 67 (.t 11)), .p (.callB 68 n_laws_heldItemS [((.t 66), 0), ((.t 67), 0)]), .p (.mv 11 (.t 68))])
 (.seq (.seq (.reg [.p (.mv 69 (.t 11)), .p (.bin 70 false .lss (.t 69) (.c (.int .i64 0)))])
 (.cond (.t 70) (.seq (.reg [.p (.mv 4 (.c (.bool false)))])
 .ret) .skip))
 (.seq (.seq (.reg [.p (.mv 71 (.t 11)), .p (.mv 72 (.t 10)), .p (.bin 73 false .neq (.t 71) (.t 72))])
 (.cond (.t 73) (.seq (.reg [.p (.mv 4 (.c (.bool false)))])
 .ret) .skip))
 (.seq (.reg [.p (.mv 4 (.c (.bool true)))])
 .ret))))))))))))))))))))))))),
 74, 2, [.t 4]⟩
theorem m_laws_FnExactItemsOf : mF Try.prog 14 [] = some X_laws_FnExactItemsOf := by kernel_rfl
def X_laws_szStir : XF := ⟨(.seq (.reg [.p (.box 2 (.t 0)), .p (.mv 4 (.c (.int .i64 0)))])
 (.seq (.reg [.p (.mv 5 (.t 1)), .p (.fadr 6 (.t 2) 2), .p (.load 7 (.t 6) 1 false), .p (.lenS 8 (.t 7)), .p (.bin 9 false .sub (.t 5) (.t 8)), .p (.mv 1 (.t 9))])
 (.seq (.seq (.reg [.p (.mv 10 (.t 1)), .p (.bin 11 false .lss (.t 10) (.c (.int .i64 0)))])
 (.cond (.t 11) (.seq (.reg [.p (.mv 4 (.c (.int .i64 (-1))))])
 .ret) .skip))
 (.seq (.reg [.p (.fadr 12 (.t 2) 3), .p (.load 13 (.t 12) 5 true), .p (.mv 14 (.t 1)), .p (.callB 15 n_laws_szDeed [((.t 13), 0), ((.t 14), 0)]), .p (.mv 1 (.t 15))])
 (.seq (.seq (.reg [.p (.mv 16 (.t 1)), .p (.bin 17 false .lss (.t 16) (.c (.int .i64 0)))])
 (.cond (.t 17) (.seq (.reg [.p (.mv 4 (.c (.int .i64 (-1))))])
 .ret) .skip))
 (.seq (.reg [.p (.mv 18 (.t 1)), .p (.mv 4 (.t 18))])
 .ret)))))),
 19, 2, [.t 4]⟩
theorem m_laws_szStir : mF Try.prog 15 [] = some X_laws_szStir := by kernel_rfl
def X_spec_StirOk : XF := ⟨(.seq (.reg [.p (.box 1 (.t 0)), .p (.mv 2 (.c (.bool false)))])
 (.seq (.seq (.reg [.p (.fadr 3 (.t 1) 0), .p (.load 4 (.t 3) 1 false), .p (.callB 5 n_spec_l01In [((.t 4), 0), ((.c (.int .i64 1)), 0), ((.c (.int .i64 3)), 0)]), .p (.un 6 .not (.t 5)), .p (.mv 7 (.t 6)), .g 7 false (some 8) (.fadr 8 (.t 1) 1), .g 7 false (some 9) (.load 9 (.t 8) 1 false), .g 7 false (some 10) (.callB 10 n_spec_l01In [((.t 9), 0), ((.c (.int .i64 1)), 0), ((.c (.int .i64 4)), 0)]), .g 7 false (some 11) (.un 11 .not (.t 10)), .p (.pick 12 (.t 7) (.c (.bool true)) (.t 11)), .p (.mv 13 (.t 12)), .g 13 false (some 14) (.fadr 14 (.t 1) 2), .g 13 false (some 15) (.load 15 (.t 14) 1 false), .g 13 false (some 16) (.lenS 16 (.t 15)), .g 13 false (some 17) (.bin 17 false .gtr (.t 16) (.c (.int .i64 200))), .p (.pick 18 (.t 13) (.c (.bool true)) (.t 17)), .p (.mv 19 (.t 18)), .g 19 false (some 20) (.fadr 20 (.t 1) 0), .g 19 false (some 21) (.load 21 (.t 20) 1 false), .g 19 false (some 22) (.bin 22 false .neq (.t 21) (.c (.int .i64 1))), .g 19 false (some 23) (.mv 23 (.t 22)), .g 23 true (some 24) (.fadr 24 (.t 1) 2), .g 23 true (some 25) (.load 25 (.t 24) 1 false), .g 23 true (some 26) (.bin 26 false .neq (.t 25) (.c (.string (ba [])))), .g 19 false (some 27) (.pick 27 (.t 23) (.t 26) (.c (.bool false))), .p (.pick 28 (.t 19) (.c (.bool true)) (.t 27))])
 (.cond (.t 28) (.seq (.reg [.p (.mv 2 (.c (.bool false)))])
 .ret) .skip))
 (.seq (.seq (.reg [.p (.fadr 29 (.t 1) 0), .p (.load 30 (.t 29) 1 false), .p (.bin 31 false .eql (.t 30) (.c (.int .i64 3)))])
 (.cond (.t 31) (.seq (.reg [.p (.fadr 32 (.t 1) 3), .p (.load 33 (.t 32) 5 true), .p (.callB 34 n_spec_DeedOk [((.t 33), 0)]), .p (.mv 35 (.t 34)), .g 35 true (some 36) (.fadr 36 (.t 1) 3), .g 35 true (some 37) (.fadr 37 (.t 36) 0), .g 35 true (some 38) (.load 38 (.t 37) 1 false), .g 35 true (some 39) (.bin 39 false .neq (.t 38) (.c (.int .i64 1))), .p (.pick 40 (.t 35) (.t 39) (.c (.bool false))), .p (.mv 2 (.t 40))])
 .ret) .skip))
 (.seq (.reg [.p (.fadr 41 (.t 1) 3), .p (.load 42 (.t 41) 5 true), .p (.callB 43 n_spec_l20NoDeed [((.t 42), 0)]), .p (.mv 2 (.t 43))])
 .ret)))),
 44, 1, [.t 2]⟩
theorem m_spec_StirOk : mF Try.prog 16 [] = some X_spec_StirOk := by kernel_rfl
def X_laws_toStir : XF := ⟨(.seq (.reg [.p (.box 1 (.t 0)), .p (.alloc 2 [(.lit (.int .i64 0)), (.lit (.int .i64 0)), (.lit (.string (ba []))), (.lit (.int .i64 0)), (.lit (.int .i64 0)), (.lit (.int .i64 0)), (.lit (.int .i64 0)), (.lit (.string (ba [])))])])
 (.seq (.reg [.p (.alloc 3 [(.lit (.int .i64 0)), (.lit (.int .i64 0)), (.lit (.string (ba []))), (.lit (.int .i64 0)), (.lit (.int .i64 0)), (.lit (.int .i64 0)), (.lit (.int .i64 0)), (.lit (.string (ba [])))])])
 (.seq (.reg [.p (.fadr 4 (.t 1) 0), .p (.load 5 (.t 4) 1 false), .p (.fadr 6 (.t 3) 0), .p (.store (.t 6) (.t 5) 1)])
 (.seq (.reg [.p (.fadr 7 (.t 1) 1), .p (.load 8 (.t 7) 1 false), .p (.fadr 9 (.t 3) 1), .p (.store (.t 9) (.t 8) 1)])
 (.seq (.reg [.p (.fadr 10 (.t 1) 2), .p (.load 11 (.t 10) 1 false), .p (.fadr 12 (.t 3) 2), .p (.store (.t 12) (.t 11) 1)])
 (.seq (.reg [.p (.fadr 13 (.t 1) 3), .p (.load 14 (.t 13) 5 true), .p (.callB 15 n_laws_toDeed [((.t 14), 0)]), .p (.fadr 16 (.t 3) 3), .p (.store (.t 16) (.t 15) 5)])
 (.seq (.reg [.p (.load 17 (.t 3) 8 true), .p (.store (.t 2) (.t 17) 8)])
 .ret))))))),
 18, 1, [.c 2 8 true]⟩
theorem m_laws_toStir : mF Try.prog 17 [] = some X_laws_toStir := by kernel_rfl
def X_impl_StirOk : XF := ⟨(.seq (.reg [.p (.box 1 (.t 0)), .p (.mv 2 (.c (.bool false)))])
 (.seq (.seq (.reg [.p (.fadr 3 (.t 1) 0), .p (.load 4 (.t 3) 1 false), .p (.callB 5 n_impl_inRange [((.t 4), 0), ((.c (.int .i64 1)), 0), ((.c (.int .i64 3)), 0)]), .p (.un 6 .not (.t 5)), .p (.mv 7 (.t 6)), .g 7 false (some 8) (.fadr 8 (.t 1) 1), .g 7 false (some 9) (.load 9 (.t 8) 1 false), .g 7 false (some 10) (.callB 10 n_impl_inRange [((.t 9), 0), ((.c (.int .i64 1)), 0), ((.c (.int .i64 4)), 0)]), .g 7 false (some 11) (.un 11 .not (.t 10)), .p (.pick 12 (.t 7) (.c (.bool true)) (.t 11)), .p (.mv 13 (.t 12)), .g 13 false (some 14) (.fadr 14 (.t 1) 2), .g 13 false (some 15) (.load 15 (.t 14) 1 false), .g 13 false (some 16) (.lenS 16 (.t 15)), .g 13 false (some 17) (.bin 17 false .gtr (.t 16) (.c (.int .i64 200))), .p (.pick 18 (.t 13) (.c (.bool true)) (.t 17))])
 (.cond (.t 18) (.seq (.reg [.p (.mv 2 (.c (.bool false)))])
 .ret) .skip))
 (.seq (.seq (.reg [.p (.fadr 19 (.t 1) 0), .p (.load 20 (.t 19) 1 false), .p (.bin 21 false .neq (.t 20) (.c (.int .i64 1))), .p (.mv 22 (.t 21)), .g 22 true (some 23) (.fadr 23 (.t 1) 2), .g 22 true (some 24) (.load 24 (.t 23) 1 false), .g 22 true (some 25) (.bin 25 false .neq (.t 24) (.c (.string (ba [])))), .p (.pick 26 (.t 22) (.t 25) (.c (.bool false)))])
 (.cond (.t 26) (.seq (.reg [.p (.mv 2 (.c (.bool false)))])
 .ret) .skip))
 (.seq (.seq (.reg [.p (.fadr 27 (.t 1) 0), .p (.load 28 (.t 27) 1 false), .p (.bin 29 false .eql (.t 28) (.c (.int .i64 3)))])
 (.cond (.t 29) (.seq (.reg [.p (.fadr 30 (.t 1) 3), .p (.load 31 (.t 30) 5 true), .p (.callB 32 n_impl_DeedOk [((.t 31), 0)]), .p (.mv 33 (.t 32)), .g 33 true (some 34) (.fadr 34 (.t 1) 3), .g 33 true (some 35) (.fadr 35 (.t 34) 0), .g 33 true (some 36) (.load 36 (.t 35) 1 false), .g 33 true (some 37) (.bin 37 false .neq (.t 36) (.c (.int .i64 1))), .p (.pick 38 (.t 33) (.t 37) (.c (.bool false))), .p (.mv 2 (.t 38))])
 .ret) .skip))
 (.seq (.reg [.p (.fadr 39 (.t 1) 3), .p (.load 40 (.t 39) 5 true), .p (.bld 41 [(.lit (.int .i64 0)), (.lit (.int .i64 0)), (.lit (.int .i64 0)), (.lit (.int .i64 0)), (.lit (.string (ba [])))] []), .p (.eqA 42 false [0, 0, 0, 0, 1] (.t 40) (.t 41)), .p (.mv 2 (.t 42))])
 .ret))))),
 43, 1, [.t 2]⟩
theorem m_impl_StirOk : mF Try.prog 18 [] = some X_impl_StirOk := by kernel_rfl
def X_laws_szBox : XF := ⟨(.seq (.reg [.p (.box 2 (.t 0)), .p (.mv 4 (.c (.int .i64 0)))])
 (.seq (.reg [.p (.mv 5 (.t 1)), .p (.fadr 6 (.t 2) 0), .p (.load 7 (.t 6) 1 false), .p (.lenS 8 (.t 7)), .p (.bin 9 false .sub (.t 5) (.t 8)), .p (.mv 1 (.t 9))])
 (.seq (.seq (.reg [.p (.mv 10 (.t 1)), .p (.bin 11 false .lss (.t 10) (.c (.int .i64 0)))])
 (.cond (.t 11) (.seq (.reg [.p (.mv 4 (.c (.int .i64 (-1))))])
 .ret) .skip))
 (.seq (.reg [.p (.fadr 12 (.t 2) 1), .p (.load 13 (.t 12) 1 false), .p (.mv 14 (.t 1)), .p (.callB 15 n_laws_szStringS [((.t 13), 0), ((.t 14), 0)]), .p (.mv 1 (.t 15))])
 (.seq (.seq (.reg [.p (.mv 16 (.t 1)), .p (.bin 17 false .lss (.t 16) (.c (.int .i64 0)))])
 (.cond (.t 17) (.seq (.reg [.p (.mv 4 (.c (.int .i64 (-1))))])
 .ret) .skip))
 (.seq (.reg [.p (.mv 18 (.t 1)), .p (.mv 4 (.t 18))])
 .ret)))))),
 19, 2, [.t 4]⟩
theorem m_laws_szBox : mF Try.prog 19 [] = some X_laws_szBox := by kernel_rfl
def X_spec_BoxOk : XF := ⟨(.seq (.reg [.p (.box 1 (.t 0)), .p (.mv 2 (.c (.bool false)))])
 (.seq (.seq (.reg [.p (.fadr 4 (.t 1) 0), .p (.load 5 (.t 4) 1 false), .p (.callB 6 n_spec_NameOk [((.t 5), 0)]), .p (.un 7 .not (.t 6)), .p (.mv 8 (.t 7)), .g 8 false (some 9) (.fadr 9 (.t 1) 1), .g 8 false (some 10) (.load 10 (.t 9) 1 false), .g 8 false (some 11) (.lenB 11 (.t 10)), .g 8 false (some 12) (.bin 12 false .gtr (.t 11) (.c (.int .i64 5))), .p (.pick 13 (.t 8) (.c (.bool true)) (.t 12)), .p (.mv 14 (.t 13)), .g 14 false (some 15) (.fadr 15 (.t 1) 2), .g 14 false (some 16) (.load 16 (.t 15) 1 false), .g 14 false (some 17) (.mv 17 (.t 16)), .g 17 true (some 18) (.fadr 18 (.t 1) 1), .g 17 true (some 19) (.load 19 (.t 18) 1 false), .g 17 true (some 20) (.lenB 20 (.t 19)), .g 17 true (some 21) (.bin 21 false .gtr (.t 20) (.c (.int .i64 0))), .g 14 false (some 22) (.pick 22 (.t 17) (.t 21) (.c (.bool false))), .p (.pick 23 (.t 14) (.c (.bool true)) (.t 22))])
 (.cond (.t 23) (.seq (.reg [.p (.mv 2 (.c (.bool false)))])
 .ret) .skip))
 (.seq (.seq (.reg [.p (.mv 3 (.c (.int .i64 0)))])
 (.block 0 (.loop (.seq (.seq (.reg [.p (.mv 24 (.t 3)), .p (.fadr 25 (.t 1) 1), .p (.load 26 (.t 25) 1 false), .p (.lenB 27 (.t 26)), .p (.bin 28 false .lss (.t 24) (.t 27))])
 (.cond (.t 28) .skip (.exit 0)))
 (.seq (.block 1 (.seq (.reg [.p (.fadr 31 (.t 1) 1), .p (.load 32 (.t 31) 1 false), .p (.mv 33 (.t 3)), .p (.iadr 34 1 (.t 32) (.t 33)), .p (.load 35 (.t 34) 1 false), .p (.lenS 36 (.t 35)), .p (.bin 37 false .gtr (.t 36) (.c (.int .i64 60)))])
 (.cond (.t 37) (.seq (.reg [.p (.mv 2 (.c (.bool false)))])
 .ret) .skip)))
 (.reg [.p (.mv 29 (.t 3)), .p (.bin 30 false .add (.t 29) (.c (.int .i64 1))), .p (.mv 3 (.t 30))]))))))
 (.seq (.reg [.p (.mv 2 (.c (.bool true)))])
 .ret)))),
 38, 1, [.t 2]⟩
theorem m_spec_BoxOk : mF Try.prog 20 [] = some X_spec_BoxOk := by kernel_rfl
def X_laws_toBox : XF := ⟨(.seq (.reg [.p (.box 1 (.t 0)), .p (.alloc 2 [(.lit (.string (ba []))), (.sl true 1 []), (.lit (.bool false))])])
 (.seq (.reg [.p (.alloc 3 [(.lit (.string (ba []))), (.sl true 1 []), (.lit (.bool false))])])
 (.seq (.reg [.p (.fadr 4 (.t 1) 0), .p (.load 5 (.t 4) 1 false), .p (.fadr 6 (.t 3) 0), .p (.store (.t 6) (.t 5) 1)])
 (.seq (.reg [.p (.fadr 7 (.t 1) 1), .p (.load 8 (.t 7) 1 false), .p (.callB 9 n_laws_toStringS [((.t 8), 0)]), .p (.fadr 10 (.t 3) 1), .p (.store (.t 10) (.t 9) 1)])
 (.seq (.reg [.p (.fadr 11 (.t 1) 2), .p (.load 12 (.t 11) 1 false), .p (.fadr 13 (.t 3) 2), .p (.store (.t 13) (.t 12) 1)])
 (.seq (.reg [.p (.load 14 (.t 3) 3 true), .p (.store (.t 2) (.t 14) 3)])
 .ret)))))),
 15, 1, [.c 2 3 true]⟩
theorem m_laws_toBox : mF Try.prog 21 [] = some X_laws_toBox := by kernel_rfl
def X_impl_BoxOk : XF := ⟨(.seq (.reg [.p (.box 1 (.t 0)), .p (.mv 2 (.c (.bool false)))])
 (.seq (.reg [.p (.fadr 3 (.t 1) 0), .p (.load 4 (.t 3) 1 false), .p (.callB 5 n_impl_NameOk [((.t 4), 0)]), .p (.mv 6 (.t 5)), .g 6 true (some 7) (.fadr 7 (.t 1) 1), .g 6 true (some 8) (.load 8 (.t 7) 1 false), .g 6 true (some 9) (.lenB 9 (.t 8)), .g 6 true (some 10) (.bin 10 false .leq (.t 9) (.c (.int .i64 5))), .p (.pick 11 (.t 6) (.t 10) (.c (.bool false))), .p (.mv 12 (.t 11)), .g 12 true (some 13) (.fadr 13 (.t 1) 1), .g 12 true (some 14) (.load 14 (.t 13) 1 false), .g 12 true (some 15) (.callB 15 n_impl_areShort [((.t 14), 0)]), .p (.pick 16 (.t 12) (.t 15) (.c (.bool false))), .p (.mv 17 (.t 16)), .g 17 true (some 18) (.fadr 18 (.t 1) 2), .g 17 true (some 19) (.load 19 (.t 18) 1 false), .g 17 true (some 20) (.mv 20 (.t 19)), .g 20 true (some 21) (.fadr 21 (.t 1) 1), .g 20 true (some 22) (.load 22 (.t 21) 1 false), .g 20 true (some 23) (.lenB 23 (.t 22)), .g 20 true (some 24) (.bin 24 false .gtr (.t 23) (.c (.int .i64 0))), .g 17 true (some 25) (.pick 25 (.t 20) (.t 24) (.c (.bool false))), .g 17 true (some 26) (.un 26 .not (.t 25)), .p (.pick 27 (.t 17) (.t 26) (.c (.bool false))), .p (.mv 2 (.t 27))])
 .ret)),
 28, 1, [.t 2]⟩
theorem m_impl_BoxOk : mF Try.prog 22 [] = some X_impl_BoxOk := by kernel_rfl
def X_laws_eqBox : XF := ⟨(.seq (.reg [.p (.box 2 (.t 0)), .p (.box 3 (.t 1)), .p (.mv 4 (.c (.bool false)))])
 (.seq (.seq (.reg [.p (.fadr 5 (.t 2) 0), .p (.load 6 (.t 5) 1 false), .p (.fadr 7 (.t 3) 0), .p (.load 8 (.t 7) 1 false), .p (.bin 9 false .neq (.t 6) (.t 8))])
 (.cond (.t 9) (.seq (.reg [.p (.mv 4 (.c (.bool false)))])
 .ret) .skip))
 (.seq (.seq (.reg [.p (.fadr 10 (.t 2) 1), .p (.load 11 (.t 10) 1 false), .p (.fadr 12 (.t 3) 1), .p (.load 13 (.t 12) 1 false), .p (.callB 14 n_laws_eqStringS [((.t 11), 0), ((.t 13), 0)]), .p (.un 15 .not (.t 14))])
 (.cond (.t 15) (.seq (.reg [.p (.mv 4 (.c (.bool false)))])
 .ret) .skip))
 (.seq (.seq (.reg [.p (.fadr 16 (.t 2) 2), .p (.load 17 (.t 16) 1 false), .p (.fadr 18 (.t 3) 2), .p (.load 19 (.t 18) 1 false), .p (.bin 20 true .neq (.t 17) (.t 19))])
 (.cond (.t 20) (.seq (.reg [.p (.mv 4 (.c (.bool false)))])
 .ret) .skip))
 (.seq (.reg [.p (.mv 4 (.c (.bool true)))])
 .ret))))),
 21, 2, [.t 4]⟩
theorem m_laws_eqBox : mF Try.prog 23 [] = some X_laws_eqBox := by kernel_rfl
def X_laws_big : XF := ⟨(.seq (.reg [.p (.mv 2 (.c (.bool false)))])
 (.seq (.reg [.p (.mv 3 (.t 0)), .p (.lenB 4 (.t 3)), .p (.bin 5 false .gtr (.t 4) (.c (.int .i64 1048576))), .p (.mv 2 (.t 5))])
 .ret)),
 6, 1, [.t 2]⟩
theorem m_laws_big : mF Try.prog 24 [] = some X_laws_big := by kernel_rfl
def X_spec_DrawTexts : XF := ⟨(.seq (.reg [.p (.mv 2 (.nil 1))])
 (.seq (.reg [.p (.mv 6 (.t 0)), .p (.callB 7 n_spec_l01New [((.t 6), 0)]), .p (.mv 3 (.t 7))])
 (.seq (.reg [.p (.bldS 8 0 [(.lit (.string (ba [])))] []), .p (.mv 4 (.t 8))])
 (.seq (.seq (.reg [.p (.mv 5 (.c (.int .i64 0)))])
 (.block 0 (.loop (.seq (.seq (.reg [.p (.mv 9 (.t 5)), .p (.mv 10 (.t 3)), .p (.callB 11 n_spec_l01Below [((.t 10), 3), ((.c (.int .i64 9)), 0)]), .p (.bin 12 false .lss (.t 9) (.t 11))])
 (.cond (.t 12) .skip (.exit 0)))
 (.seq (.block 1 (.reg [.p (.mv 15 (.t 4)), .p (.mv 16 (.t 3)), .p (.mv 17 (.t 3)), .p (.callB 18 n_spec_l01Below [((.t 17), 3), ((.c (.int .i64 12)), 0)]), .p (.callB 19 n_spec_l01Text [((.t 16), 3), ((.t 18), 0)]), .p (.bldS 20 1 [(.lit (.string (ba [])))] [⟨0, 1, (.t 19)⟩]), .p (.app 21 1 16 (.t 15) (.t 20)), .p (.mv 4 (.t 21))]))
 (.reg [.p (.mv 13 (.t 5)), .p (.bin 14 false .add (.t 13) (.c (.int .i64 1))), .p (.mv 5 (.t 14))]))))))
 (.seq (.reg [.p (.mv 22 (.t 4)), .p (.mv 2 (.t 22))])
 .ret))))),
 23, 1, [.t 2]⟩
theorem m_spec_DrawTexts : mF Try.prog 25 [] = some X_spec_DrawTexts := by kernel_rfl
def X_impl_Drop : XF := ⟨(.seq (.reg [.p (.box 2 (.t 0)), .p (.alloc 4 [(.lit (.string (ba []))), (.sl true 1 []), (.lit (.bool false))])])
 (.seq (.reg [.p (.load 6 (.t 2) 3 true), .p (.callB 7 n_impl_copyBox [((.t 6), 0)]), .p (.alloc 5 [(.lit (.string (ba []))), (.sl true 1 []), (.lit (.bool false))]), .p (.store (.t 5) (.t 7) 3)])
 (.seq (.seq (.reg [.p (.fadr 8 (.t 2) 2), .p (.load 9 (.t 8) 1 false), .p (.mv 10 (.t 9)), .g 10 false (some 11) (.mv 11 (.t 1)), .g 10 false (some 12) (.lenS 12 (.t 11)), .g 10 false (some 13) (.bin 13 false .gtr (.t 12) (.c (.int .i64 60))), .p (.pick 14 (.t 10) (.c (.bool true)) (.t 13)), .p (.mv 15 (.t 14)), .g 15 false (some 16) (.load 16 (.t 2) 3 true), .g 15 false (some 17) (.callB 17 n_impl_BoxOk [((.t 16), 0)]), .g 15 false (some 18) (.un 18 .not (.t 17)), .p (.pick 19 (.t 15) (.c (.bool true)) (.t 18))])
 (.cond (.t 19) (.seq (.reg [.p (.load 20 (.t 5) 3 true), .p (.store (.t 4) (.t 20) 3)])
 .ret) .skip))
 (.seq (.seq (.reg [.p (.fadr 21 (.t 5) 1), .p (.load 22 (.t 21) 1 false), .p (.lenB 23 (.t 22)), .p (.bin 24 false .eql (.t 23) (.c (.int .i64 5)))])
 (.cond (.t 24) (.seq (.reg [.p (.fadr 25 (.t 2) 0), .p (.load 26 (.t 25) 1 false), .p (.bld 27 [(.lit (.string (ba []))), (.sl true 1 []), (.lit (.bool false))] [⟨0, 1, (.t 26)⟩, ⟨2, 1, (.c (.bool true))⟩]), .p (.store (.t 4) (.t 27) 3)])
 .ret) .skip))
 (.seq (.reg [.p (.fadr 28 (.t 5) 1), .p (.load 29 (.t 28) 1 false), .p (.mv 30 (.t 1)), .p (.bldS 31 1 [(.lit (.string (ba [])))] [⟨0, 1, (.t 30)⟩]), .p (.app 32 1 16 (.t 29) (.t 31)), .p (.fadr 33 (.t 5) 1), .p (.store (.t 33) (.t 32) 1)])
 (.seq (.reg [.p (.load 34 (.t 5) 3 true), .p (.store (.t 4) (.t 34) 3)])
 .ret)))))),
 35, 2, [.c 4 3 true]⟩
theorem m_impl_Drop : mF Try.prog 26 [] = some X_impl_Drop := by kernel_rfl
-- NONE 27 loop.example/g00183/impl.Fetch
def X_laws_szAsk : XF := ⟨(.seq (.reg [.p (.box 2 (.t 0)), .p (.mv 4 (.c (.int .i64 0)))])
 (.seq (.reg [.p (.mv 5 (.t 1)), .p (.fadr 6 (.t 2) 1), .p (.load 7 (.t 6) 1 false), .p (.lenS 8 (.t 7)), .p (.bin 9 false .sub (.t 5) (.t 8)), .p (.mv 1 (.t 9))])
 (.seq (.seq (.reg [.p (.mv 10 (.t 1)), .p (.bin 11 false .lss (.t 10) (.c (.int .i64 0)))])
 (.cond (.t 11) (.seq (.reg [.p (.mv 4 (.c (.int .i64 (-1))))])
 .ret) .skip))
 (.seq (.reg [.p (.fadr 12 (.t 2) 2), .p (.load 13 (.t 12) 1 false), .p (.mv 14 (.t 1)), .p (.callB 15 n_laws_szStringS [((.t 13), 0), ((.t 14), 0)]), .p (.mv 1 (.t 15))])
 (.seq (.seq (.reg [.p (.mv 16 (.t 1)), .p (.bin 17 false .lss (.t 16) (.c (.int .i64 0)))])
 (.cond (.t 17) (.seq (.reg [.p (.mv 4 (.c (.int .i64 (-1))))])
 .ret) .skip))
 (.seq (.reg [.p (.mv 18 (.t 1)), .p (.fadr 19 (.t 2) 4), .p (.load 20 (.t 19) 1 false), .p (.lenS 21 (.t 20)), .p (.bin 22 false .sub (.t 18) (.t 21)), .p (.mv 1 (.t 22))])
 (.seq (.seq (.reg [.p (.mv 23 (.t 1)), .p (.bin 24 false .lss (.t 23) (.c (.int .i64 0)))])
 (.cond (.t 24) (.seq (.reg [.p (.mv 4 (.c (.int .i64 (-1))))])
 .ret) .skip))
 (.seq (.reg [.p (.mv 25 (.t 1)), .p (.mv 4 (.t 25))])
 .ret)))))))),
 26, 2, [.t 4]⟩
theorem m_laws_szAsk : mF Try.prog 28 [] = some X_laws_szAsk := by kernel_rfl
def X_spec_AskOk : XF := ⟨(.seq (.reg [.p (.box 1 (.t 0)), .p (.mv 2 (.c (.bool false)))])
 (.seq (.seq (.reg [.p (.fadr 3 (.t 1) 2), .p (.load 4 (.t 3) 1 false), .p (.callB 5 n_spec_l17Names [((.t 4), 0)]), .p (.un 6 .not (.t 5))])
 (.cond (.t 6) (.seq (.reg [.p (.mv 2 (.c (.bool false)))])
 .ret) .skip))
 (.seq (.seq (.reg [.p (.fadr 7 (.t 1) 0), .p (.load 8 (.t 7) 1 false)])
 (.block 0 (.seq (.reg [.p (.bin 10 false .eql (.t 8) (.c (.int .i64 1))), .p (.mv 9 (.t 10))])
 (.cond (.t 9) (.seq (.reg [.p (.fadr 11 (.t 1) 1), .p (.load 12 (.t 11) 1 false), .p (.callB 13 n_spec_NameOk [((.t 12), 0)]), .p (.mv 14 (.t 13)), .g 14 true (some 15) (.fadr 15 (.t 1) 2), .g 14 true (some 16) (.load 16 (.t 15) 1 false), .g 14 true (some 17) (.lenB 17 (.t 16)), .g 14 true (some 18) (.bin 18 false .eql (.t 17) (.c (.int .i64 0))), .p (.pick 19 (.t 14) (.t 18) (.c (.bool false))), .p (.mv 20 (.t 19)), .g 20 true (some 21) (.fadr 21 (.t 1) 3), .g 20 true (some 22) (.load 22 (.t 21) 1 false), .g 20 true (some 23) (.bin 23 false .eql (.t 22) (.c (.int .i64 0))), .p (.pick 24 (.t 20) (.t 23) (.c (.bool false))), .p (.mv 25 (.t 24)), .g 25 true (some 26) (.fadr 26 (.t 1) 4), .g 25 true (some 27) (.load 27 (.t 26) 1 false), .g 25 true (some 28) (.bin 28 false .eql (.t 27) (.c (.string (ba [])))), .p (.pick 29 (.t 25) (.t 28) (.c (.bool false))), .p (.mv 2 (.t 29))])
 .ret) (.seq (.seq (.reg [.p (.bin 31 false .eql (.t 8) (.c (.int .i64 2))), .p (.mv 30 (.t 31))])
 (.cond (.t 30) .skip (.reg [.p (.bin 32 false .eql (.t 8) (.c (.int .i64 3))), .p (.mv 30 (.t 32))])))
 (.cond (.t 30) (.seq (.reg [.p (.fadr 33 (.t 1) 1), .p (.load 34 (.t 33) 1 false), .p (.bin 35 false .eql (.t 34) (.c (.string (ba [])))), .p (.mv 36 (.t 35)), .g 36 true (some 37) (.fadr 37 (.t 1) 2), .g 36 true (some 38) (.load 38 (.t 37) 1 false), .g 36 true (some 39) (.lenB 39 (.t 38)), .g 36 true (some 40) (.bin 40 false .eql (.t 39) (.c (.int .i64 1))), .p (.pick 41 (.t 36) (.t 40) (.c (.bool false))), .p (.mv 42 (.t 41)), .g 42 true (some 43) (.fadr 43 (.t 1) 3), .g 42 true (some 44) (.load 44 (.t 43) 1 false), .g 42 true (some 45) (.bin 45 false .eql (.t 44) (.c (.int .i64 0))), .p (.pick 46 (.t 42) (.t 45) (.c (.bool false))), .p (.mv 47 (.t 46)), .g 47 true (some 48) (.fadr 48 (.t 1) 4), .g 47 true (some 49) (.load 49 (.t 48) 1 false), .g 47 true (some 50) (.bin 50 false .eql (.t 49) (.c (.string (ba [])))), .p (.pick 51 (.t 47) (.t 50) (.c (.bool false))), .p (.mv 2 (.t 51))])
 .ret) (.seq (.reg [.p (.bin 53 false .eql (.t 8) (.c (.int .i64 4))), .p (.mv 52 (.t 53))])
 (.cond (.t 52) (.seq (.reg [.p (.fadr 54 (.t 1) 1), .p (.load 55 (.t 54) 1 false), .p (.bin 56 false .eql (.t 55) (.c (.string (ba [])))), .p (.mv 57 (.t 56)), .g 57 true (some 58) (.fadr 58 (.t 1) 2), .g 57 true (some 59) (.load 59 (.t 58) 1 false), .g 57 true (some 60) (.lenB 60 (.t 59)), .g 57 true (some 61) (.callB 61 n_spec_l01In [((.t 60), 0), ((.c (.int .i64 1)), 0), ((.c (.int .i64 3)), 0)]), .p (.pick 62 (.t 57) (.t 61) (.c (.bool false))), .p (.mv 63 (.t 62)), .g 63 true (some 64) (.fadr 64 (.t 1) 3), .g 63 true (some 65) (.load 65 (.t 64) 1 false), .g 63 true (some 66) (.callB 66 n_spec_l01In [((.t 65), 0), ((.c (.int .i64 1)), 0), ((.c (.int .i64 2)), 0)]), .p (.pick 67 (.t 63) (.t 66) (.c (.bool false))), .p (.mv 68 (.t 67)), .g 68 true (some 69) (.fadr 69 (.t 1) 4), .g 68 true (some 70) (.load 70 (.t 69) 1 false), .g 68 true (some 71) (.lenS 71 (.t 70)), .g 68 true (some 72) (.bin 72 false .leq (.t 71) (.c (.int .i64 20))), .p (.pick 73 (.t 68) (.t 72) (.c (.bool false))), .p (.mv 2 (.t 73))])
 .ret) (.seq (.reg [.p (.bin 75 false .eql (.t 8) (.c (.int .i64 5))), .p (.mv 74 (.t 75))])
 (.cond (.t 74) (.seq (.reg [.p (.fadr 76 (.t 1) 1), .p (.load 77 (.t 76) 1 false), .p (.bin 78 false .eql (.t 77) (.c (.string (ba [])))), .p (.mv 79 (.t 78)), .g 79 true (some 80) (.fadr 80 (.t 1) 2), .g 79 true (some 81) (.load 81 (.t 80) 1 false), .g 79 true (some 82) (.lenB 82 (.t 81)), .g 79 true (some 83) (.bin 83 false .eql (.t 82) (.c (.int .i64 0))), .p (.pick 84 (.t 79) (.t 83) (.c (.bool false))), .p (.mv 85 (.t 84)), .g 85 true (some 86) (.fadr 86 (.t 1) 3), .g 85 true (some 87) (.load 87 (.t 86) 1 false), .g 85 true (some 88) (.bin 88 false .eql (.t 87) (.c (.int .i64 0))), .p (.pick 89 (.t 85) (.t 88) (.c (.bool false))), .p (.mv 90 (.t 89)), .g 90 true (some 91) (.fadr 91 (.t 1) 4), .g 90 true (some 92) (.load 92 (.t 91) 1 false), .g 90 true (some 93) (.bin 93 false .eql (.t 92) (.c (.string (ba [])))), .p (.pick 94 (.t 90) (.t 93) (.c (.bool false))), .p (.mv 2 (.t 94))])
 .ret) .skip))))))))))
 (.seq (.reg [.p (.mv 2 (.c (.bool false)))])
 .ret)))),
 95, 1, [.t 2]⟩
theorem m_spec_AskOk : mF Try.prog 29 [] = some X_spec_AskOk := by kernel_rfl
def X_laws_toAsk : XF := ⟨(.seq (.reg [.p (.box 1 (.t 0)), .p (.alloc 2 [(.lit (.int .i64 0)), (.lit (.string (ba []))), (.sl true 1 []), (.lit (.int .i64 0)), (.lit (.string (ba [])))])])
 (.seq (.reg [.p (.alloc 3 [(.lit (.int .i64 0)), (.lit (.string (ba []))), (.sl true 1 []), (.lit (.int .i64 0)), (.lit (.string (ba [])))])])
 (.seq (.reg [.p (.fadr 4 (.t 1) 0), .p (.load 5 (.t 4) 1 false), .p (.fadr 6 (.t 3) 0), .p (.store (.t 6) (.t 5) 1)])
 (.seq (.reg [.p (.fadr 7 (.t 1) 1), .p (.load 8 (.t 7) 1 false), .p (.fadr 9 (.t 3) 1), .p (.store (.t 9) (.t 8) 1)])
 (.seq (.reg [.p (.fadr 10 (.t 1) 2), .p (.load 11 (.t 10) 1 false), .p (.callB 12 n_laws_toStringS [((.t 11), 0)]), .p (.fadr 13 (.t 3) 2), .p (.store (.t 13) (.t 12) 1)])
 (.seq (.reg [.p (.fadr 14 (.t 1) 3), .p (.load 15 (.t 14) 1 false), .p (.fadr 16 (.t 3) 3), .p (.store (.t 16) (.t 15) 1)])
 (.seq (.reg [.p (.fadr 17 (.t 1) 4), .p (.load 18 (.t 17) 1 false), .p (.fadr 19 (.t 3) 4), .p (.store (.t 19) (.t 18) 1)])
 (.seq (.reg [.p (.load 20 (.t 3) 5 true), .p (.store (.t 2) (.t 20) 5)])
 .ret)))))))),
 21, 1, [.c 2 5 true]⟩
theorem m_laws_toAsk : mF Try.prog 30 [] = some X_laws_toAsk := by kernel_rfl
def X_impl_AskOk : XF := ⟨(.seq (.reg [.p (.box 1 (.t 0)), .p (.mv 2 (.c (.bool false)))])
 (.seq (.reg [.p (.fadr 5 (.t 1) 2), .p (.load 6 (.t 5) 1 false), .p (.lenB 7 (.t 6)), .p (.mv 3 (.t 7))])
 (.seq (.reg [.p (.fadr 8 (.t 1) 3), .p (.load 9 (.t 8) 1 false), .p (.bin 10 false .eql (.t 9) (.c (.int .i64 0))), .p (.mv 11 (.t 10)), .g 11 true (some 12) (.fadr 12 (.t 1) 4), .g 11 true (some 13) (.load 13 (.t 12) 1 false), .g 11 true (some 14) (.bin 14 false .eql (.t 13) (.c (.string (ba [])))), .p (.pick 15 (.t 11) (.t 14) (.c (.bool false))), .p (.mv 4 (.t 15))])
 (.seq (.seq (.reg [.p (.fadr 16 (.t 1) 0), .p (.load 17 (.t 16) 1 false)])
 (.block 0 (.seq (.reg [.p (.bin 19 false .eql (.t 17) (.c (.int .i64 1))), .p (.mv 18 (.t 19))])
 (.cond (.t 18) (.seq (.reg [.p (.fadr 20 (.t 1) 1), .p (.load 21 (.t 20) 1 false), .p (.callB 22 n_impl_NameOk [((.t 21), 0)]), .p (.mv 23 (.t 22)), .g 23 true (some 24) (.mv 24 (.t 3)), .g 23 true (some 25) (.bin 25 false .eql (.t 24) (.c (.int .i64 0))), .p (.pick 26 (.t 23) (.t 25) (.c (.bool false))), .p (.mv 27 (.t 26)), .g 27 true (some 28) (.mv 28 (.t 4)), .p (.pick 29 (.t 27) (.t 28) (.c (.bool false))), .p (.mv 2 (.t 29))])
 .ret) (.seq (.seq (.reg [.p (.bin 31 false .eql (.t 17) (.c (.int .i64 2))), .p (.mv 30 (.t 31))])
 (.cond (.t 30) .skip (.reg [.p (.bin 32 false .eql (.t 17) (.c (.int .i64 3))), .p (.mv 30 (.t 32))])))
 (.cond (.t 30) (.seq (.reg [.p (.fadr 33 (.t 1) 1), .p (.load 34 (.t 33) 1 false), .p (.bin 35 false .eql (.t 34) (.c (.string (ba [])))), .p (.mv 36 (.t 35)), .g 36 true (some 37) (.mv 37 (.t 3)), .g 36 true (some 38) (.bin 38 false .eql (.t 37) (.c (.int .i64 1))), .p (.pick 39 (.t 36) (.t 38) (.c (.bool false))), .p (.mv 40 (.t 39)), .g 40 true (some 41) (.fadr 41 (.t 1) 2), .g 40 true (some 42) (.load 42 (.t 41) 1 false), .g 40 true (some 43) (.callB 43 n_impl_areNames [((.t 42), 0)]), .p (.pick 44 (.t 40) (.t 43) (.c (.bool false))), .p (.mv 45 (.t 44)), .g 45 true (some 46) (.mv 46 (.t 4)), .p (.pick 47 (.t 45) (.t 46) (.c (.bool false))), .p (.mv 2 (.t 47))])
 .ret) (.seq (.reg [.p (.bin 49 false .eql (.t 17) (.c (.int .i64 4))), .p (.mv 48 (.t 49))])
 (.cond (.t 48) (.seq (.reg [.p (.fadr 50 (.t 1) 1), .p (.load 51 (.t 50) 1 false), .p (.bin 52 false .eql (.t 51) (.c (.string (ba [])))), .p (.mv 53 (.t 52)), .g 53 true (some 54) (.mv 54 (.t 3)), .g 53 true (some 55) (.callB 55 n_impl_inRange [((.t 54), 0), ((.c (.int .i64 1)), 0), ((.c (.int .i64 3)), 0)]), .p (.pick 56 (.t 53) (.t 55) (.c (.bool false))), .p (.mv 57 (.t 56)), .g 57 true (some 58) (.fadr 58 (.t 1) 2), .g 57 true (some 59) (.load 59 (.t 58) 1 false), .g 57 true (some 60) (.callB 60 n_impl_areNames [((.t 59), 0)]), .p (.pick 61 (.t 57) (.t 60) (.c (.bool false))), .p (.mv 62 (.t 61)), .g 62 true (some 63) (.fadr 63 (.t 1) 3), .g 62 true (some 64) (.load 64 (.t 63) 1 false), .g 62 true (some 65) (.callB 65 n_impl_isLevel [((.t 64), 0)]), .p (.pick 66 (.t 62) (.t 65) (.c (.bool false))), .p (.mv 67 (.t 66)), .g 67 true (some 68) (.fadr 68 (.t 1) 4), .g 67 true (some 69) (.load 69 (.t 68) 1 false), .g 67 true (some 70) (.lenS 70 (.t 69)), .g 67 true (some 71) (.bin 71 false .leq (.t 70) (.c (.int .i64 20))), .p (.pick 72 (.t 67) (.t 71) (.c (.bool false))), .p (.mv 2 (.t 72))])
 .ret) (.seq (.reg [.p (.bin 74 false .eql (.t 17) (.c (.int .i64 5))), .p (.mv 73 (.t 74))])
 (.cond (.t 73) (.seq (.reg [.p (.fadr 75 (.t 1) 1), .p (.load 76 (.t 75) 1 false), .p (.bin 77 false .eql (.t 76) (.c (.string (ba [])))), .p (.mv 78 (.t 77)), .g 78 true (some 79) (.mv 79 (.t 3)), .g 78 true (some 80) (.bin 80 false .eql (.t 79) (.c (.int .i64 0))), .p (.pick 81 (.t 78) (.t 80) (.c (.bool false))), .p (.mv 82 (.t 81)), .g 82 true (some 83) (.mv 83 (.t 4)), .p (.pick 84 (.t 82) (.t 83) (.c (.bool false))), .p (.mv 2 (.t 84))])
 .ret) .skip))))))))))
 (.seq (.reg [.p (.mv 2 (.c (.bool false)))])
 .ret))))),
 85, 1, [.t 2]⟩
theorem m_impl_AskOk : mF Try.prog 31 [] = some X_impl_AskOk := by kernel_rfl
def X_laws_eqAsk : XF := ⟨(.seq (.reg [.p (.box 2 (.t 0)), .p (.box 3 (.t 1)), .p (.mv 4 (.c (.bool false)))])
 (.seq (.seq (.reg [.p (.fadr 5 (.t 2) 0), .p (.load 6 (.t 5) 1 false), .p (.fadr 7 (.t 3) 0), .p (.load 8 (.t 7) 1 false), .p (.bin 9 false .neq (.t 6) (.t 8))])
 (.cond (.t 9) (.seq (.reg [.p (.mv 4 (.c (.bool false)))])
 .ret) .skip))
 (.seq (.seq (.reg [.p (.fadr 10 (.t 2) 1), .p (.load 11 (.t 10) 1 false), .p (.fadr 12 (.t 3) 1), .p (.load 13 (.t 12) 1 false), .p (.bin 14 false .neq (.t 11) (.t 13))])
 (.cond (.t 14) (.seq (.reg [.p (.mv 4 (.c (.bool false)))])
 .ret) .skip))
 (.seq (.seq (.reg [.p (.fadr 15 (.t 2) 2), .p (.load 16 (.t 15) 1 false), .p (.fadr 17 (.t 3) 2), .p (.load 18 (.t 17) 1 false), .p (.callB 19 n_laws_eqStringS [((.t 16), 0), ((.t 18), 0)]), .p (.un 20 .not (.t 19))])
 (.cond (.t 20) (.seq (.reg [.p (.mv 4 (.c (.bool false)))])
 .ret) .skip))
 (.seq (.seq (.reg [.p (.fadr 21 (.t 2) 3), .p (.load 22 (.t 21) 1 false), .p (.fadr 23 (.t 3) 3), .p (.load 24 (.t 23) 1 false), .p (.bin 25 false .neq (.t 22) (.t 24))])
 (.cond (.t 25) (.seq (.reg [.p (.mv 4 (.c (.bool false)))])
 .ret) .skip))
 (.seq (.seq (.reg [.p (.fadr 26 (.t 2) 4), .p (.load 27 (.t 26) 1 false), .p (.fadr 28 (.t 3) 4), .p (.load 29 (.t 28) 1 false), .p (.bin 30 false .neq (.t 27) (.t 29))])
 (.cond (.t 30) (.seq (.reg [.p (.mv 4 (.c (.bool false)))])
 .ret) .skip))
 (.seq (.reg [.p (.mv 4 (.c (.bool true)))])
 .ret))))))),
 31, 2, [.t 4]⟩
theorem m_laws_eqAsk : mF Try.prog 32 [] = some X_laws_eqAsk := by kernel_rfl
def X_laws_szSession : XF := ⟨(.seq (.reg [.p (.box 2 (.t 0)), .p (.mv 4 (.c (.int .i64 0)))])
 (.seq (.reg [.p (.mv 5 (.t 1)), .p (.fadr 6 (.t 2) 1), .p (.load 7 (.t 6) 1 false), .p (.lenS 8 (.t 7)), .p (.bin 9 false .sub (.t 5) (.t 8)), .p (.mv 1 (.t 9))])
 (.seq (.seq (.reg [.p (.mv 10 (.t 1)), .p (.bin 11 false .lss (.t 10) (.c (.int .i64 0)))])
 (.cond (.t 11) (.seq (.reg [.p (.mv 4 (.c (.int .i64 (-1))))])
 .ret) .skip))
 (.seq (.reg [.p (.fadr 12 (.t 2) 2), .p (.load 13 (.t 12) 2 true), .p (.mv 14 (.t 1)), .p (.callB 15 n_laws_szReader [((.t 13), 0), ((.t 14), 0)]), .p (.mv 1 (.t 15))])
 (.seq (.seq (.reg [.p (.mv 16 (.t 1)), .p (.bin 17 false .lss (.t 16) (.c (.int .i64 0)))])
 (.cond (.t 17) (.seq (.reg [.p (.mv 4 (.c (.int .i64 (-1))))])
 .ret) .skip))
 (.seq (.reg [.p (.fadr 18 (.t 2) 5), .p (.load 19 (.t 18) 1 false), .p (.mv 20 (.t 1)), .p (.callB 21 n_laws_szStringS [((.t 19), 0), ((.t 20), 0)]), .p (.mv 1 (.t 21))])
 (.seq (.seq (.reg [.p (.mv 22 (.t 1)), .p (.bin 23 false .lss (.t 22) (.c (.int .i64 0)))])
 (.cond (.t 23) (.seq (.reg [.p (.mv 4 (.c (.int .i64 (-1))))])
 .ret) .skip))
 (.seq (.reg [.p (.mv 24 (.t 1)), .p (.mv 4 (.t 24))])
 .ret)))))))),
 25, 2, [.t 4]⟩
theorem m_laws_szSession : mF Try.prog 33 [] = some X_laws_szSession := by kernel_rfl
def X_spec_SessionOk : XF := ⟨(.seq (.reg [.p (.box 1 (.t 0)), .p (.mv 2 (.c (.bool false)))])
 (.seq (.seq (.reg [.p (.fadr 3 (.t 1) 0), .p (.load 4 (.t 3) 1 false), .p (.callB 5 n_spec_l01In [((.t 4), 0), ((.c (.int .i64 1)), 0), ((.c (.int .i64 5)), 0)]), .p (.un 6 .not (.t 5)), .p (.mv 7 (.t 6)), .g 7 false (some 8) (.fadr 8 (.t 1) 1), .g 7 false (some 9) (.load 9 (.t 8) 1 false), .g 7 false (some 10) (.bin 10 false .neq (.t 9) (.c (.string (ba [])))), .g 7 false (some 11) (.mv 11 (.t 10)), .g 11 true (some 12) (.fadr 12 (.t 1) 1), .g 11 true (some 13) (.load 13 (.t 12) 1 false), .g 11 true (some 14) (.callB 14 n_spec_NameOk [((.t 13), 0)]), .g 11 true (some 15) (.un 15 .not (.t 14)), .g 7 false (some 16) (.pick 16 (.t 11) (.t 15) (.c (.bool false))), .p (.pick 17 (.t 7) (.c (.bool true)) (.t 16)), .p (.mv 18 (.t 17)), .g 18 false (some 19) (.fadr 19 (.t 1) 2), .g 18 false (some 20) (.fadr 20 (.t 19) 1), .g 18 false (some 21) (.load 21 (.t 20) 1 false), .p (.pick 22 (.t 18) (.c (.bool true)) (.t 21)), .p (.mv 23 (.t 22)), .g 23 false (some 24) (.fadr 24 (.t 1) 2), .g 23 false (some 25) (.fadr 25 (.t 24) 0), .g 23 false (some 26) (.load 26 (.t 25) 1 false), .g 23 false (some 27) (.lenS 27 (.t 26)), .g 23 false (some 28) (.bin 28 false .gtr (.t 27) (.c (.int .i64 63))), .p (.pick 29 (.t 23) (.c (.bool true)) (.t 28)), .p (.mv 30 (.t 29)), .g 30 false (some 31) (.fadr 31 (.t 1) 5), .g 30 false (some 32) (.load 32 (.t 31) 1 false), .g 30 false (some 33) (.callB 33 n_spec_l17Names [((.t 32), 0)]), .g 30 false (some 34) (.un 34 .not (.t 33)), .p (.pick 35 (.t 30) (.c (.bool true)) (.t 34)), .p (.mv 36 (.t 35)), .g 36 false (some 37) (.fadr 37 (.t 1) 5), .g 36 false (some 38) (.load 38 (.t 37) 1 false), .g 36 false (some 39) (.lenB 39 (.t 38)), .g 36 false (some 40) (.bin 40 false .gtr (.t 39) (.c (.int .i64 6))), .p (.pick 41 (.t 36) (.c (.bool true)) (.t 40)), .p (.mv 42 (.t 41)), .g 42 false (some 43) (.fadr 43 (.t 1) 1), .g 42 false (some 44) (.load 44 (.t 43) 1 false), .g 42 false (some 45) (.bin 45 false .eql (.t 44) (.c (.string (ba [])))), .g 42 false (some 46) (.mv 46 (.t 45)), .g 46 true (some 47) (.fadr 47 (.t 1) 5), .g 46 true (some 48) (.load 48 (.t 47) 1 false), .g 46 true (some 49) (.lenB 49 (.t 48)), .g 46 true (some 50) (.bin 50 false .gtr (.t 49) (.c (.int .i64 0))), .g 42 false (some 51) (.pick 51 (.t 46) (.t 50) (.c (.bool false))), .p (.pick 52 (.t 42) (.c (.bool true)) (.t 51))])
 (.cond (.t 52) (.seq (.reg [.p (.mv 2 (.c (.bool false)))])
 .ret) .skip))
 (.seq (.reg [.p (.fadr 53 (.t 1) 4), .p (.load 54 (.t 53) 1 false), .p (.un 55 .not (.t 54)), .p (.mv 56 (.t 55)), .g 56 false (some 57) (.fadr 57 (.t 1) 2), .g 56 false (some 58) (.fadr 58 (.t 57) 0), .g 56 false (some 59) (.load 59 (.t 58) 1 false), .g 56 false (some 60) (.bin 60 false .eql (.t 59) (.c (.string (ba [])))), .g 56 false (some 61) (.mv 61 (.t 60)), .g 61 true (some 62) (.fadr 62 (.t 1) 5), .g 61 true (some 63) (.load 63 (.t 62) 1 false), .g 61 true (some 64) (.lenB 64 (.t 63)), .g 61 true (some 65) (.bin 65 false .eql (.t 64) (.c (.int .i64 0))), .g 56 false (some 66) (.pick 66 (.t 61) (.t 65) (.c (.bool false))), .g 56 false (some 67) (.mv 67 (.t 66)), .g 67 true (some 68) (.fadr 68 (.t 1) 1), .g 67 true (some 69) (.load 69 (.t 68) 1 false), .g 67 true (some 70) (.bin 70 false .eql (.t 69) (.c (.string (ba [])))), .g 56 false (some 71) (.pick 71 (.t 67) (.t 70) (.c (.bool false))), .p (.pick 72 (.t 56) (.c (.bool true)) (.t 71)), .p (.mv 2 (.t 72))])
 .ret))),
 73, 1, [.t 2]⟩
theorem m_spec_SessionOk : mF Try.prog 34 [] = some X_spec_SessionOk := by kernel_rfl
def X_laws_toSession : XF := ⟨(.seq (.reg [.p (.box 1 (.t 0)), .p (.alloc 2 [(.lit (.int .i64 0)), (.lit (.string (ba []))), (.lit (.string (ba []))), (.lit (.bool false)), (.lit (.bool false)), (.sl true 1 [])])])
 (.seq (.reg [.p (.alloc 3 [(.lit (.int .i64 0)), (.lit (.string (ba []))), (.lit (.string (ba []))), (.lit (.bool false)), (.lit (.bool false)), (.sl true 1 [])])])
 (.seq (.reg [.p (.fadr 4 (.t 1) 0), .p (.load 5 (.t 4) 1 false), .p (.fadr 6 (.t 3) 0), .p (.store (.t 6) (.t 5) 1)])
 (.seq (.reg [.p (.fadr 7 (.t 1) 1), .p (.load 8 (.t 7) 1 false), .p (.fadr 9 (.t 3) 1), .p (.store (.t 9) (.t 8) 1)])
 (.seq (.reg [.p (.fadr 10 (.t 1) 2), .p (.load 11 (.t 10) 2 true), .p (.callB 12 n_laws_toReader [((.t 11), 0)]), .p (.fadr 13 (.t 3) 2), .p (.store (.t 13) (.t 12) 2)])
 (.seq (.reg [.p (.fadr 14 (.t 1) 4), .p (.load 15 (.t 14) 1 false), .p (.fadr 16 (.t 3) 4), .p (.store (.t 16) (.t 15) 1)])
 (.seq (.reg [.p (.fadr 17 (.t 1) 5), .p (.load 18 (.t 17) 1 false), .p (.callB 19 n_laws_toStringS [((.t 18), 0)]), .p (.fadr 20 (.t 3) 5), .p (.store (.t 20) (.t 19) 1)])
 (.seq (.reg [.p (.load 21 (.t 3) 6 true), .p (.store (.t 2) (.t 21) 6)])
 .ret)))))))),
 22, 1, [.c 2 6 true]⟩
theorem m_laws_toSession : mF Try.prog 35 [] = some X_laws_toSession := by kernel_rfl
def X_impl_SessionOk : XF := ⟨(.seq (.reg [.p (.box 1 (.t 0)), .p (.mv 2 (.c (.bool false)))])
 (.seq (.seq (.reg [.p (.fadr 3 (.t 1) 0), .p (.load 4 (.t 3) 1 false), .p (.callB 5 n_impl_isDaemon [((.t 4), 0)]), .p (.un 6 .not (.t 5)), .p (.mv 7 (.t 6)), .g 7 false (some 8) (.fadr 8 (.t 1) 1), .g 7 false (some 9) (.load 9 (.t 8) 1 false), .g 7 false (some 10) (.bin 10 false .neq (.t 9) (.c (.string (ba [])))), .g 7 false (some 11) (.mv 11 (.t 10)), .g 11 true (some 12) (.fadr 12 (.t 1) 1), .g 11 true (some 13) (.load 13 (.t 12) 1 false), .g 11 true (some 14) (.callB 14 n_impl_NameOk [((.t 13), 0)]), .g 11 true (some 15) (.un 15 .not (.t 14)), .g 7 false (some 16) (.pick 16 (.t 11) (.t 15) (.c (.bool false))), .p (.pick 17 (.t 7) (.c (.bool true)) (.t 16)), .p (.mv 18 (.t 17)), .g 18 false (some 19) (.fadr 19 (.t 1) 2), .g 18 false (some 20) (.fadr 20 (.t 19) 1), .g 18 false (some 21) (.load 21 (.t 20) 1 false), .p (.pick 22 (.t 18) (.c (.bool true)) (.t 21)), .p (.mv 23 (.t 22)), .g 23 false (some 24) (.fadr 24 (.t 1) 2), .g 23 false (some 25) (.fadr 25 (.t 24) 0), .g 23 false (some 26) (.load 26 (.t 25) 1 false), .g 23 false (some 27) (.lenS 27 (.t 26)), .g 23 false (some 28) (.bin 28 false .gtr (.t 27) (.c (.int .i64 63))), .p (.pick 29 (.t 23) (.c (.bool true)) (.t 28))])
 (.cond (.t 29) (.seq (.reg [.p (.mv 2 (.c (.bool false)))])
 .ret) .skip))
 (.seq (.seq (.reg [.p (.fadr 30 (.t 1) 5), .p (.load 31 (.t 30) 1 false), .p (.callB 32 n_impl_areNames [((.t 31), 0)]), .p (.un 33 .not (.t 32)), .p (.mv 34 (.t 33)), .g 34 false (some 35) (.fadr 35 (.t 1) 5), .g 34 false (some 36) (.load 36 (.t 35) 1 false), .g 34 false (some 37) (.lenB 37 (.t 36)), .g 34 false (some 38) (.bin 38 false .gtr (.t 37) (.c (.int .i64 6))), .p (.pick 39 (.t 34) (.c (.bool true)) (.t 38)), .p (.mv 40 (.t 39)), .g 40 false (some 41) (.fadr 41 (.t 1) 1), .g 40 false (some 42) (.load 42 (.t 41) 1 false), .g 40 false (some 43) (.bin 43 false .eql (.t 42) (.c (.string (ba [])))), .g 40 false (some 44) (.mv 44 (.t 43)), .g 44 true (some 45) (.fadr 45 (.t 1) 5), .g 44 true (some 46) (.load 46 (.t 45) 1 false), .g 44 true (some 47) (.lenB 47 (.t 46)), .g 44 true (some 48) (.bin 48 false .gtr (.t 47) (.c (.int .i64 0))), .g 40 false (some 49) (.pick 49 (.t 44) (.t 48) (.c (.bool false))), .p (.pick 50 (.t 40) (.c (.bool true)) (.t 49))])
 (.cond (.t 50) (.seq (.reg [.p (.mv 2 (.c (.bool false)))])
 .ret) .skip))
 (.seq (.reg [.p (.fadr 51 (.t 1) 4), .p (.load 52 (.t 51) 1 false), .p (.un 53 .not (.t 52)), .p (.mv 54 (.t 53)), .g 54 false (some 55) (.fadr 55 (.t 1) 2), .g 54 false (some 56) (.fadr 56 (.t 55) 0), .g 54 false (some 57) (.load 57 (.t 56) 1 false), .g 54 false (some 58) (.bin 58 false .eql (.t 57) (.c (.string (ba [])))), .g 54 false (some 59) (.mv 59 (.t 58)), .g 59 true (some 60) (.fadr 60 (.t 1) 1), .g 59 true (some 61) (.load 61 (.t 60) 1 false), .g 59 true (some 62) (.bin 62 false .eql (.t 61) (.c (.string (ba [])))), .g 54 false (some 63) (.pick 63 (.t 59) (.t 62) (.c (.bool false))), .p (.pick 64 (.t 54) (.c (.bool true)) (.t 63)), .p (.mv 2 (.t 64))])
 .ret)))),
 65, 1, [.t 2]⟩
theorem m_impl_SessionOk : mF Try.prog 36 [] = some X_impl_SessionOk := by kernel_rfl
def X_laws_eqSession : XF := ⟨(.seq (.reg [.p (.box 2 (.t 0)), .p (.box 3 (.t 1)), .p (.mv 4 (.c (.bool false)))])
 (.seq (.seq (.reg [.p (.fadr 5 (.t 2) 0), .p (.load 6 (.t 5) 1 false), .p (.fadr 7 (.t 3) 0), .p (.load 8 (.t 7) 1 false), .p (.bin 9 false .neq (.t 6) (.t 8))])
 (.cond (.t 9) (.seq (.reg [.p (.mv 4 (.c (.bool false)))])
 .ret) .skip))
 (.seq (.seq (.reg [.p (.fadr 10 (.t 2) 1), .p (.load 11 (.t 10) 1 false), .p (.fadr 12 (.t 3) 1), .p (.load 13 (.t 12) 1 false), .p (.bin 14 false .neq (.t 11) (.t 13))])
 (.cond (.t 14) (.seq (.reg [.p (.mv 4 (.c (.bool false)))])
 .ret) .skip))
 (.seq (.seq (.reg [.p (.fadr 15 (.t 2) 2), .p (.load 16 (.t 15) 2 true), .p (.fadr 17 (.t 3) 2), .p (.load 18 (.t 17) 2 true), .p (.callB 19 n_laws_eqReader [((.t 16), 0), ((.t 18), 0)]), .p (.un 20 .not (.t 19))])
 (.cond (.t 20) (.seq (.reg [.p (.mv 4 (.c (.bool false)))])
 .ret) .skip))
 (.seq (.seq (.reg [.p (.fadr 21 (.t 2) 4), .p (.load 22 (.t 21) 1 false), .p (.fadr 23 (.t 3) 4), .p (.load 24 (.t 23) 1 false), .p (.bin 25 true .neq (.t 22) (.t 24))])
 (.cond (.t 25) (.seq (.reg [.p (.mv 4 (.c (.bool false)))])
 .ret) .skip))
 (.seq (.seq (.reg [.p (.fadr 26 (.t 2) 5), .p (.load 27 (.t 26) 1 false), .p (.fadr 28 (.t 3) 5), .p (.load 29 (.t 28) 1 false), .p (.callB 30 n_laws_eqStringS [((.t 27), 0), ((.t 29), 0)]), .p (.un 31 .not (.t 30))])
 (.cond (.t 31) (.seq (.reg [.p (.mv 4 (.c (.bool false)))])
 .ret) .skip))
 (.seq (.reg [.p (.mv 4 (.c (.bool true)))])
 .ret))))))),
 32, 2, [.t 4]⟩
theorem m_laws_eqSession : mF Try.prog 37 [] = some X_laws_eqSession := by kernel_rfl
def X_spec_ReadItem : XF := ⟨(.seq (.reg [.p (.alloc 2 [(.lit (.int .i64 0)), (.lit (.int .i64 0)), (.lit (.int .i64 0)), (.lit (.string (ba [])))]), .p (.mv 3 (.c (.bool false)))])
 (.seq (.reg [.p (.mv 8 (.t 0)), .p (.bld 9 [(.lit (.string (ba []))), (.lit (.int .i64 0)), (.lit (.bool false))] [⟨0, 1, (.t 8)⟩]), .p (.box 10 (.t 9)), .p (.mv 4 (.t 10))])
 (.seq (.reg [.p (.mv 11 (.t 4)), .p (.callB 12 n_spec_l05Var [((.t 11), 3)]), .p (.bld 13 [(.lit (.int .i64 0)), (.lit (.int .i64 0)), (.lit (.int .i64 0)), (.lit (.string (ba [])))] [⟨0, 1, (.t 12)⟩]), .p (.alloc 5 [(.lit (.int .i64 0)), (.lit (.int .i64 0)), (.lit (.int .i64 0)), (.lit (.string (ba [])))]), .p (.store (.t 5) (.t 13) 4)])
 (.seq (.reg [.p (.mv 14 (.t 4)), .p (.callB 15 n_spec_l05One [((.t 14), 3)]), .p (.fadr 16 (.t 5) 1), .p (.store (.t 16) (.t 15) 1)])
 (.seq (.reg [.p (.mv 17 (.t 4)), .p (.callB 18 n_spec_l05One [((.t 17), 3)]), .p (.fadr 19 (.t 5) 2), .p (.store (.t 19) (.t 18) 1)])
 (.seq (.reg [.p (.mv 20 (.t 4)), .p (.callB 21 n_spec_l05ReadShort [((.t 20), 3)]), .p (.fadr 22 (.t 5) 3), .p (.store (.t 22) (.t 21) 1)])
 (.seq (.reg [.p (.load 24 (.t 5) 4 true), .p (.callB 25 n_spec_ItemText [((.t 24), 0)]), .p (.mv 23 (.t 25)), .p (.ext 26 (.t 23) 0), .p (.ext 27 (.t 23) 1), .p (.mv 6 (.t 26)), .p (.mv 7 (.t 27))])
 (.seq (.seq (.reg [.p (.mv 28 (.t 4)), .p (.nilck 29 (.t 28)), .p (.fadr 30 (.t 29) 2), .p (.load 31 (.t 30) 1 false), .p (.mv 32 (.t 31)), .g 32 false (some 33) (.mv 33 (.t 7)), .g 32 false (some 34) (.un 34 .not (.t 33)), .p (.pick 35 (.t 32) (.c (.bool true)) (.t 34)), .p (.mv 36 (.t 35)), .g 36 false (some 37) (.mv 37 (.t 6)), .g 36 false (some 38) (.mv 38 (.t 0)), .g 36 false (some 39) (.bin 39 false .neq (.t 37) (.t 38)), .p (.pick 40 (.t 36) (.c (.bool true)) (.t 39))])
 (.cond (.t 40) (.seq (.reg [.p (.bld 41 [(.lit (.int .i64 0)), (.lit (.int .i64 0)), (.lit (.int .i64 0)), (.lit (.string (ba [])))] []), .p (.store (.t 2) (.t 41) 4), .p (.mv 3 (.c (.bool false)))])
 .ret) .skip))
 (.seq (.reg [.p (.load 42 (.t 5) 4 true), .p (.store (.t 2) (.t 42) 4), .p (.mv 3 (.c (.bool true)))])
 .ret))))))))),
 43, 1, [.c 2 4 true, .t 3]⟩
theorem m_spec_ReadItem : mF Try.prog 38 [] = some X_spec_ReadItem := by kernel_rfl
def X_impl_ReadItem : XF := ⟨(.seq (.reg [.p (.alloc 2 [(.lit (.int .i64 0)), (.lit (.int .i64 0)), (.lit (.int .i64 0)), (.lit (.string (ba [])))]), .p (.mv 3 (.c (.bool false)))])
 (.seq (.reg [.p (.mv 6 (.t 0)), .p (.bld 7 [(.lit (.string (ba []))), (.lit (.int .i64 0)), (.lit (.bool false))] [⟨0, 1, (.t 6)⟩]), .p (.alloc 4 [(.lit (.string (ba []))), (.lit (.int .i64 0)), (.lit (.bool false))]), .p (.store (.t 4) (.t 7) 3)])
 (.seq (.reg [.p (.callB 8 n___impl_scanner__number [((.t 4), 0)]), .p (.bld 9 [(.lit (.int .i64 0)), (.lit (.int .i64 0)), (.lit (.int .i64 0)), (.lit (.string (ba [])))] [⟨0, 1, (.t 8)⟩]), .p (.alloc 5 [(.lit (.int .i64 0)), (.lit (.int .i64 0)), (.lit (.int .i64 0)), (.lit (.string (ba [])))]), .p (.store (.t 5) (.t 9) 4)])
 (.seq (.reg [.p (.callB 10 n___impl_scanner__octet [((.t 4), 0)]), .p (.fadr 11 (.t 5) 1), .p (.store (.t 11) (.t 10) 1)])
 (.seq (.reg [.p (.callB 12 n___impl_scanner__octet [((.t 4), 0)]), .p (.fadr 13 (.t 5) 2), .p (.store (.t 13) (.t 12) 1)])
 (.seq (.reg [.p (.callB 14 n___impl_scanner__short [((.t 4), 0)]), .p (.fadr 15 (.t 5) 3), .p (.store (.t 15) (.t 14) 1)])
 (.seq (.seq (.reg [.p (.callB 16 n___impl_scanner__done [((.t 4), 0)]), .p (.un 17 .not (.t 16)), .p (.mv 18 (.t 17)), .g 18 false (some 19) (.load 19 (.t 5) 4 true), .g 18 false (some 20) (.callB 20 n_impl_ItemOk [((.t 19), 0)]), .g 18 false (some 21) (.un 21 .not (.t 20)), .p (.pick 22 (.t 18) (.c (.bool true)) (.t 21))])
 (.cond (.t 22) (.seq (.reg [.p (.bld 23 [(.lit (.int .i64 0)), (.lit (.int .i64 0)), (.lit (.int .i64 0)), (.lit (.string (ba [])))] []), .p (.store (.t 2) (.t 23) 4), .p (.mv 3 (.c (.bool false)))])
 .ret) .skip))
 (.seq (.reg [.p (.load 24 (.t 5) 4 true), .p (.store (.t 2) (.t 24) 4), .p (.mv 3 (.c (.bool true)))])
 .ret)))))))),
 25, 1, [.c 2 4 true, .t 3]⟩
theorem m_impl_ReadItem : mF Try.prog 39 [] = some X_impl_ReadItem := by kernel_rfl
def X_laws_eqItem : XF := ⟨(.seq (.reg [.p (.box 2 (.t 0)), .p (.box 3 (.t 1)), .p (.mv 4 (.c (.bool false)))])
 (.seq (.seq (.reg [.p (.fadr 5 (.t 2) 0), .p (.load 6 (.t 5) 1 false), .p (.fadr 7 (.t 3) 0), .p (.load 8 (.t 7) 1 false), .p (.bin 9 false .neq (.t 6) (.t 8))])
 (.cond (.t 9) (.seq (.reg [.p (.mv 4 (.c (.bool false)))])
 .ret) .skip))
 (.seq (.seq (.reg [.p (.fadr 10 (.t 2) 1), .p (.load 11 (.t 10) 1 false), .p (.fadr 12 (.t 3) 1), .p (.load 13 (.t 12) 1 false), .p (.bin 14 false .neq (.t 11) (.t 13))])
 (.cond (.t 14) (.seq (.reg [.p (.mv 4 (.c (.bool false)))])
 .ret) .skip))
 (.seq (.seq (.reg [.p (.fadr 15 (.t 2) 2), .p (.load 16 (.t 15) 1 false), .p (.fadr 17 (.t 3) 2), .p (.load 18 (.t 17) 1 false), .p (.bin 19 false .neq (.t 16) (.t 18))])
 (.cond (.t 19) (.seq (.reg [.p (.mv 4 (.c (.bool false)))])
 .ret) .skip))
 (.seq (.seq (.reg [.p (.fadr 20 (.t 2) 3), .p (.load 21 (.t 20) 1 false), .p (.fadr 22 (.t 3) 3), .p (.load 23 (.t 22) 1 false), .p (.bin 24 false .neq (.t 21) (.t 23))])
 (.cond (.t 24) (.seq (.reg [.p (.mv 4 (.c (.bool false)))])
 .ret) .skip))
 (.seq (.reg [.p (.mv 4 (.c (.bool true)))])
 .ret)))))),
 25, 2, [.t 4]⟩
theorem m_laws_eqItem : mF Try.prog 40 [] = some X_laws_eqItem := by kernel_rfl
def X_laws_szTable : XF := ⟨(.seq (.reg [.p (.box 2 (.t 0)), .p (.mv 4 (.c (.int .i64 0)))])
 (.seq (.reg [.p (.fadr 5 (.t 2) 0), .p (.load 6 (.t 5) 1 false), .p (.mv 7 (.t 1)), .p (.callB 8 n_laws_szGroupS [((.t 6), 0), ((.t 7), 0)]), .p (.mv 1 (.t 8))])
 (.seq (.seq (.reg [.p (.mv 9 (.t 1)), .p (.bin 10 false .lss (.t 9) (.c (.int .i64 0)))])
 (.cond (.t 10) (.seq (.reg [.p (.mv 4 (.c (.int .i64 (-1))))])
 .ret) .skip))
 (.seq (.reg [.p (.mv 11 (.t 1)), .p (.mv 4 (.t 11))])
 .ret)))),
 12, 2, [.t 4]⟩
theorem m_laws_szTable : mF Try.prog 41 [] = some X_laws_szTable := by kernel_rfl
def X_spec_MembersOf : XF := ⟨(.seq (.reg [.p (.box 2 (.t 0)), .p (.mv 4 (.nil 1))])
 (.seq (.seq (.reg [.p (.mv 5 (.c (.int .i64 0)))])
 (.block 0 (.loop (.seq (.seq (.reg [.p (.mv 6 (.t 5)), .p (.fadr 7 (.t 2) 0), .p (.load 8 (.t 7) 1 false), .p (.lenB 9 (.t 8)), .p (.bin 10 false .lss (.t 6) (.t 9))])
 (.cond (.t 10) .skip (.exit 0)))
 (.seq (.block 1 (.seq (.reg [.p (.fadr 13 (.t 2) 0), .p (.load 14 (.t 13) 1 false), .p (.mv 15 (.t 5)), .p (.iadr 16 2 (.t 14) (.t 15)), .p (.fadr 17 (.t 16) 0), .p (.load 18 (.t 17) 1 false), .p (.mv 19 (.t 1)), .p (.bin 20 false .eql (.t 18) (.t 19))])
 (.cond (.t 20) (.seq (.reg [.p (.bldS 21 0 [(.lit (.string (ba [])))] []), .p (.fadr 22 (.t 2) 0), .p (.load 23 (.t 22) 1 false), .p (.mv 24 (.t 5)), .p (.iadr 25 2 (.t 23) (.t 24)), .p (.fadr 26 (.t 25) 1), .p (.load 27 (.t 26) 1 false), .p (.app 28 1 16 (.t 21) (.t 27)), .p (.mv 4 (.t 28))])
 .ret) .skip)))
 (.reg [.p (.mv 11 (.t 5)), .p (.bin 12 false .add (.t 11) (.c (.int .i64 1))), .p (.mv 5 (.t 12))]))))))
 (.seq (.reg [.p (.bldS 29 0 [(.lit (.string (ba [])))] []), .p (.mv 4 (.t 29))])
 .ret))),
 30, 2, [.t 4]⟩
theorem m_spec_MembersOf : mF Try.prog 42 [] = some X_spec_MembersOf := by kernel_rfl
def X_laws_toTable : XF := ⟨(.seq (.reg [.p (.box 1 (.t 0)), .p (.alloc 2 [(.sl true 2 [])])])
 (.seq (.reg [.p (.alloc 3 [(.sl true 2 [])])])
 (.seq (.reg [.p (.fadr 4 (.t 1) 0), .p (.load 5 (.t 4) 1 false), .p (.callB 6 n_laws_toGroupS [((.t 5), 0)]), .p (.fadr 7 (.t 3) 0), .p (.store (.t 7) (.t 6) 1)])
 (.seq (.reg [.p (.load 8 (.t 3) 1 true), .p (.store (.t 2) (.t 8) 1)])
 .ret)))),
 9, 1, [.c 2 1 true]⟩
theorem m_laws_toTable : mF Try.prog 43 [] = some X_laws_toTable := by kernel_rfl
def X_impl_MembersOf : XF := ⟨(.seq (.reg [.p (.box 2 (.t 0)), .p (.mv 4 (.nil 1))])
 (.seq (.seq (.reg [.p (.fadr 7 (.t 2) 0), .p (.load 8 (.t 7) 1 false), .p (.lenB 9 (.t 8)), .p (.mv 10 (.c (.int .i64 0)))])
 (.block 0 (.loop (.seq (.reg [.p (.bin 11 false .lss (.t 10) (.t 9))])
 (.seq (.cond (.t 11) .skip (.exit 0))
 (.seq (.block 1 (.seq (.reg [.p (.iadr 12 2 (.t 8) (.t 10)), .p (.load 13 (.t 12) 2 true), .p (.alloc 6 [(.lit (.string (ba []))), (.sl true 1 [])]), .p (.store (.t 6) (.t 13) 2)])
 (.seq (.reg [.p (.fadr 14 (.t 6) 0), .p (.load 15 (.t 14) 1 false), .p (.mv 16 (.t 1)), .p (.bin 17 false .eql (.t 15) (.t 16))])
 (.cond (.t 17) (.seq (.reg [.p (.fadr 18 (.t 6) 1), .p (.load 19 (.t 18) 1 false), .p (.callB 20 n_slices_Clone___string_string_ [((.t 19), 0)]), .p (.mv 4 (.t 20))])
 .ret) .skip))))
 (.reg [.p (.bin 21 false .add (.t 10) (.c (.int .i64 1))), .p (.mv 10 (.t 21))])))))))
 (.seq (.reg [.p (.mv 4 (.nil 1))])
 .ret))),
 22, 2, [.t 4]⟩
theorem m_impl_MembersOf : mF Try.prog 44 [] = some X_impl_MembersOf := by kernel_rfl
-- NONE 45 loop.example/g00183/laws.eqStringS
def X_laws_eqTable : XF := ⟨(.seq (.reg [.p (.box 2 (.t 0)), .p (.box 3 (.t 1)), .p (.mv 4 (.c (.bool false)))])
 (.seq (.seq (.reg [.p (.fadr 5 (.t 2) 0), .p (.load 6 (.t 5) 1 false), .p (.fadr 7 (.t 3) 0), .p (.load 8 (.t 7) 1 false), .p (.callB 9 n_laws_eqGroupS [((.t 6), 0), ((.t 8), 0)]), .p (.un 10 .not (.t 9))])
 (.cond (.t 10) (.seq (.reg [.p (.mv 4 (.c (.bool false)))])
 .ret) .skip))
 (.seq (.reg [.p (.mv 4 (.c (.bool true)))])
 .ret))),
 11, 2, [.t 4]⟩
theorem m_laws_eqTable : mF Try.prog 46 [] = some X_laws_eqTable := by kernel_rfl
def X_laws_markTable : XF := ⟨(.seq (.reg [.p (.box 2 (.t 0)), .p (.mv 4 (.c (.int .i64 0)))])
 (.seq (.reg [.p (.fadr 5 (.t 2) 0), .p (.load 6 (.t 5) 1 false), .p (.mv 7 (.t 1)), .p (.callB 8 n_laws_markGroupS [((.t 6), 0), ((.t 7), 0)]), .p (.mv 1 (.t 8))])
 (.seq (.reg [.p (.mv 9 (.t 1)), .p (.mv 4 (.t 9))])
 .ret))),
 10, 2, [.t 4]⟩
theorem m_laws_markTable : mF Try.prog 47 [] = some X_laws_markTable := by kernel_rfl
def X_laws_markStringS : XF := ⟨(.seq (.reg [.p (.mv 4 (.c (.int .i64 0)))])
 (.seq (.seq (.reg [.p (.mv 5 (.c (.int .i64 0)))])
 (.block 0 (.loop (.seq (.seq (.reg [.p (.mv 6 (.t 5)), .p (.mv 7 (.t 0)), .p (.lenB 8 (.t 7)), .p (.bin 9 false .lss (.t 6) (.t 8))])
 (.cond (.t 9) .skip (.exit 0)))
 (.seq (.block 1 (.seq (.reg [.p (.mv 12 (.t 0)), .p (.mv 13 (.t 5)), .p (.mv 14 (.t 1)), .p (.callB 15 n_laws_markText [((.t 14), 0)]), .p (.iadr 16 1 (.t 12) (.t 13)), .p (.store (.t 16) (.t 15) 1)])
 (.reg [.p (.mv 17 (.t 1)), .p (.bin 18 false .add (.t 17) (.c (.int .i64 1))), .p (.mv 1 (.t 18))])))
 (.reg [.p (.mv 10 (.t 5)), .p (.bin 11 false .add (.t 10) (.c (.int .i64 1))), .p (.mv 5 (.t 11))]))))))
 (.seq (.reg [.p (.mv 19 (.t 1)), .p (.mv 4 (.t 19))])
 .ret))),
 20, 2, [.t 4]⟩
theorem m_laws_markStringS : mF Try.prog 48 [] = some X_laws_markStringS := by kernel_rfl
-- NONE 49 loop.example/g00183/laws.heldStringS
def X_spec_Drop : XF := ⟨(.seq (.reg [.p (.box 2 (.t 0)), .p (.alloc 4 [(.lit (.string (ba []))), (.sl true 1 []), (.lit (.bool false))])])
 (.seq (.reg [.p (.load 6 (.t 2) 3 true), .p (.callB 7 n_spec_l18Copy [((.t 6), 0)]), .p (.alloc 5 [(.lit (.string (ba []))), (.sl true 1 []), (.lit (.bool false))]), .p (.store (.t 5) (.t 7) 3)])
 (.seq (.seq (.reg [.p (.load 8 (.t 2) 3 true), .p (.callB 9 n_spec_BoxOk [((.t 8), 0)]), .p (.un 10 .not (.t 9)), .p (.mv 11 (.t 10)), .g 11 false (some 12) (.fadr 12 (.t 2) 2), .g 11 false (some 13) (.load 13 (.t 12) 1 false), .p (.pick 14 (.t 11) (.c (.bool true)) (.t 13)), .p (.mv 15 (.t 14)), .g 15 false (some 16) (.mv 16 (.t 1)), .g 15 false (some 17) (.lenS 17 (.t 16)), .g 15 false (some 18) (.bin 18 false .gtr (.t 17) (.c (.int .i64 60))), .p (.pick 19 (.t 15) (.c (.bool true)) (.t 18))])
 (.cond (.t 19) (.seq (.reg [.p (.load 20 (.t 5) 3 true), .p (.store (.t 4) (.t 20) 3)])
 .ret) .skip))
 (.seq (.seq (.reg [.p (.fadr 21 (.t 2) 1), .p (.load 22 (.t 21) 1 false), .p (.lenB 23 (.t 22)), .p (.bin 24 false .eql (.t 23) (.c (.int .i64 5)))])
 (.cond (.t 24) (.seq (.reg [.p (.fadr 25 (.t 2) 0), .p (.load 26 (.t 25) 1 false), .p (.bld 27 [(.lit (.string (ba []))), (.sl true 1 []), (.lit (.bool false))] [⟨0, 1, (.t 26)⟩, ⟨2, 1, (.c (.bool true))⟩]), .p (.store (.t 4) (.t 27) 3)])
 .ret) .skip))
 (.seq (.reg [.p (.fadr 28 (.t 5) 1), .p (.load 29 (.t 28) 1 false), .p (.mv 30 (.t 1)), .p (.bldS 31 1 [(.lit (.string (ba [])))] [⟨0, 1, (.t 30)⟩]), .p (.app 32 1 16 (.t 29) (.t 31)), .p (.fadr 33 (.t 5) 1), .p (.store (.t 33) (.t 32) 1)])
 (.seq (.reg [.p (.load 34 (.t 5) 3 true), .p (.store (.t 4) (.t 34) 3)])
 .ret)))))),
 35, 2, [.c 4 3 true]⟩
theorem m_spec_Drop : mF Try.prog 50 [] = some X_spec_Drop := by kernel_rfl
def X_laws_markBox : XF := ⟨(.seq (.reg [.p (.box 2 (.t 0)), .p (.mv 4 (.c (.int .i64 0)))])
 (.seq (.reg [.p (.fadr 5 (.t 2) 1), .p (.load 6 (.t 5) 1 false), .p (.mv 7 (.t 1)), .p (.callB 8 n_laws_markStringS [((.t 6), 0), ((.t 7), 0)]), .p (.mv 1 (.t 8))])
 (.seq (.reg [.p (.mv 9 (.t 1)), .p (.mv 4 (.t 9))])
 .ret))),
 10, 2, [.t 4]⟩
theorem m_laws_markBox : mF Try.prog 51 [] = some X_laws_markBox := by kernel_rfl
def X_laws_heldBox : XF := ⟨(.seq (.reg [.p (.box 2 (.t 0)), .p (.mv 4 (.c (.int .i64 0)))])
 (.seq (.reg [.p (.fadr 5 (.t 2) 1), .p (.load 6 (.t 5) 1 false), .p (.mv 7 (.t 1)), .p (.callB 8 n_laws_heldStringS [((.t 6), 0), ((.t 7), 0)]), .p (.mv 1 (.t 8))])
 (.seq (.seq (.reg [.p (.mv 9 (.t 1)), .p (.bin 10 false .lss (.t 9) (.c (.int .i64 0)))])
 (.cond (.t 10) (.seq (.reg [.p (.mv 4 (.c (.int .i64 (-1))))])
 .ret) .skip))
 (.seq (.reg [.p (.mv 11 (.t 1)), .p (.mv 4 (.t 11))])
 .ret)))),
 12, 2, [.t 4]⟩
theorem m_laws_heldBox : mF Try.prog 52 [] = some X_laws_heldBox := by kernel_rfl
def X_spec_Fetch : XF := ⟨(.seq (.reg [.p (.box 1 (.t 0)), .p (.alloc 2 [(.lit (.string (ba []))), (.sl true 1 []), (.lit (.bool false))]), .p (.mv 3 (.c (.string (ba [])))), .p (.mv 4 (.c (.bool false)))])
 (.seq (.seq (.reg [.p (.load 7 (.t 1) 3 true), .p (.callB 8 n_spec_BoxOk [((.t 7), 0)]), .p (.un 9 .not (.t 8)), .p (.mv 10 (.t 9)), .g 10 false (some 11) (.fadr 11 (.t 1) 1), .g 10 false (some 12) (.load 12 (.t 11) 1 false), .g 10 false (some 13) (.lenB 13 (.t 12)), .g 10 false (some 14) (.bin 14 false .eql (.t 13) (.c (.int .i64 0))), .p (.pick 15 (.t 10) (.c (.bool true)) (.t 14))])
 (.cond (.t 15) (.seq (.reg [.p (.load 16 (.t 1) 3 true), .p (.callB 17 n_spec_l18Copy [((.t 16), 0)]), .p (.store (.t 2) (.t 17) 3), .p (.mv 3 (.c (.string (ba [])))), .p (.mv 4 (.c (.bool false)))])
 .ret) .skip))
 (.seq (.reg [.p (.load 18 (.t 1) 3 true), .p (.callB 19 n_spec_l18Copy [((.t 18), 0)]), .p (.alloc 5 [(.lit (.string (ba []))), (.sl true 1 []), (.lit (.bool false))]), .p (.store (.t 5) (.t 19) 3)])
 (.seq (.reg [.p (.fadr 20 (.t 5) 1), .p (.load 21 (.t 20) 1 false), .p (.iadr 22 1 (.t 21) (.c (.int .i64 0))), .p (.load 23 (.t 22) 1 false), .p (.mv 6 (.t 23))])
 (.seq (.reg [.p (.bldS 24 0 [(.lit (.string (ba [])))] []), .p (.fadr 25 (.t 5) 1), .p (.load 26 (.t 25) 1 false), .p (.cutS 27 1 (.t 26) (some (.c (.int .i64 1))) none), .p (.app 28 1 16 (.t 24) (.t 27)), .p (.fadr 29 (.t 5) 1), .p (.store (.t 29) (.t 28) 1)])
 (.seq (.reg [.p (.load 30 (.t 5) 3 true), .p (.mv 31 (.t 6)), .p (.store (.t 2) (.t 30) 3), .p (.mv 3 (.t 31)), .p (.mv 4 (.c (.bool true)))])
 .ret)))))),
 32, 1, [.c 2 3 true, .t 3, .t 4]⟩
theorem m_spec_Fetch : mF Try.prog 53 [] = some X_spec_Fetch := by kernel_rfl
-- NONE 54 loop.example/g00183/spec.DrawDrop
-- NONE 55 loop.example/g00183/spec.AskText
-- NONE 56 loop.example/g00183/impl.AskText
def X_laws_szEventS : XF := ⟨(.seq (.reg [.p (.mv 4 (.c (.int .i64 0)))])
 (.seq (.reg [.p (.mv 6 (.t 1)), .p (.mv 7 (.t 0)), .p (.lenB 8 (.t 7)), .p (.bin 9 false .sub (.t 6) (.t 8)), .p (.mv 1 (.t 9))])
 (.seq (.seq (.reg [.p (.mv 10 (.t 1)), .p (.bin 11 false .lss (.t 10) (.c (.int .i64 0)))])
 (.cond (.t 11) (.seq (.reg [.p (.mv 4 (.c (.int .i64 (-1))))])
 .ret) .skip))
 (.seq (.seq (.reg [.p (.mv 5 (.c (.int .i64 0)))])
 (.block 0 (.loop (.seq (.seq (.reg [.p (.mv 12 (.t 5)), .p (.mv 13 (.t 0)), .p (.lenB 14 (.t 13)), .p (.bin 15 false .lss (.t 12) (.t 14))])
 (.cond (.t 15) .skip (.exit 0)))
 (.seq (.block 1 (.seq (.reg [.p (.mv 18 (.t 0)), .p (.mv 19 (.t 5)), .p (.iadr 20 8 (.t 18) (.t 19)), .p (.load 21 (.t 20) 8 true), .p (.mv 22 (.t 1)), .p (.callB 23 n_laws_szEvent [((.t 21), 0), ((.t 22), 0)]), .p (.mv 1 (.t 23))])
 (.seq (.reg [.p (.mv 24 (.t 1)), .p (.bin 25 false .lss (.t 24) (.c (.int .i64 0)))])
 (.cond (.t 25) (.seq (.reg [.p (.mv 4 (.c (.int .i64 (-1))))])
 .ret) .skip))))
 (.reg [.p (.mv 16 (.t 5)), .p (.bin 17 false .add (.t 16) (.c (.int .i64 1))), .p (.mv 5 (.t 17))]))))))
 (.seq (.reg [.p (.mv 26 (.t 1)), .p (.mv 4 (.t 26))])
 .ret))))),
 27, 2, [.t 4]⟩
theorem m_laws_szEventS : mF Try.prog 57 [] = some X_laws_szEventS := by kernel_rfl
def X_spec_ItemsOf : XF := ⟨(.seq (.reg [.p (.mv 4 (.nil 4))])
 (.seq (.reg [.p (.bldS 7 0 [(.lit (.int .i64 0)), (.lit (.int .i64 0)), (.lit (.int .i64 0)), (.lit (.string (ba [])))] []), .p (.mv 5 (.t 7))])
 (.seq (.seq (.reg [.p (.mv 6 (.c (.int .i64 0)))])
 (.block 0 (.loop (.seq (.seq (.reg [.p (.mv 8 (.t 6)), .p (.mv 9 (.t 0)), .p (.lenB 10 (.t 9)), .p (.bin 11 false .lss (.t 8) (.t 10))])
 (.cond (.t 11) .skip (.exit 0)))
 (.seq (.block 1 (.seq (.reg [.p (.mv 14 (.t 0)), .p (.mv 15 (.t 6)), .p (.iadr 16 8 (.t 14) (.t 15)), .p (.fadr 17 (.t 16) 0), .p (.load 18 (.t 17) 1 false), .p (.bin 19 false .eql (.t 18) (.c (.int .i64 1))), .p (.mv 20 (.t 19)), .g 20 true (some 21) (.mv 21 (.t 0)), .g 20 true (some 22) (.mv 22 (.t 6)), .g 20 true (some 23) (.iadr 23 8 (.t 21) (.t 22)), .g 20 true (some 24) (.fadr 24 (.t 23) 1), .g 20 true (some 25) (.fadr 25 (.t 24) 0), .g 20 true (some 26) (.load 26 (.t 25) 1 false), .g 20 true (some 27) (.mv 27 (.t 1)), .g 20 true (some 28) (.bin 28 false .eql (.t 26) (.t 27)), .p (.pick 29 (.t 20) (.t 28) (.c (.bool false)))])
 (.cond (.t 29) (.reg [.p (.mv 30 (.t 5)), .p (.mv 31 (.t 0)), .p (.mv 32 (.t 6)), .p (.iadr 33 8 (.t 31) (.t 32)), .p (.fadr 34 (.t 33) 3), .p (.load 35 (.t 34) 4 true), .p (.bldS 36 1 [(.lit (.int .i64 0)), (.lit (.int .i64 0)), (.lit (.int .i64 0)), (.lit (.string (ba [])))] [⟨0, 4, (.t 35)⟩]), .p (.app 37 4 40 (.t 30) (.t 36)), .p (.mv 5 (.t 37))]) .skip)))
 (.reg [.p (.mv 12 (.t 6)), .p (.bin 13 false .add (.t 12) (.c (.int .i64 1))), .p (.mv 6 (.t 13))]))))))
 (.seq (.reg [.p (.mv 38 (.t 5)), .p (.mv 4 (.t 38))])
 .ret)))),
 39, 2, [.t 4]⟩
theorem m_spec_ItemsOf : mF Try.prog 58 [] = some X_spec_ItemsOf := by kernel_rfl
def X_laws_toEventS : XF := ⟨(.seq (.reg [.p (.mv 2 (.nil 8))])
 (.seq (.reg [.p (.mv 5 (.t 0)), .p (.lenB 6 (.t 5)), .p (.mkS 7 104 [(.lit (.int .i64 0)), (.lit (.int .i64 0)), (.sl true 1 []), (.lit (.int .i64 0)), (.lit (.int .i64 0)), (.lit (.int .i64 0)), (.lit (.string (ba []))), (.sl true 1 [])] (.t 6) (.t 6)), .p (.mv 3 (.t 7))])
 (.seq (.seq (.reg [.p (.mv 4 (.c (.int .i64 0)))])
 (.block 0 (.loop (.seq (.seq (.reg [.p (.mv 8 (.t 4)), .p (.mv 9 (.t 0)), .p (.lenB 10 (.t 9)), .p (.bin 11 false .lss (.t 8) (.t 10))])
 (.cond (.t 11) .skip (.exit 0)))
 (.seq (.block 1 (.reg [.p (.mv 14 (.t 3)), .p (.mv 15 (.t 4)), .p (.mv 16 (.t 0)), .p (.mv 17 (.t 4)), .p (.iadr 18 8 (.t 16) (.t 17)), .p (.load 19 (.t 18) 8 true), .p (.callB 20 n_laws_toEvent [((.t 19), 0)]), .p (.iadr 21 8 (.t 14) (.t 15)), .p (.store (.t 21) (.t 20) 8)]))
 (.reg [.p (.mv 12 (.t 4)), .p (.bin 13 false .add (.t 12) (.c (.int .i64 1))), .p (.mv 4 (.t 13))]))))))
 (.seq (.reg [.p (.mv 22 (.t 3)), .p (.mv 2 (.t 22))])
 .ret)))),
 23, 1, [.t 2]⟩
theorem m_laws_toEventS : mF Try.prog 59 [] = some X_laws_toEventS := by kernel_rfl
def X_impl_ItemsOf : XF := ⟨(.seq (.reg [.p (.mv 4 (.nil 4))])
 (.seq (.reg [.p (.mv 5 (.nil 4))])
 (.seq (.seq (.reg [.p (.mv 8 (.t 0)), .p (.lenB 9 (.t 8)), .p (.mv 10 (.c (.int .i64 0)))])
 (.block 0 (.loop (.seq (.reg [.p (.bin 11 false .lss (.t 10) (.t 9))])
 (.seq (.cond (.t 11) .skip (.exit 0))
 (.seq (.block 1 (.seq (.reg [.p (.iadr 12 8 (.t 8) (.t 10)), .p (.load 13 (.t 12) 8 true), .p (.alloc 7 [(.lit (.int .i64 0)), (.lit (.int .i64 0)), (.sl true 1 []), (.lit (.int .i64 0)), (.lit (.int .i64 0)), (.lit (.int .i64 0)), (.lit (.string (ba []))), (.sl true 1 [])]), .p (.store (.t 7) (.t 13) 8)])
 (.seq (.reg [.p (.fadr 14 (.t 7) 0), .p (.load 15 (.t 14) 1 false), .p (.bin 16 false .eql (.t 15) (.c (.int .i64 1))), .p (.mv 17 (.t 16)), .g 17 true (some 18) (.fadr 18 (.t 7) 1), .g 17 true (some 19) (.fadr 19 (.t 18) 0), .g 17 true (some 20) (.load 20 (.t 19) 1 false), .g 17 true (some 21) (.mv 21 (.t 1)), .g 17 true (some 22) (.bin 22 false .eql (.t 20) (.t 21)), .p (.pick 23 (.t 17) (.t 22) (.c (.bool false)))])
 (.cond (.t 23) (.reg [.p (.mv 24 (.t 5)), .p (.fadr 25 (.t 7) 3), .p (.load 26 (.t 25) 4 true), .p (.bldS 27 1 [(.lit (.int .i64 0)), (.lit (.int .i64 0)), (.lit (.int .i64 0)), (.lit (.string (ba [])))] [⟨0, 4, (.t 26)⟩]), .p (.app 28 4 40 (.t 24) (.t 27)), .p (.mv 5 (.t 28))]) .skip))))
 (.reg [.p (.bin 29 false .add (.t 10) (.c (.int .i64 1))), .p (.mv 10 (.t 29))])))))))
 (.seq (.reg [.p (.mv 30 (.t 5)), .p (.mv 4 (.t 30))])
 .ret)))),
 31, 2, [.t 4]⟩
theorem m_impl_ItemsOf : mF Try.prog 60 [] = some X_impl_ItemsOf := by kernel_rfl
-- NONE 61 loop.example/g00183/laws.eqItemS
-- NONE 62 loop.example/g00183/laws.eqEventS
def X_laws_markEventS : XF := ⟨(.seq (.reg [.p (.mv 4 (.c (.int .i64 0)))])
 (.seq (.seq (.reg [.p (.mv 5 (.c (.int .i64 0)))])
 (.block 0 (.loop (.seq (.seq (.reg [.p (.mv 6 (.t 5)), .p (.mv 7 (.t 0)), .p (.lenB 8 (.t 7)), .p (.bin 9 false .lss (.t 6) (.t 8))])
 (.cond (.t 9) .skip (.exit 0)))
 (.seq (.block 1 (.seq (.reg [.p (.mv 12 (.t 0)), .p (.mv 13 (.t 5)), .p (.mv 14 (.t 1)), .p (.iadr 15 8 (.t 12) (.t 13)), .p (.fadr 16 (.t 15) 0), .p (.store (.t 16) (.t 14) 1)])
 (.seq (.reg [.p (.mv 17 (.t 1)), .p (.bin 18 false .add (.t 17) (.c (.int .i64 1))), .p (.mv 1 (.t 18))])
 (.seq (.reg [.p (.mv 19 (.t 0)), .p (.mv 20 (.t 5)), .p (.mv 21 (.t 1)), .p (.iadr 22 8 (.t 19) (.t 20)), .p (.fadr 23 (.t 22) 1), .p (.fadr 24 (.t 23) 0), .p (.store (.t 24) (.t 21) 1)])
 (.seq (.reg [.p (.mv 25 (.t 1)), .p (.bin 26 false .add (.t 25) (.c (.int .i64 1))), .p (.mv 1 (.t 26))])
 (.seq (.reg [.p (.mv 27 (.t 0)), .p (.mv 28 (.t 5)), .p (.iadr 29 8 (.t 27) (.t 28)), .p (.fadr 30 (.t 29) 1), .p (.fadr 31 (.t 30) 1), .p (.load 32 (.t 31) 1 false), .p (.mv 33 (.t 1)), .p (.callB 34 n_laws_markIntS [((.t 32), 0), ((.t 33), 0)]), .p (.mv 1 (.t 34))])
 (.seq (.reg [.p (.mv 35 (.t 0)), .p (.mv 36 (.t 5)), .p (.mv 37 (.t 1)), .p (.iadr 38 8 (.t 35) (.t 36)), .p (.fadr 39 (.t 38) 3), .p (.fadr 40 (.t 39) 0), .p (.store (.t 40) (.t 37) 1)])
 (.seq (.reg [.p (.mv 41 (.t 1)), .p (.bin 42 false .add (.t 41) (.c (.int .i64 1))), .p (.mv 1 (.t 42))])
 (.seq (.reg [.p (.mv 43 (.t 0)), .p (.mv 44 (.t 5)), .p (.mv 45 (.t 1)), .p (.iadr 46 8 (.t 43) (.t 44)), .p (.fadr 47 (.t 46) 3), .p (.fadr 48 (.t 47) 1), .p (.store (.t 48) (.t 45) 1)])
 (.seq (.reg [.p (.mv 49 (.t 1)), .p (.bin 50 false .add (.t 49) (.c (.int .i64 1))), .p (.mv 1 (.t 50))])
 (.seq (.reg [.p (.mv 51 (.t 0)), .p (.mv 52 (.t 5)), .p (.mv 53 (.t 1)), .p (.iadr 54 8 (.t 51) (.t 52)), .p (.fadr 55 (.t 54) 3), .p (.fadr 56 (.t 55) 2), .p (.store (.t 56) (.t 53) 1)])
 (.seq (.reg [.p (.mv 57 (.t 1)), .p (.bin 58 false .add (.t 57) (.c (.int .i64 1))), .p (.mv 1 (.t 58))])
 (.seq (.reg [.p (.mv 59 (.t 0)), .p (.mv 60 (.t 5)), .p (.mv 61 (.t 1)), .p (.callB 62 n_laws_markText [((.t 61), 0)]), .p (.iadr 63 8 (.t 59) (.t 60)), .p (.fadr 64 (.t 63) 3), .p (.fadr 65 (.t 64) 3), .p (.store (.t 65) (.t 62) 1)])
 (.seq (.reg [.p (.mv 66 (.t 1)), .p (.bin 67 false .add (.t 66) (.c (.int .i64 1))), .p (.mv 1 (.t 67))])
 (.reg [.p (.mv 68 (.t 0)), .p (.mv 69 (.t 5)), .p (.iadr 70 8 (.t 68) (.t 69)), .p (.fadr 71 (.t 70) 7), .p (.load 72 (.t 71) 1 false), .p (.mv 73 (.t 1)), .p (.callB 74 n_laws_markIntS [((.t 72), 0), ((.t 73), 0)]), .p (.mv 1 (.t 74))])))))))))))))))
 (.reg [.p (.mv 10 (.t 5)), .p (.bin 11 false .add (.t 10) (.c (.int .i64 1))), .p (.mv 5 (.t 11))]))))))
 (.seq (.reg [.p (.mv 75 (.t 1)), .p (.mv 4 (.t 75))])
 .ret))),
 76, 2, [.t 4]⟩
theorem m_laws_markEventS : mF Try.prog 63 [] = some X_laws_markEventS := by kernel_rfl
def X_laws_markItemS : XF := ⟨(.seq (.reg [.p (.mv 4 (.c (.int .i64 0)))])
 (.seq (.seq (.reg [.p (.mv 5 (.c (.int .i64 0)))])
 (.block 0 (.loop (.seq (.seq (.reg [.p (.mv 6 (.t 5)), .p (.mv 7 (.t 0)), .p (.lenB 8 (.t 7)), .p (.bin 9 false .lss (.t 6) (.t 8))])
 (.cond (.t 9) .skip (.exit 0)))
 (.seq (.block 1 (.seq (.reg [.p (.mv 12 (.t 0)), .p (.mv 13 (.t 5)), .p (.mv 14 (.t 1)), .p (.iadr 15 4 (.t 12) (.t 13)), .p (.fadr 16 (.t 15) 0), .p (.store (.t 16) (.t 14) 1)])
 (.seq (.reg [.p (.mv 17 (.t 1)), .p (.bin 18 false .add (.t 17) (.c (.int .i64 1))), .p (.mv 1 (.t 18))])
 (.seq (.reg [.p (.mv 19 (.t 0)), .p (.mv 20 (.t 5)), .p (.mv 21 (.t 1)), .p (.iadr 22 4 (.t 19) (.t 20)), .p (.fadr 23 (.t 22) 1), .p (.store (.t 23) (.t 21) 1)])
 (.seq (.reg [.p (.mv 24 (.t 1)), .p (.bin 25 false .add (.t 24) (.c (.int .i64 1))), .p (.mv 1 (.t 25))])
 (.seq (.reg [.p (.mv 26 (.t 0)), .p (.mv 27 (.t 5)), .p (.mv 28 (.t 1)), .p (.iadr 29 4 (.t 26) (.t 27)), .p (.fadr 30 (.t 29) 2), .p (.store (.t 30) (.t 28) 1)])
 (.seq (.reg [.p (.mv 31 (.t 1)), .p (.bin 32 false .add (.t 31) (.c (.int .i64 1))), .p (.mv 1 (.t 32))])
 (.seq (.reg [.p (.mv 33 (.t 0)), .p (.mv 34 (.t 5)), .p (.mv 35 (.t 1)), .p (.callB 36 n_laws_markText [((.t 35), 0)]), .p (.iadr 37 4 (.t 33) (.t 34)), .p (.fadr 38 (.t 37) 3), .p (.store (.t 38) (.t 36) 1)])
 (.reg [.p (.mv 39 (.t 1)), .p (.bin 40 false .add (.t 39) (.c (.int .i64 1))), .p (.mv 1 (.t 40))])))))))))
 (.reg [.p (.mv 10 (.t 5)), .p (.bin 11 false .add (.t 10) (.c (.int .i64 1))), .p (.mv 5 (.t 11))]))))))
 (.seq (.reg [.p (.mv 41 (.t 1)), .p (.mv 4 (.t 41))])
 .ret))),
 42, 2, [.t 4]⟩
theorem m_laws_markItemS : mF Try.prog 64 [] = some X_laws_markItemS := by kernel_rfl
-- NONE 65 loop.example/g00183/laws.heldItemS
def X_laws_szDeed : XF := ⟨(.seq (.reg [.p (.box 2 (.t 0)), .p (.mv 4 (.c (.int .i64 0)))])
 (.seq (.reg [.p (.mv 5 (.t 1)), .p (.fadr 6 (.t 2) 4), .p (.load 7 (.t 6) 1 false), .p (.lenS 8 (.t 7)), .p (.bin 9 false .sub (.t 5) (.t 8)), .p (.mv 1 (.t 9))])
 (.seq (.seq (.reg [.p (.mv 10 (.t 1)), .p (.bin 11 false .lss (.t 10) (.c (.int .i64 0)))])
 (.cond (.t 11) (.seq (.reg [.p (.mv 4 (.c (.int .i64 (-1))))])
 .ret) .skip))
 (.seq (.reg [.p (.mv 12 (.t 1)), .p (.mv 4 (.t 12))])
 .ret)))),
 13, 2, [.t 4]⟩
theorem m_laws_szDeed : mF Try.prog 66 [] = some X_laws_szDeed := by kernel_rfl
def X_spec_l01In : XF := ⟨(.seq (.reg [.p (.mv 6 (.c (.bool false)))])
 (.seq (.reg [.p (.mv 7 (.t 0)), .p (.mv 8 (.t 1)), .p (.bin 9 false .geq (.t 7) (.t 8)), .p (.mv 10 (.t 9)), .g 10 true (some 11) (.mv 11 (.t 0)), .g 10 true (some 12) (.mv 12 (.t 2)), .g 10 true (some 13) (.bin 13 false .leq (.t 11) (.t 12)), .p (.pick 14 (.t 10) (.t 13) (.c (.bool false))), .p (.mv 6 (.t 14))])
 .ret)),
 15, 3, [.t 6]⟩
theorem m_spec_l01In : mF Try.prog 67 [] = some X_spec_l01In := by kernel_rfl
def X_spec_DeedOk : XF := ⟨(.seq (.reg [.p (.box 1 (.t 0)), .p (.mv 2 (.c (.bool false)))])
 (.seq (.seq (.reg [.p (.fadr 3 (.t 1) 0), .p (.load 4 (.t 3) 1 false), .p (.callB 5 n_spec_l01In [((.t 4), 0), ((.c (.int .i64 1)), 0), ((.c (.int .i64 9)), 0)]), .p (.un 6 .not (.t 5)), .p (.mv 7 (.t 6)), .g 7 false (some 8) (.fadr 8 (.t 1) 1), .g 7 false (some 9) (.load 9 (.t 8) 1 false), .g 7 false (some 10) (.callB 10 n_spec_l01In [((.t 9), 0), ((.c (.int .i64 1)), 0), ((.c (.int .i64 5)), 0)]), .g 7 false (some 11) (.un 11 .not (.t 10)), .p (.pick 12 (.t 7) (.c (.bool true)) (.t 11)), .p (.mv 13 (.t 12)), .g 13 false (some 14) (.fadr 14 (.t 1) 2), .g 13 false (some 15) (.load 15 (.t 14) 1 false), .g 13 false (some 16) (.bin 16 false .lss (.t 15) (.c (.int .i64 0))), .p (.pick 17 (.t 13) (.c (.bool true)) (.t 16))])
 (.cond (.t 17) (.seq (.reg [.p (.mv 2 (.c (.bool false)))])
 .ret) .skip))
 (.seq (.seq (.reg [.p (.fadr 18 (.t 1) 0), .p (.load 19 (.t 18) 1 false), .p (.bin 20 false .eql (.t 19) (.c (.int .i64 1)))])
 (.cond (.t 20) (.seq (.reg [.p (.fadr 21 (.t 1) 3), .p (.load 22 (.t 21) 1 false), .p (.callB 23 n_spec_l01In [((.t 22), 0), ((.c (.int .i64 1)), 0), ((.c (.int .i64 2)), 0)]), .p (.mv 24 (.t 23)), .g 24 true (some 25) (.fadr 25 (.t 1) 4), .g 24 true (some 26) (.load 26 (.t 25) 1 false), .g 24 true (some 27) (.lenS 27 (.t 26)), .g 24 true (some 28) (.bin 28 false .leq (.t 27) (.c (.int .i64 60))), .p (.pick 29 (.t 24) (.t 28) (.c (.bool false))), .p (.mv 2 (.t 29))])
 .ret) .skip))
 (.seq (.reg [.p (.fadr 30 (.t 1) 3), .p (.load 31 (.t 30) 1 false), .p (.bin 32 false .eql (.t 31) (.c (.int .i64 0))), .p (.mv 33 (.t 32)), .g 33 true (some 34) (.fadr 34 (.t 1) 4), .g 33 true (some 35) (.load 35 (.t 34) 1 false), .g 33 true (some 36) (.bin 36 false .eql (.t 35) (.c (.string (ba [])))), .p (.pick 37 (.t 33) (.t 36) (.c (.bool false))), .p (.mv 2 (.t 37))])
 .ret)))),
 38, 1, [.t 2]⟩
theorem m_spec_DeedOk : mF Try.prog 68 [] = some X_spec_DeedOk := by kernel_rfl
def X_spec_l20NoDeed : XF := ⟨(.seq (.reg [.p (.box 1 (.t 0)), .p (.mv 2 (.c (.bool false)))])
 (.seq (.reg [.p (.fadr 3 (.t 1) 0), .p (.load 4 (.t 3) 1 false), .p (.bin 5 false .eql (.t 4) (.c (.int .i64 0))), .p (.mv 6 (.t 5)), .g 6 true (some 7) (.fadr 7 (.t 1) 1), .g 6 true (some 8) (.load 8 (.t 7) 1 false), .g 6 true (some 9) (.bin 9 false .eql (.t 8) (.c (.int .i64 0))), .p (.pick 10 (.t 6) (.t 9) (.c (.bool false))), .p (.mv 11 (.t 10)), .g 11 true (some 12) (.fadr 12 (.t 1) 2), .g 11 true (some 13) (.load 13 (.t 12) 1 false), .g 11 true (some 14) (.bin 14 false .eql (.t 13) (.c (.int .i64 0))), .p (.pick 15 (.t 11) (.t 14) (.c (.bool false))), .p (.mv 16 (.t 15)), .g 16 true (some 17) (.fadr 17 (.t 1) 3), .g 16 true (some 18) (.load 18 (.t 17) 1 false), .g 16 true (some 19) (.bin 19 false .eql (.t 18) (.c (.int .i64 0))), .p (.pick 20 (.t 16) (.t 19) (.c (.bool false))), .p (.mv 21 (.t 20)), .g 21 true (some 22) (.fadr 22 (.t 1) 4), .g 21 true (some 23) (.load 23 (.t 22) 1 false), .g 21 true (some 24) (.bin 24 false .eql (.t 23) (.c (.string (ba [])))), .p (.pick 25 (.t 21) (.t 24) (.c (.bool false))), .p (.mv 2 (.t 25))])
 .ret)),
 26, 1, [.t 2]⟩
theorem m_spec_l20NoDeed : mF Try.prog 69 [] = some X_spec_l20NoDeed := by kernel_rfl
def X_laws_toDeed : XF := ⟨(.seq (.reg [.p (.box 1 (.t 0)), .p (.alloc 2 [(.lit (.int .i64 0)), (.lit (.int .i64 0)), (.lit (.int .i64 0)), (.lit (.int .i64 0)), (.lit (.string (ba [])))])])
 (.seq (.reg [.p (.alloc 3 [(.lit (.int .i64 0)), (.lit (.int .i64 0)), (.lit (.int .i64 0)), (.lit (.int .i64 0)), (.lit (.string (ba [])))])])
 (.seq (.reg [.p (.fadr 4 (.t 1) 0), .p (.load 5 (.t 4) 1 false), .p (.fadr 6 (.t 3) 0), .p (.store (.t 6) (.t 5) 1)])
 (.seq (.reg [.p (.fadr 7 (.t 1) 1), .p (.load 8 (.t 7) 1 false), .p (.fadr 9 (.t 3) 1), .p (.store (.t 9) (.t 8) 1)])
 (.seq (.reg [.p (.fadr 10 (.t 1) 2), .p (.load 11 (.t 10) 1 false), .p (.fadr 12 (.t 3) 2), .p (.store (.t 12) (.t 11) 1)])
 (.seq (.reg [.p (.fadr 13 (.t 1) 3), .p (.load 14 (.t 13) 1 false), .p (.fadr 15 (.t 3) 3), .p (.store (.t 15) (.t 14) 1)])
 (.seq (.reg [.p (.fadr 16 (.t 1) 4), .p (.load 17 (.t 16) 1 false), .p (.fadr 18 (.t 3) 4), .p (.store (.t 18) (.t 17) 1)])
 (.seq (.reg [.p (.load 19 (.t 3) 5 true), .p (.store (.t 2) (.t 19) 5)])
 .ret)))))))),
 20, 1, [.c 2 5 true]⟩
theorem m_laws_toDeed : mF Try.prog 70 [] = some X_laws_toDeed := by kernel_rfl
def X_impl_inRange : XF := ⟨(.seq (.reg [.p (.mv 6 (.c (.bool false)))])
 (.seq (.reg [.p (.mv 7 (.t 0)), .p (.mv 8 (.t 1)), .p (.bin 9 false .geq (.t 7) (.t 8)), .p (.mv 10 (.t 9)), .g 10 true (some 11) (.mv 11 (.t 0)), .g 10 true (some 12) (.mv 12 (.t 2)), .g 10 true (some 13) (.bin 13 false .leq (.t 11) (.t 12)), .p (.pick 14 (.t 10) (.t 13) (.c (.bool false))), .p (.mv 6 (.t 14))])
 .ret)),
 15, 3, [.t 6]⟩
theorem m_impl_inRange : mF Try.prog 71 [] = some X_impl_inRange := by kernel_rfl
def X_impl_DeedOk : XF := ⟨(.seq (.reg [.p (.box 1 (.t 0)), .p (.mv 2 (.c (.bool false)))])
 (.seq (.seq (.reg [.p (.fadr 3 (.t 1) 0), .p (.load 4 (.t 3) 1 false), .p (.callB 5 n_impl_inRange [((.t 4), 0), ((.c (.int .i64 1)), 0), ((.c (.int .i64 9)), 0)]), .p (.un 6 .not (.t 5)), .p (.mv 7 (.t 6)), .g 7 false (some 8) (.fadr 8 (.t 1) 1), .g 7 false (some 9) (.load 9 (.t 8) 1 false), .g 7 false (some 10) (.callB 10 n_impl_isDaemon [((.t 9), 0)]), .g 7 false (some 11) (.un 11 .not (.t 10)), .p (.pick 12 (.t 7) (.c (.bool true)) (.t 11)), .p (.mv 13 (.t 12)), .g 13 false (some 14) (.fadr 14 (.t 1) 2), .g 13 false (some 15) (.load 15 (.t 14) 1 false), .g 13 false (some 16) (.bin 16 false .lss (.t 15) (.c (.int .i64 0))), .p (.pick 17 (.t 13) (.c (.bool true)) (.t 16))])
 (.cond (.t 17) (.seq (.reg [.p (.mv 2 (.c (.bool false)))])
 .ret) .skip))
 (.seq (.reg [.p (.fadr 18 (.t 1) 0), .p (.load 19 (.t 18) 1 false), .p (.bin 20 false .eql (.t 19) (.c (.int .i64 1))), .p (.fadr 21 (.t 1) 3), .p (.load 22 (.t 21) 1 false), .p (.fadr 23 (.t 1) 4), .p (.load 24 (.t 23) 1 false), .p (.callB 25 n_impl_wordsOk [((.t 20), 0), ((.t 22), 0), ((.t 24), 0)]), .p (.mv 2 (.t 25))])
 .ret))),
 26, 1, [.t 2]⟩
theorem m_impl_DeedOk : mF Try.prog 72 [] = some X_impl_DeedOk := by kernel_rfl
def X_laws_szStringS : XF := ⟨(.seq (.reg [.p (.mv 4 (.c (.int .i64 0)))])
 (.seq (.reg [.p (.mv 6 (.t 1)), .p (.mv 7 (.t 0)), .p (.lenB 8 (.t 7)), .p (.bin 9 false .sub (.t 6) (.t 8)), .p (.mv 1 (.t 9))])
 (.seq (.seq (.reg [.p (.mv 10 (.t 1)), .p (.bin 11 false .lss (.t 10) (.c (.int .i64 0)))])
 (.cond (.t 11) (.seq (.reg [.p (.mv 4 (.c (.int .i64 (-1))))])
 .ret) .skip))
 (.seq (.seq (.reg [.p (.mv 5 (.c (.int .i64 0)))])
 (.block 0 (.loop (.seq (.seq (.reg [.p (.mv 12 (.t 5)), .p (.mv 13 (.t 0)), .p (.lenB 14 (.t 13)), .p (.bin 15 false .lss (.t 12) (.t 14))])
 (.cond (.t 15) .skip (.exit 0)))
 (.seq (.block 1 (.seq (.reg [.p (.mv 18 (.t 1)), .p (.mv 19 (.t 0)), .p (.mv 20 (.t 5)), .p (.iadr 21 1 (.t 19) (.t 20)), .p (.load 22 (.t 21) 1 false), .p (.lenS 23 (.t 22)), .p (.bin 24 false .sub (.t 18) (.t 23)), .p (.mv 1 (.t 24))])
 (.seq (.reg [.p (.mv 25 (.t 1)), .p (.bin 26 false .lss (.t 25) (.c (.int .i64 0)))])
 (.cond (.t 26) (.seq (.reg [.p (.mv 4 (.c (.int .i64 (-1))))])
 .ret) .skip))))
 (.reg [.p (.mv 16 (.t 5)), .p (.bin 17 false .add (.t 16) (.c (.int .i64 1))), .p (.mv 5 (.t 17))]))))))
 (.seq (.reg [.p (.mv 27 (.t 1)), .p (.mv 4 (.t 27))])
 .ret))))),
 28, 2, [.t 4]⟩
theorem m_laws_szStringS : mF Try.prog 73 [] = some X_laws_szStringS := by kernel_rfl
def X_spec_NameOk : XF := ⟨(.seq (.reg [.p (.mv 2 (.c (.bool false)))])
 (.seq (.seq (.reg [.p (.mv 4 (.t 0)), .p (.lenS 5 (.t 4)), .p (.callB 6 n_spec_l01In [((.t 5), 0), ((.c (.int .i64 1)), 0), ((.c (.int .i64 12)), 0)]), .p (.un 7 .not (.t 6)), .p (.mv 8 (.t 7)), .g 8 false (some 9) (.mv 9 (.t 0)), .g 8 false (some 10) (.idx 10 (.t 9) (.c (.int .i64 0))), .g 8 false (some 11) (.bin 11 false .lss (.t 10) (.c (.int .u8 97))), .p (.pick 12 (.t 8) (.c (.bool true)) (.t 11)), .p (.mv 13 (.t 12)), .g 13 false (some 14) (.mv 14 (.t 0)), .g 13 false (some 15) (.idx 15 (.t 14) (.c (.int .i64 0))), .g 13 false (some 16) (.bin 16 false .gtr (.t 15) (.c (.int .u8 122))), .p (.pick 17 (.t 13) (.c (.bool true)) (.t 16))])
 (.cond (.t 17) (.seq (.reg [.p (.mv 2 (.c (.bool false)))])
 .ret) .skip))
 (.seq (.seq (.reg [.p (.mv 3 (.c (.int .i64 0)))])
 (.block 0 (.loop (.seq (.seq (.reg [.p (.mv 18 (.t 3)), .p (.mv 19 (.t 0)), .p (.lenS 20 (.t 19)), .p (.bin 21 false .lss (.t 18) (.t 20))])
 (.cond (.t 21) .skip (.exit 0)))
 (.seq (.block 1 (.seq (.reg [.p (.mv 24 (.t 0)), .p (.mv 25 (.t 3)), .p (.idx 26 (.t 24) (.t 25)), .p (.bin 27 false .lss (.t 26) (.c (.int .u8 97))), .p (.mv 28 (.t 27)), .g 28 false (some 29) (.mv 29 (.t 0)), .g 28 false (some 30) (.mv 30 (.t 3)), .g 28 false (some 31) (.idx 31 (.t 29) (.t 30)), .g 28 false (some 32) (.bin 32 false .gtr (.t 31) (.c (.int .u8 122))), .p (.pick 33 (.t 28) (.c (.bool true)) (.t 32)), .p (.mv 34 (.t 33)), .g 34 true (some 35) (.mv 35 (.t 0)), .g 34 true (some 36) (.mv 36 (.t 3)), .g 34 true (some 37) (.idx 37 (.t 35) (.t 36)), .g 34 true (some 38) (.bin 38 false .lss (.t 37) (.c (.int .u8 48))), .g 34 true (some 39) (.mv 39 (.t 38)), .g 39 false (some 40) (.mv 40 (.t 0)), .g 39 false (some 41) (.mv 41 (.t 3)), .g 39 false (some 42) (.idx 42 (.t 40) (.t 41)), .g 39 false (some 43) (.bin 43 false .gtr (.t 42) (.c (.int .u8 57))), .g 34 true (some 44) (.pick 44 (.t 39) (.c (.bool true)) (.t 43)), .p (.pick 45 (.t 34) (.t 44) (.c (.bool false)))])
 (.cond (.t 45) (.seq (.reg [.p (.mv 2 (.c (.bool false)))])
 .ret) .skip)))
 (.reg [.p (.mv 22 (.t 3)), .p (.bin 23 false .add (.t 22) (.c (.int .i64 1))), .p (.mv 3 (.t 23))]))))))
 (.seq (.reg [.p (.mv 2 (.c (.bool true)))])
 .ret)))),
 46, 1, [.t 2]⟩
theorem m_spec_NameOk : mF Try.prog 74 [] = some X_spec_NameOk := by kernel_rfl
def X_laws_toStringS : XF := ⟨(.seq (.reg [.p (.mv 2 (.nil 1))])
 (.seq (.reg [.p (.mv 5 (.t 0)), .p (.lenB 6 (.t 5)), .p (.mkS 7 16 [(.lit (.string (ba [])))] (.t 6) (.t 6)), .p (.mv 3 (.t 7))])
 (.seq (.seq (.reg [.p (.mv 4 (.c (.int .i64 0)))])
 (.block 0 (.loop (.seq (.seq (.reg [.p (.mv 8 (.t 4)), .p (.mv 9 (.t 0)), .p (.lenB 10 (.t 9)), .p (.bin 11 false .lss (.t 8) (.t 10))])
 (.cond (.t 11) .skip (.exit 0)))
 (.seq (.block 1 (.reg [.p (.mv 14 (.t 3)), .p (.mv 15 (.t 4)), .p (.mv 16 (.t 0)), .p (.mv 17 (.t 4)), .p (.iadr 18 1 (.t 16) (.t 17)), .p (.load 19 (.t 18) 1 false), .p (.iadr 20 1 (.t 14) (.t 15)), .p (.store (.t 20) (.t 19) 1)]))
 (.reg [.p (.mv 12 (.t 4)), .p (.bin 13 false .add (.t 12) (.c (.int .i64 1))), .p (.mv 4 (.t 13))]))))))
 (.seq (.reg [.p (.mv 21 (.t 3)), .p (.mv 2 (.t 21))])
 .ret)))),
 22, 1, [.t 2]⟩
theorem m_laws_toStringS : mF Try.prog 75 [] = some X_laws_toStringS := by kernel_rfl
def X_impl_NameOk : XF := ⟨(.seq (.reg [.p (.mv 2 (.c (.bool false)))])
 (.seq (.seq (.reg [.p (.mv 3 (.c (.int .i64 0)))])
 (.block 0 (.loop (.seq (.seq (.reg [.p (.mv 5 (.t 3)), .p (.mv 6 (.t 0)), .p (.lenS 7 (.t 6)), .p (.bin 8 false .lss (.t 5) (.t 7))])
 (.cond (.t 8) .skip (.exit 0)))
 (.seq (.block 1 (.seq (.reg [.p (.mv 11 (.t 0)), .p (.mv 12 (.t 3)), .p (.idx 13 (.t 11) (.t 12)), .p (.bin 14 false .geq (.t 13) (.c (.int .u8 97))), .p (.mv 15 (.t 14)), .g 15 true (some 16) (.mv 16 (.t 0)), .g 15 true (some 17) (.mv 17 (.t 3)), .g 15 true (some 18) (.idx 18 (.t 16) (.t 17)), .g 15 true (some 19) (.bin 19 false .leq (.t 18) (.c (.int .u8 122))), .p (.pick 20 (.t 15) (.t 19) (.c (.bool false))), .p (.mv 4 (.t 20))])
 (.seq (.reg [.p (.mv 21 (.t 4)), .p (.un 22 .not (.t 21)), .p (.mv 23 (.t 22)), .g 23 true (some 24) (.mv 24 (.t 3)), .g 23 true (some 25) (.bin 25 false .eql (.t 24) (.c (.int .i64 0))), .g 23 true (some 26) (.mv 26 (.t 25)), .g 26 false (some 27) (.mv 27 (.t 0)), .g 26 false (some 28) (.mv 28 (.t 3)), .g 26 false (some 29) (.idx 29 (.t 27) (.t 28)), .g 26 false (some 30) (.bin 30 false .lss (.t 29) (.c (.int .u8 48))), .g 23 true (some 31) (.pick 31 (.t 26) (.c (.bool true)) (.t 30)), .g 23 true (some 32) (.mv 32 (.t 31)), .g 32 false (some 33) (.mv 33 (.t 0)), .g 32 false (some 34) (.mv 34 (.t 3)), .g 32 false (some 35) (.idx 35 (.t 33) (.t 34)), .g 32 false (some 36) (.bin 36 false .gtr (.t 35) (.c (.int .u8 57))), .g 23 true (some 37) (.pick 37 (.t 32) (.c (.bool true)) (.t 36)), .p (.pick 38 (.t 23) (.t 37) (.c (.bool false)))])
 (.cond (.t 38) (.seq (.reg [.p (.mv 2 (.c (.bool false)))])
 .ret) .skip))))
 (.reg [.p (.mv 9 (.t 3)), .p (.bin 10 false .add (.t 9) (.c (.int .i64 1))), .p (.mv 3 (.t 10))]))))))
 (.seq (.reg [.p (.mv 39 (.t 0)), .p (.lenS 40 (.t 39)), .p (.callB 41 n_impl_inRange [((.t 40), 0), ((.c (.int .i64 1)), 0), ((.c (.int .i64 12)), 0)]), .p (.mv 2 (.t 41))])
 .ret))),
 42, 1, [.t 2]⟩
theorem m_impl_NameOk : mF Try.prog 76 [] = some X_impl_NameOk := by kernel_rfl
def X_impl_areShort : XF := ⟨(.seq (.reg [.p (.mv 2 (.c (.bool false)))])
 (.seq (.seq (.reg [.p (.mv 5 (.t 0)), .p (.lenB 6 (.t 5)), .p (.mv 7 (.c (.int .i64 0)))])
 (.block 0 (.loop (.seq (.reg [.p (.bin 8 false .lss (.t 7) (.t 6))])
 (.seq (.cond (.t 8) .skip (.exit 0))
 (.seq (.block 1 (.seq (.reg [.p (.iadr 9 1 (.t 5) (.t 7)), .p (.load 10 (.t 9) 1 false), .p (.mv 4 (.t 10))])
 (.seq (.reg [.p (.mv 11 (.t 4)), .p (.lenS 12 (.t 11)), .p (.bin 13 false .gtr (.t 12) (.c (.int .i64 60)))])
 (.cond (.t 13) (.seq (.reg [.p (.mv 2 (.c (.bool false)))])
 .ret) .skip))))
 (.reg [.p (.bin 14 false .add (.t 7) (.c (.int .i64 1))), .p (.mv 7 (.t 14))])))))))
 (.seq (.reg [.p (.mv 2 (.c (.bool true)))])
 .ret))),
 15, 1, [.t 2]⟩
theorem m_impl_areShort : mF Try.prog 77 [] = some X_impl_areShort := by kernel_rfl
def X_spec_l01New : XF := ⟨(.seq (.reg [.p (.mv 2 (.c (.pointer none)))])
 (.seq (.reg [.p (.mv 5 (.t 0)), .p (.lenB 6 (.t 5)), .p (.bin 7 false .add (.c (.int .i64 27101)) (.t 6)), .p (.mv 3 (.t 7))])
 (.seq (.seq (.reg [.p (.mv 4 (.c (.int .i64 0)))])
 (.block 0 (.loop (.seq (.seq (.reg [.p (.mv 8 (.t 4)), .p (.mv 9 (.t 0)), .p (.lenB 10 (.t 9)), .p (.bin 11 false .lss (.t 8) (.t 10)), .p (.mv 12 (.t 11)), .g 12 true (some 13) (.mv 13 (.t 4)), .g 12 true (some 14) (.bin 14 false .lss (.t 13) (.c (.int .i64 4000))), .p (.pick 15 (.t 12) (.t 14) (.c (.bool false)))])
 (.cond (.t 15) .skip (.exit 0)))
 (.seq (.block 1 (.reg [.p (.mv 18 (.t 3)), .p (.bin 19 false .mul (.t 18) (.c (.int .i64 131))), .p (.mv 20 (.t 0)), .p (.mv 21 (.t 4)), .p (.iadr 22 1 (.t 20) (.t 21)), .p (.load 23 (.t 22) 1 false), .p (.cvi 24 .i64 .u8 (.t 23)), .p (.bin 25 false .add (.t 19) (.t 24)), .p (.bin 26 false .add (.t 25) (.c (.int .i64 7))), .p (.bin 27 false .and (.t 26) (.c (.int .i64 1073741823))), .p (.mv 3 (.t 27))]))
 (.reg [.p (.mv 16 (.t 4)), .p (.bin 17 false .add (.t 16) (.c (.int .i64 1))), .p (.mv 4 (.t 17))]))))))
 (.seq (.reg [.p (.mv 28 (.t 0)), .p (.mv 29 (.t 3)), .p (.bld 30 [(.sl true 1 []), (.lit (.int .i64 0)), (.lit (.int .i64 0))] [⟨0, 1, (.t 28)⟩, ⟨2, 1, (.t 29)⟩]), .p (.box 31 (.t 30)), .p (.mv 2 (.t 31))])
 .ret)))),
 32, 1, [.t 2]⟩
theorem m_spec_l01New : mF Try.prog 78 [] = some X_spec_l01New := by kernel_rfl
def X_spec_l01Below : XF := ⟨(.seq (.reg [.p (.mv 4 (.c (.int .i64 0)))])
 (.seq (.seq (.reg [.p (.mv 9 (.t 1)), .p (.bin 10 false .leq (.t 9) (.c (.int .i64 0)))])
 (.cond (.t 10) (.seq (.reg [.p (.mv 4 (.c (.int .i64 0)))])
 .ret) .skip))
 (.seq (.seq (.reg [.p (.mv 11 (.t 1)), .p (.bin 12 false .leq (.t 11) (.c (.int .i64 256)))])
 (.cond (.t 12) (.seq (.reg [.p (.mv 13 (.t 0)), .p (.callB 14 n_spec_l01Byte [((.t 13), 3)]), .p (.mv 15 (.t 1)), .p (.bin 16 false .rem (.t 14) (.t 15)), .p (.mv 4 (.t 16))])
 .ret) .skip))
 (.seq (.reg [.p (.mv 17 (.t 0)), .p (.callB 18 n_spec_l01Byte [((.t 17), 3)]), .p (.mv 5 (.t 18))])
 (.seq (.reg [.p (.mv 19 (.t 0)), .p (.callB 20 n_spec_l01Byte [((.t 19), 3)]), .p (.mv 6 (.t 20))])
 (.seq (.reg [.p (.mv 21 (.t 0)), .p (.callB 22 n_spec_l01Byte [((.t 21), 3)]), .p (.mv 7 (.t 22))])
 (.seq (.reg [.p (.mv 23 (.t 0)), .p (.callB 24 n_spec_l01Byte [((.t 23), 3)]), .p (.mv 8 (.t 24))])
 (.seq (.reg [.p (.mv 25 (.t 5)), .p (.bin 26 false .mul (.t 25) (.c (.int .i64 16777216))), .p (.mv 27 (.t 6)), .p (.bin 28 false .mul (.t 27) (.c (.int .i64 65536))), .p (.bin 29 false .add (.t 26) (.t 28)), .p (.mv 30 (.t 7)), .p (.bin 31 false .mul (.t 30) (.c (.int .i64 256))), .p (.bin 32 false .add (.t 29) (.t 31)), .p (.mv 33 (.t 8)), .p (.bin 34 false .add (.t 32) (.t 33)), .p (.mv 35 (.t 1)), .p (.bin 36 false .rem (.t 34) (.t 35)), .p (.mv 4 (.t 36))])
 .ret)))))))),
 37, 2, [.t 4]⟩
theorem m_spec_l01Below : mF Try.prog 79 [] = some X_spec_l01Below := by kernel_rfl
def X_spec_l01Text : XF := ⟨(.seq (.reg [.p (.mv 4 (.c (.string (ba []))))])
 (.seq (.seq (.reg [.p (.mv 7 (.t 1)), .p (.bin 8 false .gtr (.t 7) (.c (.int .i64 5000)))])
 (.cond (.t 8) (.reg [.p (.mv 1 (.c (.int .i64 5000)))]) .skip))
 (.seq (.reg [.p (.bldS 9 0 [(.lit (.int .u8 0))] []), .p (.mv 5 (.t 9))])
 (.seq (.seq (.reg [.p (.mv 6 (.c (.int .i64 0)))])
 (.block 0 (.loop (.seq (.seq (.reg [.p (.mv 10 (.t 6)), .p (.mv 11 (.t 1)), .p (.bin 12 false .lss (.t 10) (.t 11))])
 (.cond (.t 12) .skip (.exit 0)))
 (.seq (.block 1 (.reg [.p (.mv 15 (.t 5)), .p (.mv 16 (.t 0)), .p (.callB 17 n_spec_l01Byte [((.t 16), 3)]), .p (.cvi 18 .u8 .i64 (.t 17)), .p (.bldS 19 1 [(.lit (.int .u8 0))] [⟨0, 1, (.t 18)⟩]), .p (.app 20 1 1 (.t 15) (.t 19)), .p (.mv 5 (.t 20))]))
 (.reg [.p (.mv 13 (.t 6)), .p (.bin 14 false .add (.t 13) (.c (.int .i64 1))), .p (.mv 6 (.t 14))]))))))
 (.seq (.reg [.p (.mv 21 (.t 5)), .p (.b2s 22 (.t 21)), .p (.mv 4 (.t 22))])
 .ret))))),
 23, 2, [.t 4]⟩
theorem m_spec_l01Text : mF Try.prog 80 [] = some X_spec_l01Text := by kernel_rfl
def X_impl_copyBox : XF := ⟨(.seq (.reg [.p (.box 1 (.t 0)), .p (.alloc 2 [(.lit (.string (ba []))), (.sl true 1 []), (.lit (.bool false))])])
 (.seq (.reg [.p (.fadr 3 (.t 1) 1), .p (.load 4 (.t 3) 1 false), .p (.callB 5 n_slices_Clone___string_string_ [((.t 4), 0)]), .p (.fadr 6 (.t 1) 1), .p (.store (.t 6) (.t 5) 1)])
 (.seq (.reg [.p (.load 7 (.t 1) 3 true), .p (.store (.t 2) (.t 7) 3)])
 .ret))),
 8, 1, [.c 2 3 true]⟩
theorem m_impl_copyBox : mF Try.prog 81 [] = some X_impl_copyBox := by kernel_rfl
-- NONE 82 slices.Delete[[]string,string]
-- NONE 83 loop.example/g00183/spec.l17Names
def X_impl_areNames : XF := ⟨(.seq (.reg [.p (.mv 2 (.c (.bool false)))])
 (.seq (.seq (.reg [.p (.mv 5 (.t 0)), .p (.lenB 6 (.t 5)), .p (.mv 7 (.c (.int .i64 0)))])
 (.block 0 (.loop (.seq (.reg [.p (.bin 8 false .lss (.t 7) (.t 6))])
 (.seq (.cond (.t 8) .skip (.exit 0))
 (.seq (.block 1 (.seq (.reg [.p (.mv 9 (.t 7)), .p (.iadr 10 1 (.t 5) (.t 7)), .p (.load 11 (.t 10) 1 false), .p (.mv 3 (.t 9)), .p (.mv 4 (.t 11))])
 (.seq (.reg [.p (.mv 12 (.t 4)), .p (.callB 13 n_impl_NameOk [((.t 12), 0)]), .p (.un 14 .not (.t 13)), .p (.mv 15 (.t 14)), .g 15 false (some 16) (.mv 16 (.t 3)), .g 15 false (some 17) (.bin 17 false .gtr (.t 16) (.c (.int .i64 0))), .g 15 false (some 18) (.mv 18 (.t 17)), .g 18 true (some 19) (.mv 19 (.t 4)), .g 18 true (some 20) (.mv 20 (.t 0)), .g 18 true (some 21) (.mv 21 (.t 3)), .g 18 true (some 22) (.bin 22 false .sub (.t 21) (.c (.int .i64 1))), .g 18 true (some 23) (.iadr 23 1 (.t 20) (.t 22)), .g 18 true (some 24) (.load 24 (.t 23) 1 false), .g 18 true (some 25) (.bin 25 false .leq (.t 19) (.t 24)), .g 15 false (some 26) (.pick 26 (.t 18) (.t 25) (.c (.bool false))), .p (.pick 27 (.t 15) (.c (.bool true)) (.t 26))])
 (.cond (.t 27) (.seq (.reg [.p (.mv 2 (.c (.bool false)))])
 .ret) .skip))))
 (.reg [.p (.bin 28 false .add (.t 7) (.c (.int .i64 1))), .p (.mv 7 (.t 28))])))))))
 (.seq (.reg [.p (.mv 2 (.c (.bool true)))])
 .ret))),
 29, 1, [.t 2]⟩
theorem m_impl_areNames : mF Try.prog 84 [] = some X_impl_areNames := by kernel_rfl
def X_impl_isLevel : XF := ⟨(.seq (.reg [.p (.mv 2 (.c (.bool false)))])
 (.seq (.reg [.p (.mv 3 (.t 0)), .p (.bin 4 false .eql (.t 3) (.c (.int .i64 1))), .p (.mv 5 (.t 4)), .g 5 false (some 6) (.mv 6 (.t 0)), .g 5 false (some 7) (.bin 7 false .eql (.t 6) (.c (.int .i64 2))), .p (.pick 8 (.t 5) (.c (.bool true)) (.t 7)), .p (.mv 2 (.t 8))])
 .ret)),
 9, 1, [.t 2]⟩
theorem m_impl_isLevel : mF Try.prog 85 [] = some X_impl_isLevel := by kernel_rfl
def X_laws_szReader : XF := ⟨(.seq (.reg [.p (.box 2 (.t 0)), .p (.mv 4 (.c (.int .i64 0)))])
 (.seq (.reg [.p (.mv 5 (.t 1)), .p (.fadr 6 (.t 2) 0), .p (.load 7 (.t 6) 1 false), .p (.lenS 8 (.t 7)), .p (.bin 9 false .sub (.t 5) (.t 8)), .p (.mv 1 (.t 9))])
 (.seq (.seq (.reg [.p (.mv 10 (.t 1)), .p (.bin 11 false .lss (.t 10) (.c (.int .i64 0)))])
 (.cond (.t 11) (.seq (.reg [.p (.mv 4 (.c (.int .i64 (-1))))])
 .ret) .skip))
 (.seq (.reg [.p (.mv 12 (.t 1)), .p (.mv 4 (.t 12))])
 .ret)))),
 13, 2, [.t 4]⟩
theorem m_laws_szReader : mF Try.prog 86 [] = some X_laws_szReader := by kernel_rfl
def X_laws_toReader : XF := ⟨(.seq (.reg [.p (.box 1 (.t 0)), .p (.alloc 2 [(.lit (.string (ba []))), (.lit (.bool false))])])
 (.seq (.reg [.p (.alloc 3 [(.lit (.string (ba []))), (.lit (.bool false))])])
 (.seq (.reg [.p (.fadr 4 (.t 1) 0), .p (.load 5 (.t 4) 1 false), .p (.fadr 6 (.t 3) 0), .p (.store (.t 6) (.t 5) 1)])
 (.seq (.reg [.p (.fadr 7 (.t 1) 1), .p (.load 8 (.t 7) 1 false), .p (.fadr 9 (.t 3) 1), .p (.store (.t 9) (.t 8) 1)])
 (.seq (.reg [.p (.load 10 (.t 3) 2 true), .p (.store (.t 2) (.t 10) 2)])
 .ret))))),
 11, 1, [.c 2 2 true]⟩
theorem m_laws_toReader : mF Try.prog 87 [] = some X_laws_toReader := by kernel_rfl
def X_impl_isDaemon : XF := ⟨(.seq (.reg [.p (.mv 2 (.c (.bool false)))])
 (.seq (.reg [.p (.mv 3 (.t 0)), .p (.callB 4 n_impl_inRange [((.t 3), 0), ((.c (.int .i64 1)), 0), ((.c (.int .i64 5)), 0)]), .p (.mv 2 (.t 4))])
 .ret)),
 5, 1, [.t 2]⟩
theorem m_impl_isDaemon : mF Try.prog 88 [] = some X_impl_isDaemon := by kernel_rfl
def X_laws_eqReader : XF := ⟨(.seq (.reg [.p (.box 2 (.t 0)), .p (.box 3 (.t 1)), .p (.mv 4 (.c (.bool false)))])
 (.seq (.seq (.reg [.p (.fadr 5 (.t 2) 0), .p (.load 6 (.t 5) 1 false), .p (.fadr 7 (.t 3) 0), .p (.load 8 (.t 7) 1 false), .p (.bin 9 false .neq (.t 6) (.t 8))])
 (.cond (.t 9) (.seq (.reg [.p (.mv 4 (.c (.bool false)))])
 .ret) .skip))
 (.seq (.seq (.reg [.p (.fadr 10 (.t 2) 1), .p (.load 11 (.t 10) 1 false), .p (.fadr 12 (.t 3) 1), .p (.load 13 (.t 12) 1 false), .p (.bin 14 true .neq (.t 11) (.t 13))])
 (.cond (.t 14) (.seq (.reg [.p (.mv 4 (.c (.bool false)))])
 .ret) .skip))
 (.seq (.reg [.p (.mv 4 (.c (.bool true)))])
 .ret)))),
 15, 2, [.t 4]⟩
theorem m_laws_eqReader : mF Try.prog 89 [] = some X_laws_eqReader := by kernel_rfl
-- NONE 90 loop.example/g00183/spec.l05Var
def X_spec_l05One : XF := ⟨(.seq (.reg [.p (.mv 2 (.c (.int .i64 0)))])
 (.seq (.reg [.p (.mv 4 (.t 0)), .p (.callB 5 n_spec_l05Take [((.t 4), 3), ((.c (.int .i64 1)), 0)]), .p (.mv 3 (.t 5))])
 (.seq (.seq (.reg [.p (.mv 6 (.t 0)), .p (.nilck 7 (.t 6)), .p (.fadr 8 (.t 7) 2), .p (.load 9 (.t 8) 1 false)])
 (.cond (.t 9) (.seq (.reg [.p (.mv 2 (.c (.int .i64 0)))])
 .ret) .skip))
 (.seq (.reg [.p (.mv 10 (.t 3)), .p (.idx 11 (.t 10) (.c (.int .i64 0))), .p (.cvi 12 .i64 .u8 (.t 11)), .p (.mv 2 (.t 12))])
 .ret)))),
 13, 1, [.t 2]⟩
theorem m_spec_l05One : mF Try.prog 91 [] = some X_spec_l05One := by kernel_rfl
def X_spec_l05ReadShort : XF := ⟨(.seq (.reg [.p (.mv 2 (.c (.string (ba []))))])
 (.seq (.reg [.p (.mv 4 (.t 0)), .p (.callB 5 n_spec_l05Var [((.t 4), 3)]), .p (.mv 3 (.t 5))])
 (.seq (.reg [.p (.mv 6 (.t 0)), .p (.mv 7 (.t 3)), .p (.callB 8 n_spec_l05Take [((.t 6), 3), ((.t 7), 0)]), .p (.mv 2 (.t 8))])
 .ret))),
 9, 1, [.t 2]⟩
theorem m_spec_l05ReadShort : mF Try.prog 92 [] = some X_spec_l05ReadShort := by kernel_rfl
-- NONE 93 loop.example/g00183/spec.ItemText
-- NONE 94 (*loop.example/g00183/impl.scanner).number
def X___impl_scanner__octet : XF := ⟨(.seq (.reg [.p (.mv 2 (.c (.int .i64 0)))])
 (.seq (.reg [.p (.mv 4 (.t 0)), .p (.callB 5 n___impl_scanner__take [((.t 4), 3), ((.c (.int .i64 1)), 0)]), .p (.mv 3 (.t 5))])
 (.seq (.seq (.reg [.p (.mv 6 (.t 3)), .p (.bin 7 false .eql (.t 6) (.c (.string (ba []))))])
 (.cond (.t 7) (.seq (.reg [.p (.mv 2 (.c (.int .i64 0)))])
 .ret) .skip))
 (.seq (.reg [.p (.mv 8 (.t 3)), .p (.idx 9 (.t 8) (.c (.int .i64 0))), .p (.cvi 10 .i64 .u8 (.t 9)), .p (.mv 2 (.t 10))])
 .ret)))),
 11, 1, [.t 2]⟩
theorem m___impl_scanner__octet : mF Try.prog 95 [] = some X___impl_scanner__octet := by kernel_rfl
def X___impl_scanner__short : XF := ⟨(.seq (.reg [.p (.mv 2 (.c (.string (ba []))))])
 (.seq (.reg [.p (.mv 4 (.t 0)), .p (.callB 5 n___impl_scanner__number [((.t 4), 3)]), .p (.mv 3 (.t 5))])
 (.seq (.seq (.reg [.p (.mv 6 (.t 3)), .p (.bin 7 false .gtr (.t 6) (.c (.int .i64 20000)))])
 (.cond (.t 7) (.reg [.p (.mv 8 (.t 0)), .p (.nilck 9 (.t 8)), .p (.fadr 10 (.t 9) 2), .p (.store (.t 10) (.c (.bool true)) 1)]) .skip))
 (.seq (.reg [.p (.mv 11 (.t 0)), .p (.mv 12 (.t 3)), .p (.callB 13 n___impl_scanner__take [((.t 11), 3), ((.t 12), 0)]), .p (.mv 2 (.t 13))])
 .ret)))),
 14, 1, [.t 2]⟩
theorem m___impl_scanner__short : mF Try.prog 96 [] = some X___impl_scanner__short := by kernel_rfl
-- NONE 97 (*loop.example/g00183/impl.scanner).done
def X_impl_ItemOk : XF := ⟨(.seq (.reg [.p (.box 1 (.t 0)), .p (.mv 2 (.c (.bool false)))])
 (.seq (.reg [.p (.fadr 3 (.t 1) 0), .p (.load 4 (.t 3) 1 false), .p (.callB 5 n_impl_inRange [((.t 4), 0), ((.c (.int .i64 1)), 0), ((.c (.int .i64 60)), 0)]), .p (.mv 6 (.t 5)), .g 6 true (some 7) (.fadr 7 (.t 1) 1), .g 6 true (some 8) (.load 8 (.t 7) 1 false), .g 6 true (some 9) (.callB 9 n_impl_isDaemon [((.t 8), 0)]), .p (.pick 10 (.t 6) (.t 9) (.c (.bool false))), .p (.mv 11 (.t 10)), .g 11 true (some 12) (.fadr 12 (.t 1) 2), .g 11 true (some 13) (.load 13 (.t 12) 1 false), .g 11 true (some 14) (.callB 14 n_impl_isLevel [((.t 13), 0)]), .p (.pick 15 (.t 11) (.t 14) (.c (.bool false))), .p (.mv 16 (.t 15)), .g 16 true (some 17) (.fadr 17 (.t 1) 3), .g 16 true (some 18) (.load 18 (.t 17) 1 false), .g 16 true (some 19) (.lenS 19 (.t 18)), .g 16 true (some 20) (.bin 20 false .leq (.t 19) (.c (.int .i64 60))), .p (.pick 21 (.t 16) (.t 20) (.c (.bool false))), .p (.mv 2 (.t 21))])
 .ret)),
 22, 1, [.t 2]⟩
theorem m_impl_ItemOk : mF Try.prog 98 [] = some X_impl_ItemOk := by kernel_rfl
def X_laws_szGroupS : XF := ⟨(.seq (.reg [.p (.mv 4 (.c (.int .i64 0)))])
 (.seq (.reg [.p (.mv 6 (.t 1)), .p (.mv 7 (.t 0)), .p (.lenB 8 (.t 7)), .p (.bin 9 false .sub (.t 6) (.t 8)), .p (.mv 1 (.t 9))])
 (.seq (.seq (.reg [.p (.mv 10 (.t 1)), .p (.bin 11 false .lss (.t 10) (.c (.int .i64 0)))])
 (.cond (.t 11) (.seq (.reg [.p (.mv 4 (.c (.int .i64 (-1))))])
 .ret) .skip))
 (.seq (.seq (.reg [.p (.mv 5 (.c (.int .i64 0)))])
 (.block 0 (.loop (.seq (.seq (.reg [.p (.mv 12 (.t 5)), .p (.mv 13 (.t 0)), .p (.lenB 14 (.t 13)), .p (.bin 15 false .lss (.t 12) (.t 14))])
 (.cond (.t 15) .skip (.exit 0)))
 (.seq (.block 1 (.seq (.reg [.p (.mv 18 (.t 0)), .p (.mv 19 (.t 5)), .p (.iadr 20 2 (.t 18) (.t 19)), .p (.load 21 (.t 20) 2 true), .p (.mv 22 (.t 1)), .p (.callB 23 n_laws_szGroup [((.t 21), 0), ((.t 22), 0)]), .p (.mv 1 (.t 23))])
 (.seq (.reg [.p (.mv 24 (.t 1)), .p (.bin 25 false .lss (.t 24) (.c (.int .i64 0)))])
 (.cond (.t 25) (.seq (.reg [.p (.mv 4 (.c (.int .i64 (-1))))])
 .ret) .skip))))
 (.reg [.p (.mv 16 (.t 5)), .p (.bin 17 false .add (.t 16) (.c (.int .i64 1))), .p (.mv 5 (.t 17))]))))))
 (.seq (.reg [.p (.mv 26 (.t 1)), .p (.mv 4 (.t 26))])
 .ret))))),
 27, 2, [.t 4]⟩
theorem m_laws_szGroupS : mF Try.prog 99 [] = some X_laws_szGroupS := by kernel_rfl
def X_laws_toGroupS : XF := ⟨(.seq (.reg [.p (.mv 2 (.nil 2))])
 (.seq (.reg [.p (.mv 5 (.t 0)), .p (.lenB 6 (.t 5)), .p (.mkS 7 40 [(.lit (.string (ba []))), (.sl true 1 [])] (.t 6) (.t 6)), .p (.mv 3 (.t 7))])
 (.seq (.seq (.reg [.p (.mv 4 (.c (.int .i64 0)))])
 (.block 0 (.loop (.seq (.seq (.reg [.p (.mv 8 (.t 4)), .p (.mv 9 (.t 0)), .p (.lenB 10 (.t 9)), .p (.bin 11 false .lss (.t 8) (.t 10))])
 (.cond (.t 11) .skip (.exit 0)))
 (.seq (.block 1 (.reg [.p (.mv 14 (.t 3)), .p (.mv 15 (.t 4)), .p (.mv 16 (.t 0)), .p (.mv 17 (.t 4)), .p (.iadr 18 2 (.t 16) (.t 17)), .p (.load 19 (.t 18) 2 true), .p (.callB 20 n_laws_toGroup [((.t 19), 0)]), .p (.iadr 21 2 (.t 14) (.t 15)), .p (.store (.t 21) (.t 20) 2)]))
 (.reg [.p (.mv 12 (.t 4)), .p (.bin 13 false .add (.t 12) (.c (.int .i64 1))), .p (.mv 4 (.t 13))]))))))
 (.seq (.reg [.p (.mv 22 (.t 3)), .p (.mv 2 (.t 22))])
 .ret)))),
 23, 1, [.t 2]⟩
theorem m_laws_toGroupS : mF Try.prog 100 [] = some X_laws_toGroupS := by kernel_rfl
def X_slices_Clone___string_string_ : XF := ⟨(.seq (.reg [.p (.mv 2 (.nil 1))])
 (.seq (.seq (.reg [.p (.mv 3 (.t 0)), .p (.nilq 4 false (.t 3))])
 (.cond (.t 4) (.seq (.reg [.p (.mv 2 (.nil 1))])
 .ret) .skip))
 (.seq (.reg [.p (.bldS 5 0 [(.lit (.string (ba [])))] []), .p (.mv 6 (.t 0)), .p (.app 7 1 16 (.t 5) (.t 6)), .p (.mv 2 (.t 7))])
 .ret))),
 8, 1, [.t 2]⟩
theorem m_slices_Clone___string_string_ : mF Try.prog 101 [] = some X_slices_Clone___string_string_ := by kernel_rfl
-- NONE 102 loop.example/g00183/laws.eqGroupS
def X_laws_markGroupS : XF := ⟨(.seq (.reg [.p (.mv 4 (.c (.int .i64 0)))])
 (.seq (.seq (.reg [.p (.mv 5 (.c (.int .i64 0)))])
 (.block 0 (.loop (.seq (.seq (.reg [.p (.mv 6 (.t 5)), .p (.mv 7 (.t 0)), .p (.lenB 8 (.t 7)), .p (.bin 9 false .lss (.t 6) (.t 8))])
 (.cond (.t 9) .skip (.exit 0)))
 (.seq (.block 1 (.seq (.reg [.p (.mv 12 (.t 0)), .p (.mv 13 (.t 5)), .p (.mv 14 (.t 1)), .p (.callB 15 n_laws_markText [((.t 14), 0)]), .p (.iadr 16 2 (.t 12) (.t 13)), .p (.fadr 17 (.t 16) 0), .p (.store (.t 17) (.t 15) 1)])
 (.seq (.reg [.p (.mv 18 (.t 1)), .p (.bin 19 false .add (.t 18) (.c (.int .i64 1))), .p (.mv 1 (.t 19))])
 (.reg [.p (.mv 20 (.t 0)), .p (.mv 21 (.t 5)), .p (.iadr 22 2 (.t 20) (.t 21)), .p (.fadr 23 (.t 22) 1), .p (.load 24 (.t 23) 1 false), .p (.mv 25 (.t 1)), .p (.callB 26 n_laws_markStringS [((.t 24), 0), ((.t 25), 0)]), .p (.mv 1 (.t 26))]))))
 (.reg [.p (.mv 10 (.t 5)), .p (.bin 11 false .add (.t 10) (.c (.int .i64 1))), .p (.mv 5 (.t 11))]))))))
 (.seq (.reg [.p (.mv 27 (.t 1)), .p (.mv 4 (.t 27))])
 .ret))),
 28, 2, [.t 4]⟩
theorem m_laws_markGroupS : mF Try.prog 103 [] = some X_laws_markGroupS := by kernel_rfl
def X_laws_markText : XF := ⟨(.seq (.reg [.p (.mv 2 (.c (.string (ba []))))])
 (.seq (.seq (.reg [.p (.mv 4 (.t 0)), .p (.bin 5 false .leq (.t 4) (.c (.int .i64 0)))])
 (.cond (.t 5) (.seq (.reg [.p (.mv 2 (.c (.string (ba [109, 48]))))])
 .ret) .skip))
 (.seq (.reg [.p (.mv 3 (.c (.string (ba []))))])
 (.seq (.block 0 (.loop (.seq (.seq (.reg [.p (.mv 6 (.t 0)), .p (.bin 7 false .gtr (.t 6) (.c (.int .i64 0)))])
 (.cond (.t 7) .skip (.exit 0)))
 (.block 1 (.seq (.reg [.p (.mv 8 (.t 0)), .p (.bin 9 false .rem (.t 8) (.c (.int .i64 10))), .p (.bin 10 false .add (.c (.int .i64 48)) (.t 9)), .p (.cvi 11 .u8 .i64 (.t 10)), .p (.bldS 12 1 [(.lit (.int .u8 0))] [⟨0, 1, (.t 11)⟩]), .p (.b2s 13 (.t 12)), .p (.mv 14 (.t 3)), .p (.bin 15 false .add (.t 13) (.t 14)), .p (.mv 3 (.t 15))])
 (.reg [.p (.mv 16 (.t 0)), .p (.bin 17 false .quo (.t 16) (.c (.int .i64 10))), .p (.mv 0 (.t 17))]))))))
 (.seq (.reg [.p (.mv 18 (.t 3)), .p (.bin 19 false .add (.c (.string (ba [109]))) (.t 18)), .p (.mv 2 (.t 19))])
 .ret))))),
 20, 1, [.t 2]⟩
theorem m_laws_markText : mF Try.prog 104 [] = some X_laws_markText := by kernel_rfl
def X_spec_l18Copy : XF := ⟨(.seq (.reg [.p (.box 1 (.t 0)), .p (.alloc 2 [(.lit (.string (ba []))), (.sl true 1 []), (.lit (.bool false))])])
 (.seq (.reg [.p (.bldS 3 0 [(.lit (.string (ba [])))] []), .p (.fadr 4 (.t 1) 1), .p (.load 5 (.t 4) 1 false), .p (.app 6 1 16 (.t 3) (.t 5)), .p (.fadr 7 (.t 1) 1), .p (.store (.t 7) (.t 6) 1)])
 (.seq (.reg [.p (.load 8 (.t 1) 3 true), .p (.store (.t 2) (.t 8) 3)])
 .ret))),
 9, 1, [.c 2 3 true]⟩
theorem m_spec_l18Copy : mF Try.prog 105 [] = some X_spec_l18Copy := by kernel_rfl
-- NONE 106 loop.example/g00183/spec.l18Box
def X_spec_l01Once : XF := ⟨(.seq (.reg [.p (.mv 4 (.c (.bool false)))])
 (.seq (.reg [.p (.mv 5 (.t 0)), .p (.mv 6 (.t 1)), .p (.callB 7 n_spec_l01Below [((.t 5), 3), ((.t 6), 0)]), .p (.bin 8 false .eql (.t 7) (.c (.int .i64 0))), .p (.mv 4 (.t 8))])
 .ret)),
 9, 2, [.t 4]⟩
theorem m_spec_l01Once : mF Try.prog 107 [] = some X_spec_l01Once := by kernel_rfl
def X_spec_l01Long : XF := ⟨(.seq (.reg [.p (.mv 4 (.c (.string (ba []))))])
 (.seq (.reg [.p (.mv 7 (.t 0)), .p (.mkS 8 1 [(.lit (.int .u8 0))] (.t 7) (.t 7)), .p (.mv 5 (.t 8))])
 (.seq (.seq (.reg [.p (.mv 6 (.c (.int .i64 0)))])
 (.block 0 (.loop (.seq (.seq (.reg [.p (.mv 9 (.t 6)), .p (.mv 10 (.t 0)), .p (.bin 11 false .lss (.t 9) (.t 10))])
 (.cond (.t 11) .skip (.exit 0)))
 (.seq (.block 1 (.reg [.p (.mv 14 (.t 5)), .p (.mv 15 (.t 6)), .p (.mv 16 (.t 1)), .p (.iadr 17 1 (.t 14) (.t 15)), .p (.store (.t 17) (.t 16) 1)]))
 (.reg [.p (.mv 12 (.t 6)), .p (.bin 13 false .add (.t 12) (.c (.int .i64 1))), .p (.mv 6 (.t 13))]))))))
 (.seq (.reg [.p (.mv 18 (.t 5)), .p (.b2s 19 (.t 18)), .p (.mv 4 (.t 19))])
 .ret)))),
 20, 2, [.t 4]⟩
theorem m_spec_l01Long : mF Try.prog 108 [] = some X_spec_l01Long := by kernel_rfl
def X_spec_l03Name : XF := ⟨(.seq (.reg [.p (.mv 2 (.c (.string (ba []))))])
 (.seq (.reg [.p (.mv 3 (.t 0)), .p (.bldS 4 5 [(.lit (.string (ba [])))] [⟨0, 1, (.c (.string (ba [97, 110, 110])))⟩, ⟨1, 1, (.c (.string (ba [98, 111, 98])))⟩, ⟨2, 1, (.c (.string (ba [99, 121])))⟩, ⟨3, 1, (.c (.string (ba [100, 52])))⟩, ⟨4, 1, (.c (.string (ba [101, 118, 101])))⟩]), .p (.callB 5 n_spec_l01Pick [((.t 3), 3), ((.t 4), 0)]), .p (.mv 2 (.t 5))])
 .ret)),
 6, 1, [.t 2]⟩
theorem m_spec_l03Name : mF Try.prog 109 [] = some X_spec_l03Name := by kernel_rfl
def X_spec_l05Byte : XF := ⟨(.seq (.reg [.p (.mv 2 (.c (.string (ba []))))])
 (.seq (.reg [.p (.mv 3 (.t 0)), .p (.cvi 4 .u8 .i64 (.t 3)), .p (.bldS 5 1 [(.lit (.int .u8 0))] [⟨0, 1, (.t 4)⟩]), .p (.b2s 6 (.t 5)), .p (.mv 2 (.t 6))])
 .ret)),
 7, 1, [.t 2]⟩
theorem m_spec_l05Byte : mF Try.prog 110 [] = some X_spec_l05Byte := by kernel_rfl
def X_spec_l05Short : XF := ⟨(.seq (.reg [.p (.mv 2 (.c (.string (ba []))))])
 (.seq (.reg [.p (.mv 3 (.t 0)), .p (.lenS 4 (.t 3)), .p (.callB 5 n_spec_l01Var [((.t 4), 0)]), .p (.mv 6 (.t 0)), .p (.bin 7 false .add (.t 5) (.t 6)), .p (.mv 2 (.t 7))])
 .ret)),
 8, 1, [.t 2]⟩
theorem m_spec_l05Short : mF Try.prog 111 [] = some X_spec_l05Short := by kernel_rfl
def X_spec_l01Var : XF := ⟨(.seq (.reg [.p (.mv 2 (.c (.string (ba []))))])
 (.seq (.reg [.p (.bldS 4 0 [(.lit (.int .u8 0))] []), .p (.mv 3 (.t 4))])
 (.seq (.block 0 (.loop (.seq (.seq (.reg [.p (.mv 5 (.t 0)), .p (.bin 6 false .gtr (.t 5) (.c (.int .i64 127)))])
 (.cond (.t 6) .skip (.exit 0)))
 (.block 1 (.seq (.reg [.p (.mv 7 (.t 3)), .p (.mv 8 (.t 0)), .p (.bin 9 false .rem (.t 8) (.c (.int .i64 128))), .p (.bin 10 false .add (.t 9) (.c (.int .i64 128))), .p (.cvi 11 .u8 .i64 (.t 10)), .p (.bldS 12 1 [(.lit (.int .u8 0))] [⟨0, 1, (.t 11)⟩]), .p (.app 13 1 1 (.t 7) (.t 12)), .p (.mv 3 (.t 13))])
 (.reg [.p (.mv 14 (.t 0)), .p (.bin 15 false .quo (.t 14) (.c (.int .i64 128))), .p (.mv 0 (.t 15))]))))))
 (.seq (.reg [.p (.mv 16 (.t 3)), .p (.mv 17 (.t 0)), .p (.cvi 18 .u8 .i64 (.t 17)), .p (.bldS 19 1 [(.lit (.int .u8 0))] [⟨0, 1, (.t 18)⟩]), .p (.app 20 1 1 (.t 16) (.t 19)), .p (.b2s 21 (.t 20)), .p (.mv 2 (.t 21))])
 .ret)))),
 22, 1, [.t 2]⟩
theorem m_spec_l01Var : mF Try.prog 112 [] = some X_spec_l01Var := by kernel_rfl
def X_impl_octets : XF := ⟨(.seq (.reg [.p (.mv 2 (.c (.string (ba []))))])
 (.seq (.reg [.p (.mv 3 (.nil 1))])
 (.seq (.seq (.reg [.p (.mv 6 (.t 0)), .p (.lenB 7 (.t 6)), .p (.mv 8 (.c (.int .i64 0)))])
 (.block 0 (.loop (.seq (.reg [.p (.bin 9 false .lss (.t 8) (.t 7))])
 (.seq (.cond (.t 9) .skip (.exit 0))
 (.seq (.block 1 (.seq (.reg [.p (.iadr 10 1 (.t 6) (.t 8)), .p (.load 11 (.t 10) 1 false), .p (.mv 5 (.t 11))])
 (.reg [.p (.mv 12 (.t 3)), .p (.mv 13 (.t 5)), .p (.cvi 14 .u8 .i64 (.t 13)), .p (.bldS 15 1 [(.lit (.int .u8 0))] [⟨0, 1, (.t 14)⟩]), .p (.app 16 1 1 (.t 12) (.t 15)), .p (.mv 3 (.t 16))])))
 (.reg [.p (.bin 17 false .add (.t 8) (.c (.int .i64 1))), .p (.mv 8 (.t 17))])))))))
 (.seq (.reg [.p (.mv 18 (.t 3)), .p (.b2s 19 (.t 18)), .p (.mv 2 (.t 19))])
 .ret)))),
 20, 1, [.t 2]⟩
theorem m_impl_octets : mF Try.prog 113 [] = some X_impl_octets := by kernel_rfl
def X_impl_shortText : XF := ⟨(.seq (.reg [.p (.mv 2 (.c (.string (ba []))))])
 (.seq (.reg [.p (.mv 3 (.t 0)), .p (.lenS 4 (.t 3)), .p (.callB 5 n_impl_varText [((.t 4), 0)]), .p (.mv 6 (.t 0)), .p (.bin 7 false .add (.t 5) (.t 6)), .p (.mv 2 (.t 7))])
 .ret)),
 8, 1, [.t 2]⟩
theorem m_impl_shortText : mF Try.prog 114 [] = some X_impl_shortText := by kernel_rfl
def X_impl_namesText : XF := ⟨(.seq (.reg [.p (.mv 2 (.c (.string (ba []))))])
 (.seq (.reg [.p (.alloc 3 [(.lit (.pointer none)), (.sl true 1 [])])])
 (.seq (.reg [.p (.mv 6 (.t 0)), .p (.lenB 7 (.t 6)), .p (.callB 8 n_impl_varText [((.t 7), 0)]), .p (.callB 9 n___strings_Builder__WriteString [((.t 3), 0), ((.t 8), 0)])])
 (.seq (.seq (.reg [.p (.mv 10 (.t 0)), .p (.lenB 11 (.t 10)), .p (.mv 12 (.c (.int .i64 0)))])
 (.block 0 (.loop (.seq (.reg [.p (.bin 13 false .lss (.t 12) (.t 11))])
 (.seq (.cond (.t 13) .skip (.exit 0))
 (.seq (.block 1 (.seq (.reg [.p (.iadr 14 1 (.t 10) (.t 12)), .p (.load 15 (.t 14) 1 false), .p (.mv 5 (.t 15))])
 (.reg [.p (.mv 16 (.t 5)), .p (.callB 17 n_impl_shortText [((.t 16), 0)]), .p (.callB 18 n___strings_Builder__WriteString [((.t 3), 0), ((.t 17), 0)])])))
 (.reg [.p (.bin 19 false .add (.t 12) (.c (.int .i64 1))), .p (.mv 12 (.t 19))])))))))
 (.seq (.reg [.p (.callB 20 n___strings_Builder__String [((.t 3), 0)]), .p (.mv 2 (.t 20))])
 .ret))))),
 21, 1, [.t 2]⟩
theorem m_impl_namesText : mF Try.prog 115 [] = some X_impl_namesText := by kernel_rfl
def X_laws_szEvent : XF := ⟨(.seq (.reg [.p (.box 2 (.t 0)), .p (.mv 4 (.c (.int .i64 0)))])
 (.seq (.reg [.p (.fadr 5 (.t 2) 1), .p (.load 6 (.t 5) 2 true), .p (.mv 7 (.t 1)), .p (.callB 8 n_laws_szRing [((.t 6), 0), ((.t 7), 0)]), .p (.mv 1 (.t 8))])
 (.seq (.seq (.reg [.p (.mv 9 (.t 1)), .p (.bin 10 false .lss (.t 9) (.c (.int .i64 0)))])
 (.cond (.t 10) (.seq (.reg [.p (.mv 4 (.c (.int .i64 (-1))))])
 .ret) .skip))
 (.seq (.reg [.p (.fadr 11 (.t 2) 3), .p (.load 12 (.t 11) 4 true), .p (.mv 13 (.t 1)), .p (.callB 14 n_laws_szItem [((.t 12), 0), ((.t 13), 0)]), .p (.mv 1 (.t 14))])
 (.seq (.seq (.reg [.p (.mv 15 (.t 1)), .p (.bin 16 false .lss (.t 15) (.c (.int .i64 0)))])
 (.cond (.t 16) (.seq (.reg [.p (.mv 4 (.c (.int .i64 (-1))))])
 .ret) .skip))
 (.seq (.reg [.p (.fadr 17 (.t 2) 7), .p (.load 18 (.t 17) 1 false), .p (.mv 19 (.t 1)), .p (.callB 20 n_laws_szIntS [((.t 18), 0), ((.t 19), 0)]), .p (.mv 1 (.t 20))])
 (.seq (.seq (.reg [.p (.mv 21 (.t 1)), .p (.bin 22 false .lss (.t 21) (.c (.int .i64 0)))])
 (.cond (.t 22) (.seq (.reg [.p (.mv 4 (.c (.int .i64 (-1))))])
 .ret) .skip))
 (.seq (.reg [.p (.mv 23 (.t 1)), .p (.mv 4 (.t 23))])
 .ret)))))))),
 24, 2, [.t 4]⟩
theorem m_laws_szEvent : mF Try.prog 116 [] = some X_laws_szEvent := by kernel_rfl
def X_laws_toEvent : XF := ⟨(.seq (.reg [.p (.box 1 (.t 0)), .p (.alloc 2 [(.lit (.int .i64 0)), (.lit (.int .i64 0)), (.sl true 1 []), (.lit (.int .i64 0)), (.lit (.int .i64 0)), (.lit (.int .i64 0)), (.lit (.string (ba []))), (.sl true 1 [])])])
 (.seq (.reg [.p (.alloc 3 [(.lit (.int .i64 0)), (.lit (.int .i64 0)), (.sl true 1 []), (.lit (.int .i64 0)), (.lit (.int .i64 0)), (.lit (.int .i64 0)), (.lit (.string (ba []))), (.sl true 1 [])])])
 (.seq (.reg [.p (.fadr 4 (.t 1) 0), .p (.load 5 (.t 4) 1 false), .p (.fadr 6 (.t 3) 0), .p (.store (.t 6) (.t 5) 1)])
 (.seq (.reg [.p (.fadr 7 (.t 1) 1), .p (.load 8 (.t 7) 2 true), .p (.callB 9 n_laws_toRing [((.t 8), 0)]), .p (.fadr 10 (.t 3) 1), .p (.store (.t 10) (.t 9) 2)])
 (.seq (.reg [.p (.fadr 11 (.t 1) 3), .p (.load 12 (.t 11) 4 true), .p (.callB 13 n_laws_toItem [((.t 12), 0)]), .p (.fadr 14 (.t 3) 3), .p (.store (.t 14) (.t 13) 4)])
 (.seq (.reg [.p (.fadr 15 (.t 1) 7), .p (.load 16 (.t 15) 1 false), .p (.callB 17 n_laws_toIntS [((.t 16), 0)]), .p (.fadr 18 (.t 3) 7), .p (.store (.t 18) (.t 17) 1)])
 (.seq (.reg [.p (.load 19 (.t 3) 8 true), .p (.store (.t 2) (.t 19) 8)])
 .ret))))))),
 20, 1, [.c 2 8 true]⟩
theorem m_laws_toEvent : mF Try.prog 117 [] = some X_laws_toEvent := by kernel_rfl
def X_laws_eqEvent : XF := ⟨(.seq (.reg [.p (.box 2 (.t 0)), .p (.box 3 (.t 1)), .p (.mv 4 (.c (.bool false)))])
 (.seq (.seq (.reg [.p (.fadr 5 (.t 2) 0), .p (.load 6 (.t 5) 1 false), .p (.fadr 7 (.t 3) 0), .p (.load 8 (.t 7) 1 false), .p (.bin 9 false .neq (.t 6) (.t 8))])
 (.cond (.t 9) (.seq (.reg [.p (.mv 4 (.c (.bool false)))])
 .ret) .skip))
 (.seq (.seq (.reg [.p (.fadr 10 (.t 2) 1), .p (.load 11 (.t 10) 2 true), .p (.fadr 12 (.t 3) 1), .p (.load 13 (.t 12) 2 true), .p (.callB 14 n_laws_eqRing [((.t 11), 0), ((.t 13), 0)]), .p (.un 15 .not (.t 14))])
 (.cond (.t 15) (.seq (.reg [.p (.mv 4 (.c (.bool false)))])
 .ret) .skip))
 (.seq (.seq (.reg [.p (.fadr 16 (.t 2) 3), .p (.load 17 (.t 16) 4 true), .p (.fadr 18 (.t 3) 3), .p (.load 19 (.t 18) 4 true), .p (.callB 20 n_laws_eqItem [((.t 17), 0), ((.t 19), 0)]), .p (.un 21 .not (.t 20))])
 (.cond (.t 21) (.seq (.reg [.p (.mv 4 (.c (.bool false)))])
 .ret) .skip))
 (.seq (.seq (.reg [.p (.fadr 22 (.t 2) 7), .p (.load 23 (.t 22) 1 false), .p (.fadr 24 (.t 3) 7), .p (.load 25 (.t 24) 1 false), .p (.callB 26 n_laws_eqIntS [((.t 23), 0), ((.t 25), 0)]), .p (.un 27 .not (.t 26))])
 (.cond (.t 27) (.seq (.reg [.p (.mv 4 (.c (.bool false)))])
 .ret) .skip))
 (.seq (.reg [.p (.mv 4 (.c (.bool true)))])
 .ret)))))),
 28, 2, [.t 4]⟩
theorem m_laws_eqEvent : mF Try.prog 118 [] = some X_laws_eqEvent := by kernel_rfl
def X_laws_markIntS : XF := ⟨(.seq (.reg [.p (.mv 4 (.c (.int .i64 0)))])
 (.seq (.seq (.reg [.p (.mv 5 (.c (.int .i64 0)))])
 (.block 0 (.loop (.seq (.seq (.reg [.p (.mv 6 (.t 5)), .p (.mv 7 (.t 0)), .p (.lenB 8 (.t 7)), .p (.bin 9 false .lss (.t 6) (.t 8))])
 (.cond (.t 9) .skip (.exit 0)))
 (.seq (.block 1 (.seq (.reg [.p (.mv 12 (.t 0)), .p (.mv 13 (.t 5)), .p (.mv 14 (.t 1)), .p (.iadr 15 1 (.t 12) (.t 13)), .p (.store (.t 15) (.t 14) 1)])
 (.reg [.p (.mv 16 (.t 1)), .p (.bin 17 false .add (.t 16) (.c (.int .i64 1))), .p (.mv 1 (.t 17))])))
 (.reg [.p (.mv 10 (.t 5)), .p (.bin 11 false .add (.t 10) (.c (.int .i64 1))), .p (.mv 5 (.t 11))]))))))
 (.seq (.reg [.p (.mv 18 (.t 1)), .p (.mv 4 (.t 18))])
 .ret))),
 19, 2, [.t 4]⟩
theorem m_laws_markIntS : mF Try.prog 119 [] = some X_laws_markIntS := by kernel_rfl
def X_impl_wordsOk : XF := ⟨(.seq (.reg [.p (.mv 6 (.c (.bool false)))])
 (.seq (.seq (.reg [.p (.mv 7 (.t 0))])
 (.cond (.t 7) (.seq (.reg [.p (.mv 8 (.t 1)), .p (.callB 9 n_impl_isLevel [((.t 8), 0)]), .p (.mv 10 (.t 9)), .g 10 true (some 11) (.mv 11 (.t 2)), .g 10 true (some 12) (.lenS 12 (.t 11)), .g 10 true (some 13) (.bin 13 false .leq (.t 12) (.c (.int .i64 60))), .p (.pick 14 (.t 10) (.t 13) (.c (.bool false))), .p (.mv 6 (.t 14))])
 .ret) .skip))
 (.seq (.reg [.p (.mv 15 (.t 1)), .p (.bin 16 false .eql (.t 15) (.c (.int .i64 0))), .p (.mv 17 (.t 16)), .g 17 true (some 18) (.mv 18 (.t 2)), .g 17 true (some 19) (.bin 19 false .eql (.t 18) (.c (.string (ba [])))), .p (.pick 20 (.t 17) (.t 19) (.c (.bool false))), .p (.mv 6 (.t 20))])
 .ret))),
 21, 3, [.t 6]⟩
theorem m_impl_wordsOk : mF Try.prog 120 [] = some X_impl_wordsOk := by kernel_rfl
-- NONE 121 loop.example/g00183/spec.l01Byte
-- NONE 122 loop.example/g00183/spec.ReadVar
-- NONE 123 loop.example/g00183/spec.l05Take
def X_spec_ItemOk : XF := ⟨(.seq (.reg [.p (.box 1 (.t 0)), .p (.mv 2 (.c (.bool false)))])
 (.seq (.reg [.p (.fadr 3 (.t 1) 0), .p (.load 4 (.t 3) 1 false), .p (.callB 5 n_spec_l01In [((.t 4), 0), ((.c (.int .i64 1)), 0), ((.c (.int .i64 60)), 0)]), .p (.mv 6 (.t 5)), .g 6 true (some 7) (.fadr 7 (.t 1) 1), .g 6 true (some 8) (.load 8 (.t 7) 1 false), .g 6 true (some 9) (.callB 9 n_spec_l01In [((.t 8), 0), ((.c (.int .i64 1)), 0), ((.c (.int .i64 5)), 0)]), .p (.pick 10 (.t 6) (.t 9) (.c (.bool false))), .p (.mv 11 (.t 10)), .g 11 true (some 12) (.fadr 12 (.t 1) 2), .g 11 true (some 13) (.load 13 (.t 12) 1 false), .g 11 true (some 14) (.callB 14 n_spec_l01In [((.t 13), 0), ((.c (.int .i64 1)), 0), ((.c (.int .i64 2)), 0)]), .p (.pick 15 (.t 11) (.t 14) (.c (.bool false))), .p (.mv 16 (.t 15)), .g 16 true (some 17) (.fadr 17 (.t 1) 3), .g 16 true (some 18) (.load 18 (.t 17) 1 false), .g 16 true (some 19) (.lenS 19 (.t 18)), .g 16 true (some 20) (.bin 20 false .leq (.t 19) (.c (.int .i64 60))), .p (.pick 21 (.t 16) (.t 20) (.c (.bool false))), .p (.mv 2 (.t 21))])
 .ret)),
 22, 1, [.t 2]⟩
theorem m_spec_ItemOk : mF Try.prog 124 [] = some X_spec_ItemOk := by kernel_rfl
def X_impl_ReadVar : XF := ⟨(.seq (.reg [.p (.mv 4 (.c (.int .i64 0))), .p (.mv 5 (.c (.int .i64 0))), .p (.mv 6 (.c (.bool false)))])
 (.seq (.seq (.reg [.p (.mv 11 (.t 1)), .p (.bin 12 false .lss (.t 11) (.c (.int .i64 0))), .p (.mv 13 (.t 12)), .g 13 false (some 14) (.mv 14 (.t 1)), .g 13 false (some 15) (.mv 15 (.t 0)), .g 13 false (some 16) (.lenS 16 (.t 15)), .g 13 false (some 17) (.bin 17 false .gtr (.t 14) (.t 16)), .p (.pick 18 (.t 13) (.c (.bool true)) (.t 17))])
 (.cond (.t 18) (.seq (.reg [.p (.mv 4 (.c (.int .i64 0))), .p (.mv 5 (.c (.int .i64 0))), .p (.mv 6 (.c (.bool false)))])
 .ret) .skip))
 (.seq (.reg [.p (.mv 7 (.c (.int .i64 0))), .p (.mv 8 (.c (.int .i64 1)))])
 (.seq (.seq (.reg [.p (.mv 9 (.c (.int .i64 0)))])
 (.block 0 (.loop (.seq (.seq (.reg [.p (.mv 19 (.t 9)), .p (.bin 20 false .lss (.t 19) (.c (.int .i64 5))), .p (.mv 21 (.t 20)), .g 21 true (some 22) (.mv 22 (.t 1)), .g 21 true (some 23) (.mv 23 (.t 9)), .g 21 true (some 24) (.bin 24 false .add (.t 22) (.t 23)), .g 21 true (some 25) (.mv 25 (.t 0)), .g 21 true (some 26) (.lenS 26 (.t 25)), .g 21 true (some 27) (.bin 27 false .lss (.t 24) (.t 26)), .p (.pick 28 (.t 21) (.t 27) (.c (.bool false)))])
 (.cond (.t 28) .skip (.exit 0)))
 (.seq (.block 1 (.seq (.reg [.p (.mv 31 (.t 0)), .p (.mv 32 (.t 1)), .p (.mv 33 (.t 9)), .p (.bin 34 false .add (.t 32) (.t 33)), .p (.idx 35 (.t 31) (.t 34)), .p (.cvi 36 .i64 .u8 (.t 35)), .p (.mv 10 (.t 36))])
 (.seq (.reg [.p (.mv 37 (.t 7)), .p (.mv 38 (.t 10)), .p (.bin 39 false .rem (.t 38) (.c (.int .i64 128))), .p (.mv 40 (.t 8)), .p (.bin 41 false .mul (.t 39) (.t 40)), .p (.bin 42 false .add (.t 37) (.t 41)), .p (.mv 7 (.t 42))])
 (.seq (.reg [.p (.mv 43 (.t 8)), .p (.bin 44 false .mul (.t 43) (.c (.int .i64 128))), .p (.mv 8 (.t 44))])
 (.seq (.seq (.reg [.p (.mv 45 (.t 10)), .p (.bin 46 false .geq (.t 45) (.c (.int .i64 128)))])
 (.cond (.t 46) (.exit 1) .skip))
 (.seq (.seq (.reg [.p (.mv 47 (.t 10)), .p (.bin 48 false .eql (.t 47) (.c (.int .i64 0))), .p (.mv 49 (.t 48)), .g 49 true (some 50) (.mv 50 (.t 9)), .g 49 true (some 51) (.bin 51 false .gtr (.t 50) (.c (.int .i64 0))), .p (.pick 52 (.t 49) (.t 51) (.c (.bool false))), .p (.mv 53 (.t 52)), .g 53 false (some 54) (.mv 54 (.t 7)), .g 53 false (some 55) (.bin 55 false .gtr (.t 54) (.c (.int .i64 1000000000))), .p (.pick 56 (.t 53) (.c (.bool true)) (.t 55))])
 (.cond (.t 56) (.seq (.reg [.p (.mv 4 (.c (.int .i64 0))), .p (.mv 5 (.c (.int .i64 0))), .p (.mv 6 (.c (.bool false)))])
 .ret) .skip))
 (.seq (.reg [.p (.mv 57 (.t 7)), .p (.mv 58 (.t 1)), .p (.mv 59 (.t 9)), .p (.bin 60 false .add (.t 58) (.t 59)), .p (.bin 61 false .add (.t 60) (.c (.int .i64 1))), .p (.mv 4 (.t 57)), .p (.mv 5 (.t 61)), .p (.mv 6 (.c (.bool true)))])
 .ret)))))))
 (.reg [.p (.mv 29 (.t 9)), .p (.bin 30 false .add (.t 29) (.c (.int .i64 1))), .p (.mv 9 (.t 30))]))))))
 (.seq (.reg [.p (.mv 4 (.c (.int .i64 0))), .p (.mv 5 (.c (.int .i64 0))), .p (.mv 6 (.c (.bool false)))])
 .ret))))),
 62, 2, [.t 4, .t 5, .t 6]⟩
theorem m_impl_ReadVar : mF Try.prog 125 [] = some X_impl_ReadVar := by kernel_rfl
-- NONE 126 (*loop.example/g00183/impl.scanner).take
def X_laws_szGroup : XF := ⟨(.seq (.reg [.p (.box 2 (.t 0)), .p (.mv 4 (.c (.int .i64 0)))])
 (.seq (.reg [.p (.mv 5 (.t 1)), .p (.fadr 6 (.t 2) 0), .p (.load 7 (.t 6) 1 false), .p (.lenS 8 (.t 7)), .p (.bin 9 false .sub (.t 5) (.t 8)), .p (.mv 1 (.t 9))])
 (.seq (.seq (.reg [.p (.mv 10 (.t 1)), .p (.bin 11 false .lss (.t 10) (.c (.int .i64 0)))])
 (.cond (.t 11) (.seq (.reg [.p (.mv 4 (.c (.int .i64 (-1))))])
 .ret) .skip))
 (.seq (.reg [.p (.fadr 12 (.t 2) 1), .p (.load 13 (.t 12) 1 false), .p (.mv 14 (.t 1)), .p (.callB 15 n_laws_szStringS [((.t 13), 0), ((.t 14), 0)]), .p (.mv 1 (.t 15))])
 (.seq (.seq (.reg [.p (.mv 16 (.t 1)), .p (.bin 17 false .lss (.t 16) (.c (.int .i64 0)))])
 (.cond (.t 17) (.seq (.reg [.p (.mv 4 (.c (.int .i64 (-1))))])
 .ret) .skip))
 (.seq (.reg [.p (.mv 18 (.t 1)), .p (.mv 4 (.t 18))])
 .ret)))))),
 19, 2, [.t 4]⟩
theorem m_laws_szGroup : mF Try.prog 127 [] = some X_laws_szGroup := by kernel_rfl
def X_laws_toGroup : XF := ⟨(.seq (.reg [.p (.box 1 (.t 0)), .p (.alloc 2 [(.lit (.string (ba []))), (.sl true 1 [])])])
 (.seq (.reg [.p (.alloc 3 [(.lit (.string (ba []))), (.sl true 1 [])])])
 (.seq (.reg [.p (.fadr 4 (.t 1) 0), .p (.load 5 (.t 4) 1 false), .p (.fadr 6 (.t 3) 0), .p (.store (.t 6) (.t 5) 1)])
 (.seq (.reg [.p (.fadr 7 (.t 1) 1), .p (.load 8 (.t 7) 1 false), .p (.callB 9 n_laws_toStringS [((.t 8), 0)]), .p (.fadr 10 (.t 3) 1), .p (.store (.t 10) (.t 9) 1)])
 (.seq (.reg [.p (.load 11 (.t 3) 2 true), .p (.store (.t 2) (.t 11) 2)])
 .ret))))),
 12, 1, [.c 2 2 true]⟩
theorem m_laws_toGroup : mF Try.prog 128 [] = some X_laws_toGroup := by kernel_rfl
def X_laws_eqGroup : XF := ⟨(.seq (.reg [.p (.box 2 (.t 0)), .p (.box 3 (.t 1)), .p (.mv 4 (.c (.bool false)))])
 (.seq (.seq (.reg [.p (.fadr 5 (.t 2) 0), .p (.load 6 (.t 5) 1 false), .p (.fadr 7 (.t 3) 0), .p (.load 8 (.t 7) 1 false), .p (.bin 9 false .neq (.t 6) (.t 8))])
 (.cond (.t 9) (.seq (.reg [.p (.mv 4 (.c (.bool false)))])
 .ret) .skip))
 (.seq (.seq (.reg [.p (.fadr 10 (.t 2) 1), .p (.load 11 (.t 10) 1 false), .p (.fadr 12 (.t 3) 1), .p (.load 13 (.t 12) 1 false), .p (.callB 14 n_laws_eqStringS [((.t 11), 0), ((.t 13), 0)]), .p (.un 15 .not (.t 14))])
 (.cond (.t 15) (.seq (.reg [.p (.mv 4 (.c (.bool false)))])
 .ret) .skip))
 (.seq (.reg [.p (.mv 4 (.c (.bool true)))])
 .ret)))),
 16, 2, [.t 4]⟩
theorem m_laws_eqGroup : mF Try.prog 129 [] = some X_laws_eqGroup := by kernel_rfl
def X_spec_Decimal : XF := ⟨(.seq (.reg [.p (.mv 2 (.c (.string (ba []))))])
 (.seq (.seq (.reg [.p (.mv 6 (.t 0)), .p (.bin 7 false .eql (.t 6) (.c (.int .i64 0)))])
 (.cond (.t 7) (.seq (.reg [.p (.mv 2 (.c (.string (ba [48]))))])
 .ret) .skip))
 (.seq (.reg [.p (.mv 8 (.t 0)), .p (.bin 9 false .lss (.t 8) (.c (.int .i64 0))), .p (.mv 3 (.t 9))])
 (.seq (.reg [.p (.mv 4 (.c (.string (ba []))))])
 (.seq (.block 0 (.loop (.seq (.seq (.reg [.p (.mv 10 (.t 0)), .p (.bin 11 false .neq (.t 10) (.c (.int .i64 0)))])
 (.cond (.t 11) .skip (.exit 0)))
 (.block 1 (.seq (.reg [.p (.mv 12 (.t 0)), .p (.bin 13 false .rem (.t 12) (.c (.int .i64 10))), .p (.mv 5 (.t 13))])
 (.seq (.seq (.reg [.p (.mv 14 (.t 5)), .p (.bin 15 false .lss (.t 14) (.c (.int .i64 0)))])
 (.cond (.t 15) (.reg [.p (.mv 16 (.t 5)), .p (.un 17 .neg (.t 16)), .p (.mv 5 (.t 17))]) .skip))
 (.seq (.reg [.p (.mv 18 (.t 5)), .p (.callB 19 n_spec_l01Figure [((.t 18), 0)]), .p (.bldS 20 1 [(.lit (.int .u8 0))] [⟨0, 1, (.t 19)⟩]), .p (.b2s 21 (.t 20)), .p (.mv 22 (.t 4)), .p (.bin 23 false .add (.t 21) (.t 22)), .p (.mv 4 (.t 23))])
 (.reg [.p (.mv 24 (.t 0)), .p (.bin 25 false .quo (.t 24) (.c (.int .i64 10))), .p (.mv 0 (.t 25))]))))))))
 (.seq (.seq (.reg [.p (.mv 26 (.t 3))])
 (.cond (.t 26) (.seq (.reg [.p (.mv 27 (.t 4)), .p (.bin 28 false .add (.c (.string (ba [45]))) (.t 27)), .p (.mv 2 (.t 28))])
 .ret) .skip))
 (.seq (.reg [.p (.mv 29 (.t 4)), .p (.mv 2 (.t 29))])
 .ret))))))),
 30, 1, [.t 2]⟩
theorem m_spec_Decimal : mF Try.prog 130 [] = some X_spec_Decimal := by kernel_rfl
def X_spec_l01Pick : XF := ⟨(.seq (.reg [.p (.mv 4 (.c (.string (ba []))))])
 (.seq (.reg [.p (.mv 5 (.t 1)), .p (.mv 6 (.t 0)), .p (.mv 7 (.t 1)), .p (.lenB 8 (.t 7)), .p (.callB 9 n_spec_l01Below [((.t 6), 3), ((.t 8), 0)]), .p (.iadr 10 1 (.t 5) (.t 9)), .p (.load 11 (.t 10) 1 false), .p (.mv 4 (.t 11))])
 .ret)),
 12, 2, [.t 4]⟩
theorem m_spec_l01Pick : mF Try.prog 131 [] = some X_spec_l01Pick := by kernel_rfl
def X_impl_varText : XF := ⟨(.seq (.reg [.p (.mv 2 (.c (.string (ba []))))])
 (.seq (.reg [.p (.mv 3 (.nil 1))])
 (.seq (.block 0 (.loop (.seq (.seq (.reg [.p (.mv 4 (.t 0)), .p (.bin 5 false .gtr (.t 4) (.c (.int .i64 127)))])
 (.cond (.t 5) .skip (.exit 0)))
 (.block 1 (.seq (.reg [.p (.mv 6 (.t 3)), .p (.mv 7 (.t 0)), .p (.bin 8 false .rem (.t 7) (.c (.int .i64 128))), .p (.bin 9 false .add (.c (.int .i64 128)) (.t 8)), .p (.cvi 10 .u8 .i64 (.t 9)), .p (.bldS 11 1 [(.lit (.int .u8 0))] [⟨0, 1, (.t 10)⟩]), .p (.app 12 1 1 (.t 6) (.t 11)), .p (.mv 3 (.t 12))])
 (.reg [.p (.mv 13 (.t 0)), .p (.bin 14 false .quo (.t 13) (.c (.int .i64 128))), .p (.mv 0 (.t 14))]))))))
 (.seq (.reg [.p (.mv 15 (.t 3)), .p (.mv 16 (.t 0)), .p (.cvi 17 .u8 .i64 (.t 16)), .p (.bldS 18 1 [(.lit (.int .u8 0))] [⟨0, 1, (.t 17)⟩]), .p (.app 19 1 1 (.t 15) (.t 18)), .p (.b2s 20 (.t 19)), .p (.mv 2 (.t 20))])
 .ret)))),
 21, 1, [.t 2]⟩
theorem m_impl_varText : mF Try.prog 132 [] = some X_impl_varText := by kernel_rfl
-- NONE 133 (*strings.Builder).WriteString
-- NONE 134 (*strings.Builder).String
def X_laws_szRing : XF := ⟨(.seq (.reg [.p (.box 2 (.t 0)), .p (.mv 4 (.c (.int .i64 0)))])
 (.seq (.reg [.p (.fadr 5 (.t 2) 1), .p (.load 6 (.t 5) 1 false), .p (.mv 7 (.t 1)), .p (.callB 8 n_laws_szIntS [((.t 6), 0), ((.t 7), 0)]), .p (.mv 1 (.t 8))])
 (.seq (.seq (.reg [.p (.mv 9 (.t 1)), .p (.bin 10 false .lss (.t 9) (.c (.int .i64 0)))])
 (.cond (.t 10) (.seq (.reg [.p (.mv 4 (.c (.int .i64 (-1))))])
 .ret) .skip))
 (.seq (.reg [.p (.mv 11 (.t 1)), .p (.mv 4 (.t 11))])
 .ret)))),
 12, 2, [.t 4]⟩
theorem m_laws_szRing : mF Try.prog 135 [] = some X_laws_szRing := by kernel_rfl
def X_laws_szItem : XF := ⟨(.seq (.reg [.p (.box 2 (.t 0)), .p (.mv 4 (.c (.int .i64 0)))])
 (.seq (.reg [.p (.mv 5 (.t 1)), .p (.fadr 6 (.t 2) 3), .p (.load 7 (.t 6) 1 false), .p (.lenS 8 (.t 7)), .p (.bin 9 false .sub (.t 5) (.t 8)), .p (.mv 1 (.t 9))])
 (.seq (.seq (.reg [.p (.mv 10 (.t 1)), .p (.bin 11 false .lss (.t 10) (.c (.int .i64 0)))])
 (.cond (.t 11) (.seq (.reg [.p (.mv 4 (.c (.int .i64 (-1))))])
 .ret) .skip))
 (.seq (.reg [.p (.mv 12 (.t 1)), .p (.mv 4 (.t 12))])
 .ret)))),
 13, 2, [.t 4]⟩
theorem m_laws_szItem : mF Try.prog 136 [] = some X_laws_szItem := by kernel_rfl
def X_laws_szIntS : XF := ⟨(.seq (.reg [.p (.mv 4 (.c (.int .i64 0)))])
 (.seq (.reg [.p (.mv 5 (.t 1)), .p (.mv 6 (.t 0)), .p (.lenB 7 (.t 6)), .p (.bin 8 false .sub (.t 5) (.t 7)), .p (.mv 1 (.t 8))])
 (.seq (.seq (.reg [.p (.mv 9 (.t 1)), .p (.bin 10 false .lss (.t 9) (.c (.int .i64 0)))])
 (.cond (.t 10) (.seq (.reg [.p (.mv 4 (.c (.int .i64 (-1))))])
 .ret) .skip))
 (.seq (.reg [.p (.mv 11 (.t 1)), .p (.mv 4 (.t 11))])
 .ret)))),
 12, 2, [.t 4]⟩
theorem m_laws_szIntS : mF Try.prog 137 [] = some X_laws_szIntS := by kernel_rfl
def X_laws_toRing : XF := ⟨(.seq (.reg [.p (.box 1 (.t 0)), .p (.alloc 2 [(.lit (.int .i64 0)), (.sl true 1 [])])])
 (.seq (.reg [.p (.alloc 3 [(.lit (.int .i64 0)), (.sl true 1 [])])])
 (.seq (.reg [.p (.fadr 4 (.t 1) 0), .p (.load 5 (.t 4) 1 false), .p (.fadr 6 (.t 3) 0), .p (.store (.t 6) (.t 5) 1)])
 (.seq (.reg [.p (.fadr 7 (.t 1) 1), .p (.load 8 (.t 7) 1 false), .p (.callB 9 n_laws_toIntS [((.t 8), 0)]), .p (.fadr 10 (.t 3) 1), .p (.store (.t 10) (.t 9) 1)])
 (.seq (.reg [.p (.load 11 (.t 3) 2 true), .p (.store (.t 2) (.t 11) 2)])
 .ret))))),
 12, 1, [.c 2 2 true]⟩
theorem m_laws_toRing : mF Try.prog 138 [] = some X_laws_toRing := by kernel_rfl
def X_laws_toItem : XF := ⟨(.seq (.reg [.p (.box 1 (.t 0)), .p (.alloc 2 [(.lit (.int .i64 0)), (.lit (.int .i64 0)), (.lit (.int .i64 0)), (.lit (.string (ba [])))])])
 (.seq (.reg [.p (.alloc 3 [(.lit (.int .i64 0)), (.lit (.int .i64 0)), (.lit (.int .i64 0)), (.lit (.string (ba [])))])])
 (.seq (.reg [.p (.fadr 4 (.t 1) 0), .p (.load 5 (.t 4) 1 false), .p (.fadr 6 (.t 3) 0), .p (.store (.t 6) (.t 5) 1)])
 (.seq (.reg [.p (.fadr 7 (.t 1) 1), .p (.load 8 (.t 7) 1 false), .p (.fadr 9 (.t 3) 1), .p (.store (.t 9) (.t 8) 1)])
 (.seq (.reg [.p (.fadr 10 (.t 1) 2), .p (.load 11 (.t 10) 1 false), .p (.fadr 12 (.t 3) 2), .p (.store (.t 12) (.t 11) 1)])
 (.seq (.reg [.p (.fadr 13 (.t 1) 3), .p (.load 14 (.t 13) 1 false), .p (.fadr 15 (.t 3) 3), .p (.store (.t 15) (.t 14) 1)])
 (.seq (.reg [.p (.load 16 (.t 3) 4 true), .p (.store (.t 2) (.t 16) 4)])
 .ret))))))),
 17, 1, [.c 2 4 true]⟩
theorem m_laws_toItem : mF Try.prog 139 [] = some X_laws_toItem := by kernel_rfl
def X_laws_toIntS : XF := ⟨(.seq (.reg [.p (.mv 2 (.nil 1))])
 (.seq (.reg [.p (.mv 5 (.t 0)), .p (.lenB 6 (.t 5)), .p (.mkS 7 8 [(.lit (.int .i64 0))] (.t 6) (.t 6)), .p (.mv 3 (.t 7))])
 (.seq (.seq (.reg [.p (.mv 4 (.c (.int .i64 0)))])
 (.block 0 (.loop (.seq (.seq (.reg [.p (.mv 8 (.t 4)), .p (.mv 9 (.t 0)), .p (.lenB 10 (.t 9)), .p (.bin 11 false .lss (.t 8) (.t 10))])
 (.cond (.t 11) .skip (.exit 0)))
 (.seq (.block 1 (.reg [.p (.mv 14 (.t 3)), .p (.mv 15 (.t 4)), .p (.mv 16 (.t 0)), .p (.mv 17 (.t 4)), .p (.iadr 18 1 (.t 16) (.t 17)), .p (.load 19 (.t 18) 1 false), .p (.iadr 20 1 (.t 14) (.t 15)), .p (.store (.t 20) (.t 19) 1)]))
 (.reg [.p (.mv 12 (.t 4)), .p (.bin 13 false .add (.t 12) (.c (.int .i64 1))), .p (.mv 4 (.t 13))]))))))
 (.seq (.reg [.p (.mv 21 (.t 3)), .p (.mv 2 (.t 21))])
 .ret)))),
 22, 1, [.t 2]⟩
theorem m_laws_toIntS : mF Try.prog 140 [] = some X_laws_toIntS := by kernel_rfl
def X_laws_eqRing : XF := ⟨(.seq (.reg [.p (.box 2 (.t 0)), .p (.box 3 (.t 1)), .p (.mv 4 (.c (.bool false)))])
 (.seq (.seq (.reg [.p (.fadr 5 (.t 2) 0), .p (.load 6 (.t 5) 1 false), .p (.fadr 7 (.t 3) 0), .p (.load 8 (.t 7) 1 false), .p (.bin 9 false .neq (.t 6) (.t 8))])
 (.cond (.t 9) (.seq (.reg [.p (.mv 4 (.c (.bool false)))])
 .ret) .skip))
 (.seq (.seq (.reg [.p (.fadr 10 (.t 2) 1), .p (.load 11 (.t 10) 1 false), .p (.fadr 12 (.t 3) 1), .p (.load 13 (.t 12) 1 false), .p (.callB 14 n_laws_eqIntS [((.t 11), 0), ((.t 13), 0)]), .p (.un 15 .not (.t 14))])
 (.cond (.t 15) (.seq (.reg [.p (.mv 4 (.c (.bool false)))])
 .ret) .skip))
 (.seq (.reg [.p (.mv 4 (.c (.bool true)))])
 .ret)))),
 16, 2, [.t 4]⟩
theorem m_laws_eqRing : mF Try.prog 141 [] = some X_laws_eqRing := by kernel_rfl
-- NONE 142 loop.example/g00183/laws.eqIntS
def X_spec_l01Figure : XF := ⟨(.seq (.reg [.p (.mv 2 (.c (.int .u8 0)))])
 (.seq (.seq (.reg [.p (.mv 3 (.t 0)), .p (.bin 4 false .lss (.t 3) (.c (.int .i64 10)))])
 (.cond (.t 4) (.seq (.reg [.p (.mv 5 (.t 0)), .p (.bin 6 false .add (.c (.int .i64 48)) (.t 5)), .p (.cvi 7 .u8 .i64 (.t 6)), .p (.mv 2 (.t 7))])
 .ret) .skip))
 (.seq (.reg [.p (.mv 8 (.t 0)), .p (.bin 9 false .add (.c (.int .i64 97)) (.t 8)), .p (.bin 10 false .sub (.t 9) (.c (.int .i64 10))), .p (.cvi 11 .u8 .i64 (.t 10)), .p (.mv 2 (.t 11))])
 .ret))),
 12, 1, [.t 2]⟩
theorem m_spec_l01Figure : mF Try.prog 143 [] = some X_spec_l01Figure := by kernel_rfl
-- NONE 144 (*strings.Builder).copyCheck
end Xs
end Go.Proofs.Ytfepabohinkpgaa
