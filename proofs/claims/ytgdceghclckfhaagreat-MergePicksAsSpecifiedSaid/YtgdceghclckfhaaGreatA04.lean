/- A part of an abstract machine, its soundness, and contracts of the program's functions in it. -/
import Derived.Test.YtgdceghclckfhaaGreatA03
import Derived.Test.YtgdceghclckfhaaGreatA02
import Derived.KernelRfl
set_option linter.unusedVariables false
set_option linter.unusedSimpArgs false
namespace Go.AM.T
open Go Go.AM
def c_attr_def_2 : ACode := .seq (.region [o (some p2) (.mov (.c (.bool false)))]) (.seq (.region [o (some p3) (.faddr 0 x0),o (some p4) (.load x3 false 1),o (some p5) (.load x1 false 1),o (some p6) (.bin .leq x4 x5),o (some p2) (.mov x6)]) (.ret))
def a117 : AFn := ⟨c_attr_def_2, [.t p2]⟩
abbrev f_attr_def_2 : Nat := 117
def c_attr_def_3 : ACode := .seq (.region [o (some p1) (.mov (.c (.bool false)))]) (.seq (.region [o (some p2) (.faddr 1 x0),o (some p3) (.load x2 false 1),o (some p4) (.bin .neq x3 (.c (iv 1))),o (some p5) (.mov x4),og (some p6) (.faddr 1 x0) p5 true,og (some p7) (.load x6 false 1) p5 true,og (some p8) (.bin .neq x7 (.c (iv 2))) p5 true,o (some p9) (.pick x5 x8 (.c (.bool false))),o (some p1) (.mov x9)]) (.ret))
def a118 : AFn := ⟨c_attr_def_3, [.t p1]⟩
abbrev f_attr_def_3 : Nat := 118
def c_attr_def_4 : ACode := .seq (.region [o (some p1) (.mov (.c (.bool false)))]) (.seq (.region [o (some p2) (.faddr 2 x0),o (some p3) (.load x2 false 1),o (some p4) (.bin .lss x3 (.c (iv (-1099511627776)))),o (some p5) (.mov x4),og (some p6) (.faddr 3 x0) p5 false,og (some p7) (.load x6 false 1) p5 false,og (some p8) (.bin .gtr x7 (.c (iv 1099511627776))) p5 false,o (some p9) (.pick x5 (.c (.bool true)) x8),o (some p10) (.mov x9),og (some p11) (.faddr 2 x0) p10 false,og (some p12) (.load x11 false 1) p10 false,og (some p13) (.faddr 3 x0) p10 false,og (some p14) (.load x13 false 1) p10 false,og (some p15) (.bin .gtr x12 x14) p10 false,o (some p16) (.pick x10 (.c (.bool true)) x15),o (some p1) (.mov x16)]) (.ret))
def a119 : AFn := ⟨c_attr_def_4, [.t p1]⟩
abbrev f_attr_def_4 : Nat := 119
def c_attr_def_5 : ACode := .seq (.region [o (some p1) (.mov (.c (.bool false)))]) (.seq (.region [o (some p2) (.faddr 4 x0),o (some p3) (.load x2 false 1),o (some p4) (.len false x3),o (some p5) (.bin .gtr x4 (.c (iv 0))),o (some p1) (.mov x5)]) (.ret))
def a120 : AFn := ⟨c_attr_def_5, [.t p1]⟩
abbrev f_attr_def_5 : Nat := 120
def c_attr_def_6 : ACode := .seq (.region [o (some p1) (.mov (.c (.bool false)))]) (.seq (.region [o (some p2) (.faddr 2 x0),o (some p3) (.load x2 false 1),o (some p4) (.bin .neq x3 (.c (iv 0))),o (some p5) (.mov x4),og (some p6) (.faddr 3 x0) p5 false,og (some p7) (.load x6 false 1) p5 false,og (some p8) (.bin .neq x7 (.c (iv 0))) p5 false,o (some p9) (.pick x5 (.c (.bool true)) x8),o (some p1) (.mov x9)]) (.ret))
def a121 : AFn := ⟨c_attr_def_6, [.t p1]⟩
abbrev f_attr_def_6 : Nat := 121
def c_attr_def_7 : ACode := .seq (.region [o (some p1) (.mov (.c (.bool false)))]) (.seq (.region [o (some p2) (.faddr 4 x0),o (some p3) (.load x2 false 1),o (some p4) (.len false x3),o (some p5) (.bin .lss x4 (.c (iv 1))),o (some p6) (.mov x5),og (some p7) (.faddr 4 x0) p6 false,og (some p8) (.load x7 false 1) p6 false,og (some p9) (.len false x8) p6 false,og (some p10) (.bin .gtr x9 (.c (iv 50))) p6 false,o (some p11) (.pick x6 (.c (.bool true)) x10),o (some p1) (.mov x11)]) (.ret))
def a122 : AFn := ⟨c_attr_def_7, [.t p1]⟩
abbrev f_attr_def_7 : Nat := 122
def c_attr_def_8 : ACode := .seq (.region [o (some p1) (.mov (.c (.bool false)))]) (.seq (.region [o (some p2) (.faddr 4 x0),o (some p3) (.load x2 false 1),o (some p4) (.call 124 [x3, (.c (.fn 125 [] []))]),o (some p1) (.mov x4)]) (.ret))
def a123 : AFn := ⟨c_attr_def_8, [.t p1]⟩
abbrev f_attr_def_8 : Nat := 123
def c_slices_ContainsFunc_string_string : ACode := .seq (.region [o (some p4) (.mov (.c (.bool false)))]) (.seq (.region [o (some p5) (.mov x0),o (some p6) (.mov x1),o (some p7) (.call 162 [x5, x6]),o (some p8) (.bin .geq x7 (.c (iv 0))),o (some p4) (.mov x8)]) (.ret))
def a124 : AFn := ⟨c_slices_ContainsFunc_string_string, [.t p4]⟩
abbrev f_slices_ContainsFunc_string_string : Nat := 124
def c_attr_def_8_1 : ACode := .seq (.region [o (some p2) (.mov (.c (.bool false)))]) (.seq (.region [o (some p3) (.mov x0),o (some p4) (.call 116 [x3]),o (some p5) (.un .not x4),o (some p2) (.mov x5)]) (.ret))
def a125 : AFn := ⟨c_attr_def_8_1, [.t p2]⟩
abbrev f_attr_def_8_1 : Nat := 125
def c_attr_def_9 : ACode := .seq (.region [o (some p1) (.mov (.c (.bool false)))]) (.seq (.region [o (some p2) (.faddr 4 x0),o (some p3) (.load x2 false 1),o (some p4) (.call 127 [x3]),o (some p5) (.un .not x4),o (some p1) (.mov x5)]) (.ret))
def a126 : AFn := ⟨c_attr_def_9, [.t p1]⟩
abbrev f_attr_def_9 : Nat := 126
def c_attr_rising_l0 : ACode := .seq (.seq (.region [o (some p4) (.mov x3),o (some p5) (.mov x0),o (some p6) (.len false x5),o (some p7) (.bin .lss x4 x6)]) (.cond x7 (.skip) (.exit 0))) (.seq (.block 1 (.seq (.draw [(.p, o (some p10) (.mov x0)),(.p, o (some p11) (.mov x3)),(.p, o (some p12) (.iaddrS 1 x10 x11)),(.l 0 0, o (some p13) (.load x12 false 1)),(.p, o (some p14) (.mov x0)),(.p, o (some p15) (.mov x3)),(.p, o (some p16) (.bin .sub x15 (.c (iv 1)))),(.p, o (some p17) (.iaddrS 1 x14 x16)),(.l 0 0, o (some p18) (.load x17 false 1)),(.p, o (some p19) (.bin .leq x13 x18))]) (.cond x19 (.seq (.region [o (some p2) (.mov (.c (.bool false)))]) (.ret)) (.skip)))) (.region [o (some p8) (.mov x3),o (some p9) (.bin .add x8 (.c (iv 1))),o (some p3) (.mov x9)]))
def kc_attr_rising_l0 : ACode := c_attr_rising_l0
def c_attr_rising : ACode := .seq (.region [o (some p2) (.mov (.c (.bool false)))]) (.seq (.seq (.region [o (some p3) (.mov (.c (iv 1)))]) (.block 0 (.loop kc_attr_rising_l0))) (.seq (.region [o (some p2) (.mov (.c (.bool true)))]) (.ret)))
def a127 : AFn := ⟨c_attr_rising, [.t p2]⟩
abbrev f_attr_rising : Nat := 127
def c_slices_IndexFunc_api_Def_api_Def_l0 : ACode := .seq (.region [o (some p9) (.bin .lss x8 x7)]) (.seq (.cond x9 (.skip) (.exit 0)) (.seq (.block 1 (.seq (.region [o (some p10) (.mov x8),o (some p5) (.mov x10)]) (.seq (.region [o (some p11) (.mov x1),o (some p12) (.mov x0),o (some p13) (.mov x5),o (some p14) (.iaddrS 5 x12 x13),o (some p15) (.load x14 true 5),o (some p16) (.callv x11 [x15])]) (.cond x16 (.seq (.region [o (some p17) (.mov x5),o (some p4) (.mov x17)]) (.ret)) (.skip))))) (.region [o (some p18) (.bin .add x8 (.c (iv 1))),o (some p8) (.mov x18)])))
def kc_slices_IndexFunc_api_Def_api_Def_l0 : ACode := c_slices_IndexFunc_api_Def_api_Def_l0
def c_slices_IndexFunc_api_Def_api_Def : ACode := .seq (.region [o (some p4) (.mov (.c (iv 0)))]) (.seq (.seq (.region [o (some p6) (.mov x0),o (some p7) (.len false x6),o (some p8) (.mov (.c (iv 0)))]) (.block 0 (.loop kc_slices_IndexFunc_api_Def_api_Def_l0))) (.seq (.region [o (some p4) (.mov (.c (iv (-1))))]) (.ret)))
def a128 : AFn := ⟨c_slices_IndexFunc_api_Def_api_Def, [.t p4]⟩
abbrev f_slices_IndexFunc_api_Def_api_Def : Nat := 128
def c_attr_Fits_1 : ACode := .seq (.region [o (some p2) (.box x0),o (some p3) (.mov (.c (.bool false)))]) (.seq (.region [o (some p4) (.faddr 0 x2),o (some p5) (.load x4 false 1),o (some p6) (.faddr 0 x1),o (some p7) (.load x6 false 1),o (some p8) (.bin .eql x5 x7),o (some p3) (.mov x8)]) (.ret))
def a129 : AFn := ⟨c_attr_Fits_1, [.t p3]⟩
abbrev f_attr_Fits_1 : Nat := 129
def c_attr_Fits_2 : ACode := .seq (.region [o (some p2) (.mov (.c (.bool false)))]) (.seq (.region [o (some p3) (.faddr 0 x0),o (some p4) (.load x3 false 1),o (some p5) (.load x1 false 1),o (some p6) (.bin .leq x4 x5),o (some p2) (.mov x6)]) (.ret))
def a130 : AFn := ⟨c_attr_Fits_2, [.t p2]⟩
abbrev f_attr_Fits_2 : Nat := 130
def c_attr_Fits_3 : ACode := .seq (.region [o (some p2) (.mov (.c (.bool false)))]) (.seq (.region [o (some p3) (.faddr 1 x0),o (some p4) (.load x3 false 1),o (some p5) (.faddr 1 x1),o (some p6) (.load x5 false 1),o (some p7) (.bin .neq x4 x6),o (some p2) (.mov x7)]) (.ret))
def a131 : AFn := ⟨c_attr_Fits_3, [.t p2]⟩
abbrev f_attr_Fits_3 : Nat := 131
def c_attr_Fits_4 : ACode := .seq (.region [o (some p2) (.mov (.c (.bool false)))]) (.seq (.region [o (some p3) (.load x0 false 1),o (some p4) (.mov x3),og (some p5) (.faddr 3 x1) p4 true,og (some p6) (.load x5 false 1) p4 true,og (some p7) (.bin .neq x6 (.c (.str (bs [])))) p4 true,o (some p8) (.pick x4 x7 (.c (.bool false))),o (some p9) (.mov x8),og (some p10) (.load x0 false 1) p9 false,og (some p11) (.un .not x10) p9 false,og (some p12) (.mov x11) p9 false,og (some p13) (.faddr 2 x1) p12 true,og (some p14) (.load x13 false 1) p12 true,og (some p15) (.bin .neq x14 (.c (iv 0))) p12 true,og (some p16) (.pick x12 x15 (.c (.bool false))) p9 false,o (some p17) (.pick x9 (.c (.bool true)) x16),o (some p2) (.mov x17)]) (.ret))
def a132 : AFn := ⟨c_attr_Fits_4, [.t p2]⟩
abbrev f_attr_Fits_4 : Nat := 132
def c_attr_Fits_5 : ACode := .seq (.region [o (some p3) (.mov (.c (.bool false)))]) (.seq (.region [o (some p4) (.load x0 false 1),o (some p5) (.mov x4),og (some p6) (.faddr 2 x1) p5 true,og (some p7) (.load x6 false 1) p5 true,og (some p8) (.faddr 2 x2) p5 true,og (some p9) (.load x8 false 1) p5 true,og (some p10) (.bin .lss x7 x9) p5 true,og (some p11) (.mov x10) p5 true,og (some p12) (.faddr 2 x1) p11 false,og (some p13) (.load x12 false 1) p11 false,og (some p14) (.faddr 3 x2) p11 false,og (some p15) (.load x14 false 1) p11 false,og (some p16) (.bin .gtr x13 x15) p11 false,og (some p17) (.pick x11 (.c (.bool true)) x16) p5 true,o (some p18) (.pick x5 x17 (.c (.bool false))),o (some p3) (.mov x18)]) (.ret))
def a133 : AFn := ⟨c_attr_Fits_5, [.t p3]⟩
abbrev f_attr_Fits_5 : Nat := 133
def c_attr_Fits_6 : ACode := .seq (.region [o (some p3) (.mov (.c (.bool false)))]) (.seq (.region [o (some p4) (.load x0 false 1),o (some p5) (.un .not x4),o (some p6) (.mov x5),og (some p7) (.faddr 4 x1) p6 true,og (some p8) (.load x7 false 1) p6 true,og (some p9) (.faddr 3 x2) p6 true,og (some p10) (.load x9 false 1) p6 true,og (some p11) (.call 135 [x8, x10]) p6 true,og (some p12) (.un .not x11) p6 true,o (some p13) (.pick x6 x12 (.c (.bool false))),o (some p3) (.mov x13)]) (.ret))
def a134 : AFn := ⟨c_attr_Fits_6, [.t p3]⟩
abbrev f_attr_Fits_6 : Nat := 134
def c_slices_Contains_string_string : ACode := .seq (.region [o (some p4) (.mov (.c (.bool false)))]) (.seq (.region [o (some p5) (.mov x0),o (some p6) (.mov x1),o (some p7) (.call 163 [x5, x6]),o (some p8) (.bin .geq x7 (.c (iv 0))),o (some p4) (.mov x8)]) (.ret))
def a135 : AFn := ⟨c_slices_Contains_string_string, [.t p4]⟩
abbrev f_slices_Contains_string_string : Nat := 135
def c_box_isVector_1 : ACode := .seq (.region [o (some p2) (.mov (.c (.bool false)))]) (.seq (.region [o (some p3) (.mov x0),o (some p4) (.bin .lss x3 (.c (iv (-1000)))),o (some p5) (.mov x4),og (some p6) (.mov x0) p5 false,og (some p7) (.bin .gtr x6 (.c (iv 1000))) p5 false,o (some p8) (.pick x5 (.c (.bool true)) x7),o (some p2) (.mov x8)]) (.ret))
def a136 : AFn := ⟨c_box_isVector_1, [.t p2]⟩
abbrev f_box_isVector_1 : Nat := 136
def c_slices_ContainsFunc_int_int_137 : ACode := .seq (.region [o (some p4) (.mov (.c (.bool false)))]) (.seq (.region [o (some p5) (.mov x0),o (some p6) (.mov x1),o (some p7) (.call 164 [x5, x6]),o (some p8) (.bin .geq x7 (.c (iv 0))),o (some p4) (.mov x8)]) (.ret))
def a137 : AFn := ⟨c_slices_ContainsFunc_int_int_137, [.t p4]⟩
abbrev f_slices_ContainsFunc_int_int_137 : Nat := 137
def c_pivot_arePivots : ACode := .seq (.region [o (some p4) (.mov (.c (.bool false)))]) (.seq (.region [o (some p5) (.mov x0),o (some p6) (.call 60 [x5]),o (some p7) (.mov x6),og (some p8) (.mov x1) p7 true,og (some p9) (.call 61 [x8]) p7 true,o (some p10) (.pick x7 x9 (.c (.bool false))),o (some p11) (.mov x10),og (some p12) (.mov x1) p11 true,og (some p13) (.len false x12) p11 true,og (some p14) (.bin .leq x13 (.c (iv 8))) p11 true,o (some p15) (.pick x11 x14 (.c (.bool false))),o (some p4) (.mov x15)]) (.ret))
def a138 : AFn := ⟨c_pivot_arePivots, [.t p4]⟩
abbrev f_pivot_arePivots : Nat := 138
def c_pivot_keys_l0 : ACode := .seq (.region [o (some p13) (.bin .lss x12 x11)]) (.seq (.cond x13 (.skip) (.exit 0)) (.seq (.block 1 (.seq (.region [o (some p14) (.iaddrS 1 x10 x12),o (some p15) (.load x14 false 1),o (some p9) (.mov x15)]) (.region [o (some p16) (.mov x7),o (some p17) (.mov x0),o (some p18) (.mov x9),o (some p19) (.mov x2),o (some p20) (.call 107 [x17, x18, x19]),o (some p21) (.bslice 1 1 [(iv 0)] [(0, 1, x20)]),o (some p22) (.append 1 8 x16 x21),o (some p7) (.mov x22)]))) (.region [o (some p23) (.bin .add x12 (.c (iv 1))),o (some p12) (.mov x23)])))
def kc_pivot_keys_l0 : ACode := c_pivot_keys_l0
def c_pivot_keys : ACode := .seq (.region [o (some p6) (.mov (.c .nilsl))]) (.seq (.region [o (some p7) (.mov (.c .nilsl))]) (.seq (.seq (.region [o (some p10) (.mov x1),o (some p11) (.len false x10),o (some p12) (.mov (.c (iv 0)))]) (.block 0 (.loop kc_pivot_keys_l0))) (.seq (.region [o (some p24) (.mov x7),o (some p6) (.mov x24)]) (.ret))))
def a139 : AFn := ⟨c_pivot_keys, [.t p6]⟩
abbrev f_pivot_keys : Nat := 139
def c_slices_IndexFunc_api_Attr_api_Attr_l0 : ACode := .seq (.region [o (some p9) (.bin .lss x8 x7)]) (.seq (.cond x9 (.skip) (.exit 0)) (.seq (.block 1 (.seq (.region [o (some p10) (.mov x8),o (some p5) (.mov x10)]) (.seq (.region [o (some p11) (.mov x1),o (some p12) (.mov x0),o (some p13) (.mov x5),o (some p14) (.iaddrS 4 x12 x13),o (some p15) (.load x14 true 4),o (some p16) (.callv x11 [x15])]) (.cond x16 (.seq (.region [o (some p17) (.mov x5),o (some p4) (.mov x17)]) (.ret)) (.skip))))) (.region [o (some p18) (.bin .add x8 (.c (iv 1))),o (some p8) (.mov x18)])))
def kc_slices_IndexFunc_api_Attr_api_Attr_l0 : ACode := c_slices_IndexFunc_api_Attr_api_Attr_l0
def c_slices_IndexFunc_api_Attr_api_Attr : ACode := .seq (.region [o (some p4) (.mov (.c (iv 0)))]) (.seq (.seq (.region [o (some p6) (.mov x0),o (some p7) (.len false x6),o (some p8) (.mov (.c (iv 0)))]) (.block 0 (.loop kc_slices_IndexFunc_api_Attr_api_Attr_l0))) (.seq (.region [o (some p4) (.mov (.c (iv (-1))))]) (.ret)))
def a140 : AFn := ⟨c_slices_IndexFunc_api_Attr_api_Attr, [.t p4]⟩
abbrev f_slices_IndexFunc_api_Attr_api_Attr : Nat := 140
def c_attr_Get_1 : ACode := .seq (.region [o (some p2) (.box x0),o (some p3) (.mov (.c (.bool false)))]) (.seq (.region [o (some p4) (.faddr 0 x2),o (some p5) (.load x4 false 1),o (some p6) (.load x1 false 1),o (some p7) (.bin .eql x5 x6),o (some p3) (.mov x7)]) (.ret))
def a141 : AFn := ⟨c_attr_Get_1, [.t p3]⟩
abbrev f_attr_Get_1 : Nat := 141
def c_slices_Sorted_string : ACode := .seq (.region [o (some p2) (.mov (.c .nilsl))]) (.seq (.region [o (some p4) (.mov x0),o (some p5) (.call 165 [x4]),o (some p3) (.mov x5)]) (.seq (.region [o (some p6) (.mov x3),o (some p7) (.call 166 [x6])]) (.seq (.region [o (some p8) (.mov x3),o (some p2) (.mov x8)]) (.ret))))
def a142 : AFn := ⟨c_slices_Sorted_string, [.t p2]⟩
abbrev f_slices_Sorted_string : Nat := 142
def c_maps_Keys_map_string_bool_string_bool : ACode := .seq (.region [o (some p1) (.box x0),o (some p2) (.mov (.c .nilfn))]) (.seq (.region [o (some p3) (.mkfn 167 [] [x1]),o (some p2) (.mov x3)]) (.ret))
def a143 : AFn := ⟨c_maps_Keys_map_string_bool_string_bool, [.t p2]⟩
abbrev f_maps_Keys_map_string_bool_string_bool : Nat := 143
def c_slices_insertionSortCmpFunc_api_Entry_l1 : ACode := .seq (.seq (.draw [(.p, o (some p18) (.mov x9)),(.p, o (some p19) (.mov x1)),(.p, o (some p20) (.bin .gtr x18 x19)),(.p, o (some p21) (.mov x20)),(.p, og (some p22) (.mov x3) p21 true),(.p, og (some p23) (.mov x0) p21 true),(.p, og (some p24) (.mov x9) p21 true),(.p, og (some p25) (.iaddrS 9 x23 x24) p21 true),(.l 0 0, og (some p26) (.load x25 true 9) p21 true),(.p, og (some p27) (.mov x0) p21 true),(.p, og (some p28) (.mov x9) p21 true),(.p, og (some p29) (.bin .sub x28 (.c (iv 1))) p21 true),(.p, og (some p30) (.iaddrS 9 x27 x29) p21 true),(.l 0 0, og (some p31) (.load x30 true 9) p21 true),(.e, og (some p32) (.callv x22 [x26, x31]) p21 true),(.p, og (some p33) (.bin .lss x32 (.c (iv 0))) p21 true),(.p, o (some p34) (.pick x21 x33 (.c (.bool false))))]) (.cond x34 (.skip) (.exit 2))) (.seq (.block 3 (.draw [(.p, o (some p37) (.mov x0)),(.p, o (some p38) (.mov x9)),(.p, o (some p39) (.mov x0)),(.p, o (some p40) (.mov x9)),(.p, o (some p41) (.bin .sub x40 (.c (iv 1)))),(.p, o (some p42) (.mov x0)),(.p, o (some p43) (.mov x9)),(.p, o (some p44) (.bin .sub x43 (.c (iv 1)))),(.p, o (some p45) (.iaddrS 9 x42 x44)),(.l 0 0, o (some p46) (.load x45 true 9)),(.p, o (some p47) (.mov x0)),(.p, o (some p48) (.mov x9)),(.p, o (some p49) (.iaddrS 9 x47 x48)),(.l 0 0, o (some p50) (.load x49 true 9)),(.p, o (some p51) (.iaddrS 9 x37 x38)),(.e, o none (.store x51 x46 9)),(.p, o (some p52) (.iaddrS 9 x39 x41)),(.e, o none (.store x52 x50 9))])) (.region [o (some p35) (.mov x9),o (some p36) (.bin .sub x35 (.c (iv 1))),o (some p9) (.mov x36)]))
def kc_slices_insertionSortCmpFunc_api_Entry_l1 : ACode := c_slices_insertionSortCmpFunc_api_Entry_l1
def c_slices_insertionSortCmpFunc_api_Entry_l0 : ACode := .seq (.seq (.region [o (some p12) (.mov x8),o (some p13) (.mov x2),o (some p14) (.bin .lss x12 x13)]) (.cond x14 (.skip) (.exit 0))) (.seq (.block 1 (.seq (.region [o (some p17) (.mov x8),o (some p9) (.mov x17)]) (.block 2 (.loop kc_slices_insertionSortCmpFunc_api_Entry_l1)))) (.region [o (some p15) (.mov x8),o (some p16) (.bin .add x15 (.c (iv 1))),o (some p8) (.mov x16)]))
def kc_slices_insertionSortCmpFunc_api_Entry_l0 : ACode := c_slices_insertionSortCmpFunc_api_Entry_l0
def c_slices_insertionSortCmpFunc_api_Entry : ACode := .seq (.region [o (some p10) (.mov x1),o (some p11) (.bin .add x10 (.c (iv 1))),o (some p8) (.mov x11)]) (.block 0 (.loop kc_slices_insertionSortCmpFunc_api_Entry_l0))
def a144 : AFn := ⟨c_slices_insertionSortCmpFunc_api_Entry, []⟩
abbrev f_slices_insertionSortCmpFunc_api_Entry : Nat := 144
def c_slices_symMergeCmpFunc_api_Entry_l0 : ACode := .seq (.seq (.region [o (some p31) (.mov x10),o (some p32) (.mov x11),o (some p33) (.bin .lss x31 x32)]) (.cond x33 (.skip) (.exit 0))) (.block 1 (.seq (.region [o (some p34) (.mov x10),o (some p35) (.mov x11),o (some p36) (.bin .add x34 x35),o (some p37) (.convI .u64 x36),o (some p38) (.bin .shr x37 (.c (.int .u64 1))),o (some p39) (.convI .i64 x38),o (some p12) (.mov x39)]) (.seq (.draw [(.p, o (some p40) (.mov x4)),(.p, o (some p41) (.mov x0)),(.p, o (some p42) (.mov x12)),(.p, o (some p43) (.iaddrS 9 x41 x42)),(.l 0 0, o (some p44) (.load x43 true 9)),(.p, o (some p45) (.mov x0)),(.p, o (some p46) (.mov x1)),(.p, o (some p47) (.iaddrS 9 x45 x46)),(.l 0 0, o (some p48) (.load x47 true 9)),(.e, o (some p49) (.callv x40 [x44, x48])),(.p, o (some p50) (.bin .lss x49 (.c (iv 0))))]) (.cond x50 (.region [o (some p51) (.mov x12),o (some p52) (.bin .add x51 (.c (iv 1))),o (some p10) (.mov x52)]) (.region [o (some p53) (.mov x12),o (some p11) (.mov x53)])))))
def kc_slices_symMergeCmpFunc_api_Entry_l0 : ACode := c_slices_symMergeCmpFunc_api_Entry_l0
def c_slices_symMergeCmpFunc_api_Entry_l1 : ACode := .seq (.seq (.region [o (some p55) (.mov x13),o (some p56) (.mov x10),o (some p57) (.bin .sub x56 (.c (iv 1))),o (some p58) (.bin .lss x55 x57)]) (.cond x58 (.skip) (.exit 2))) (.seq (.block 3 (.draw [(.p, o (some p61) (.mov x0)),(.p, o (some p62) (.mov x13)),(.p, o (some p63) (.mov x0)),(.p, o (some p64) (.mov x13)),(.p, o (some p65) (.bin .add x64 (.c (iv 1)))),(.p, o (some p66) (.mov x0)),(.p, o (some p67) (.mov x13)),(.p, o (some p68) (.bin .add x67 (.c (iv 1)))),(.p, o (some p69) (.iaddrS 9 x66 x68)),(.l 0 0, o (some p70) (.load x69 true 9)),(.p, o (some p71) (.mov x0)),(.p, o (some p72) (.mov x13)),(.p, o (some p73) (.iaddrS 9 x71 x72)),(.l 0 0, o (some p74) (.load x73 true 9)),(.p, o (some p75) (.iaddrS 9 x61 x62)),(.e, o none (.store x75 x70 9)),(.p, o (some p76) (.iaddrS 9 x63 x65)),(.e, o none (.store x76 x74 9))])) (.region [o (some p59) (.mov x13),o (some p60) (.bin .add x59 (.c (iv 1))),o (some p13) (.mov x60)]))
def kc_slices_symMergeCmpFunc_api_Entry_l1 : ACode := c_slices_symMergeCmpFunc_api_Entry_l1
def c_slices_symMergeCmpFunc_api_Entry_l2 : ACode := .seq (.seq (.region [o (some p83) (.mov x14),o (some p84) (.mov x15),o (some p85) (.bin .lss x83 x84)]) (.cond x85 (.skip) (.exit 4))) (.block 5 (.seq (.region [o (some p86) (.mov x14),o (some p87) (.mov x15),o (some p88) (.bin .add x86 x87),o (some p89) (.convI .u64 x88),o (some p90) (.bin .shr x89 (.c (.int .u64 1))),o (some p91) (.convI .i64 x90),o (some p16) (.mov x91)]) (.seq (.draw [(.p, o (some p92) (.mov x4)),(.p, o (some p93) (.mov x0)),(.p, o (some p94) (.mov x2)),(.p, o (some p95) (.iaddrS 9 x93 x94)),(.l 0 0, o (some p96) (.load x95 true 9)),(.p, o (some p97) (.mov x0)),(.p, o (some p98) (.mov x16)),(.p, o (some p99) (.iaddrS 9 x97 x98)),(.l 0 0, o (some p100) (.load x99 true 9)),(.e, o (some p101) (.callv x92 [x96, x100])),(.p, o (some p102) (.bin .lss x101 (.c (iv 0)))),(.p, o (some p103) (.un .not x102))]) (.cond x103 (.region [o (some p104) (.mov x16),o (some p105) (.bin .add x104 (.c (iv 1))),o (some p14) (.mov x105)]) (.region [o (some p106) (.mov x16),o (some p15) (.mov x106)])))))
def kc_slices_symMergeCmpFunc_api_Entry_l2 : ACode := c_slices_symMergeCmpFunc_api_Entry_l2
def c_slices_symMergeCmpFunc_api_Entry_l3 : ACode := .seq (.seq (.region [o (some p108) (.mov x17),o (some p109) (.mov x14),o (some p110) (.bin .gtr x108 x109)]) (.cond x110 (.skip) (.exit 6))) (.seq (.block 7 (.draw [(.p, o (some p113) (.mov x0)),(.p, o (some p114) (.mov x17)),(.p, o (some p115) (.mov x0)),(.p, o (some p116) (.mov x17)),(.p, o (some p117) (.bin .sub x116 (.c (iv 1)))),(.p, o (some p118) (.mov x0)),(.p, o (some p119) (.mov x17)),(.p, o (some p120) (.bin .sub x119 (.c (iv 1)))),(.p, o (some p121) (.iaddrS 9 x118 x120)),(.l 0 0, o (some p122) (.load x121 true 9)),(.p, o (some p123) (.mov x0)),(.p, o (some p124) (.mov x17)),(.p, o (some p125) (.iaddrS 9 x123 x124)),(.l 0 0, o (some p126) (.load x125 true 9)),(.p, o (some p127) (.iaddrS 9 x113 x114)),(.e, o none (.store x127 x122 9)),(.p, o (some p128) (.iaddrS 9 x115 x117)),(.e, o none (.store x128 x126 9))])) (.region [o (some p111) (.mov x17),o (some p112) (.bin .sub x111 (.c (iv 1))),o (some p17) (.mov x112)]))
def kc_slices_symMergeCmpFunc_api_Entry_l3 : ACode := c_slices_symMergeCmpFunc_api_Entry_l3
def c_slices_symMergeCmpFunc_api_Entry_l4 : ACode := .seq (.seq (.region [o (some p149) (.mov x20),o (some p150) (.mov x21),o (some p151) (.bin .lss x149 x150)]) (.cond x151 (.skip) (.exit 8))) (.block 9 (.seq (.region [o (some p152) (.mov x20),o (some p153) (.mov x21),o (some p154) (.bin .add x152 x153),o (some p155) (.convI .u64 x154),o (some p156) (.bin .shr x155 (.c (.int .u64 1))),o (some p157) (.convI .i64 x156),o (some p23) (.mov x157)]) (.seq (.draw [(.p, o (some p158) (.mov x4)),(.p, o (some p159) (.mov x0)),(.p, o (some p160) (.mov x22)),(.p, o (some p161) (.mov x23)),(.p, o (some p162) (.bin .sub x160 x161)),(.p, o (some p163) (.iaddrS 9 x159 x162)),(.l 0 0, o (some p164) (.load x163 true 9)),(.p, o (some p165) (.mov x0)),(.p, o (some p166) (.mov x23)),(.p, o (some p167) (.iaddrS 9 x165 x166)),(.l 0 0, o (some p168) (.load x167 true 9)),(.e, o (some p169) (.callv x158 [x164, x168])),(.p, o (some p170) (.bin .lss x169 (.c (iv 0)))),(.p, o (some p171) (.un .not x170))]) (.cond x171 (.region [o (some p172) (.mov x23),o (some p173) (.bin .add x172 (.c (iv 1))),o (some p20) (.mov x173)]) (.region [o (some p174) (.mov x23),o (some p21) (.mov x174)])))))
def kc_slices_symMergeCmpFunc_api_Entry_l4 : ACode := c_slices_symMergeCmpFunc_api_Entry_l4
def c_slices_symMergeCmpFunc_api_Entry : ACode := .seq (.seq (.region [o (some p25) (.mov x2),o (some p26) (.mov x1),o (some p27) (.bin .sub x25 x26),o (some p28) (.bin .eql x27 (.c (iv 1)))]) (.cond x28 (.seq (.region [o (some p29) (.mov x2),o (some p10) (.mov x29)]) (.seq (.region [o (some p30) (.mov x3),o (some p11) (.mov x30)]) (.seq (.block 0 (.loop kc_slices_symMergeCmpFunc_api_Entry_l0)) (.seq (.seq (.region [o (some p54) (.mov x1),o (some p13) (.mov x54)]) (.block 2 (.loop kc_slices_symMergeCmpFunc_api_Entry_l1))) (.ret))))) (.skip))) (.seq (.seq (.region [o (some p77) (.mov x3),o (some p78) (.mov x2),o (some p79) (.bin .sub x77 x78),o (some p80) (.bin .eql x79 (.c (iv 1)))]) (.cond x80 (.seq (.region [o (some p81) (.mov x1),o (some p14) (.mov x81)]) (.seq (.region [o (some p82) (.mov x2),o (some p15) (.mov x82)]) (.seq (.block 4 (.loop kc_slices_symMergeCmpFunc_api_Entry_l2)) (.seq (.seq (.region [o (some p107) (.mov x2),o (some p17) (.mov x107)]) (.block 6 (.loop kc_slices_symMergeCmpFunc_api_Entry_l3))) (.ret))))) (.skip))) (.seq (.region [o (some p129) (.mov x1),o (some p130) (.mov x3),o (some p131) (.bin .add x129 x130),o (some p132) (.convI .u64 x131),o (some p133) (.bin .shr x132 (.c (.int .u64 1))),o (some p134) (.convI .i64 x133),o (some p18) (.mov x134)]) (.seq (.region [o (some p135) (.mov x18),o (some p136) (.mov x2),o (some p137) (.bin .add x135 x136),o (some p19) (.mov x137)]) (.seq (.region [o (some p20) (.mov (.c (iv 0))),o (some p21) (.mov (.c (iv 0)))]) (.seq (.seq (.region [o (some p138) (.mov x2),o (some p139) (.mov x18),o (some p140) (.bin .gtr x138 x139)]) (.cond x140 (.seq (.region [o (some p141) (.mov x19),o (some p142) (.mov x3),o (some p143) (.bin .sub x141 x142),o (some p20) (.mov x143)]) (.region [o (some p144) (.mov x18),o (some p21) (.mov x144)])) (.seq (.region [o (some p145) (.mov x1),o (some p20) (.mov x145)]) (.region [o (some p146) (.mov x2),o (some p21) (.mov x146)])))) (.seq (.region [o (some p147) (.mov x19),o (some p148) (.bin .sub x147 (.c (iv 1))),o (some p22) (.mov x148)]) (.seq (.block 8 (.loop kc_slices_symMergeCmpFunc_api_Entry_l4)) (.seq (.region [o (some p175) (.mov x19),o (some p176) (.mov x20),o (some p177) (.bin .sub x175 x176),o (some p24) (.mov x177)]) (.seq (.seq (.region [o (some p178) (.mov x20),o (some p179) (.mov x2),o (some p180) (.bin .lss x178 x179),o (some p181) (.mov x180),og (some p182) (.mov x2) p181 true,og (some p183) (.mov x24) p181 true,og (some p184) (.bin .lss x182 x183) p181 true,o (some p185) (.pick x181 x184 (.c (.bool false)))]) (.cond x185 (.region [o (some p186) (.mov x0),o (some p187) (.mov x20),o (some p188) (.mov x2),o (some p189) (.mov x24),o (some p190) (.mov x4),o (some p191) (.call 168 [x186, x187, x188, x189, x190])]) (.skip))) (.seq (.seq (.region [o (some p192) (.mov x1),o (some p193) (.mov x20),o (some p194) (.bin .lss x192 x193),o (some p195) (.mov x194),og (some p196) (.mov x20) p195 true,og (some p197) (.mov x18) p195 true,og (some p198) (.bin .lss x196 x197) p195 true,o (some p199) (.pick x195 x198 (.c (.bool false)))]) (.cond x199 (.region [o (some p200) (.mov x0),o (some p201) (.mov x1),o (some p202) (.mov x20),o (some p203) (.mov x18),o (some p204) (.mov x4),o (some p205) (.call 145 [x200, x201, x202, x203, x204])]) (.skip))) (.seq (.region [o (some p206) (.mov x18),o (some p207) (.mov x24),o (some p208) (.bin .lss x206 x207),o (some p209) (.mov x208),og (some p210) (.mov x24) p209 true,og (some p211) (.mov x3) p209 true,og (some p212) (.bin .lss x210 x211) p209 true,o (some p213) (.pick x209 x212 (.c (.bool false)))]) (.cond x213 (.region [o (some p214) (.mov x0),o (some p215) (.mov x18),o (some p216) (.mov x24),o (some p217) (.mov x3),o (some p218) (.mov x4),o (some p219) (.call 145 [x214, x215, x216, x217, x218])]) (.skip)))))))))))))
def a145 : AFn := ⟨c_slices_symMergeCmpFunc_api_Entry, []⟩
abbrev f_slices_symMergeCmpFunc_api_Entry : Nat := 145
def c_metric_clamp_int : ACode := .seq (.region [o (some p6) (.mov (.c (iv 0)))]) (.seq (.region [o (some p7) (.mov x1),o (some p8) (.mov x0),o (some p9) (.mov x2),o (some p10) (.mn [x8, x9]),o (some p11) (.mx [x7, x10]),o (some p6) (.mov x11)]) (.ret))
def a146 : AFn := ⟨c_metric_clamp_int, [.t p6]⟩
abbrev f_metric_clamp_int : Nat := 146
def c_math_bits_Mul32 : ACode := .seq (.region [o (some p4) (.mov (.c (.int .u32 0))),o (some p5) (.mov (.c (.int .u32 0)))]) (.seq (.region [o (some p7) (.mov x0),o (some p8) (.convI .u64 x7),o (some p9) (.mov x1),o (some p10) (.convI .u64 x9),o (some p11) (.bin .mul x8 x10),o (some p6) (.mov x11)]) (.seq (.region [o (some p12) (.mov x6),o (some p13) (.bin .shr x12 (.c (.int .u64 32))),o (some p14) (.convI .u32 x13),o (some p15) (.mov x6),o (some p16) (.convI .u32 x15),o (some p4) (.mov x14),o (some p5) (.mov x16)]) (.ret)))
def a147 : AFn := ⟨c_math_bits_Mul32, [.t p4, .t p5]⟩
abbrev f_math_bits_Mul32 : Nat := 147
def c_math_bits_Mul64 : ACode := .seq (.region [o (some p4) (.mov (.c (.int .u64 0))),o (some p5) (.mov (.c (.int .u64 0)))]) (.seq (.region [o (some p14) (.mov x0),o (some p15) (.bin .and x14 (.c (.int .u64 4294967295))),o (some p6) (.mov x15)]) (.seq (.region [o (some p16) (.mov x0),o (some p17) (.bin .shr x16 (.c (.int .u64 32))),o (some p7) (.mov x17)]) (.seq (.region [o (some p18) (.mov x1),o (some p19) (.bin .and x18 (.c (.int .u64 4294967295))),o (some p8) (.mov x19)]) (.seq (.region [o (some p20) (.mov x1),o (some p21) (.bin .shr x20 (.c (.int .u64 32))),o (some p9) (.mov x21)]) (.seq (.region [o (some p22) (.mov x6),o (some p23) (.mov x8),o (some p24) (.bin .mul x22 x23),o (some p10) (.mov x24)]) (.seq (.region [o (some p25) (.mov x7),o (some p26) (.mov x8),o (some p27) (.bin .mul x25 x26),o (some p28) (.mov x10),o (some p29) (.bin .shr x28 (.c (.int .u64 32))),o (some p30) (.bin .add x27 x29),o (some p11) (.mov x30)]) (.seq (.region [o (some p31) (.mov x11),o (some p32) (.bin .and x31 (.c (.int .u64 4294967295))),o (some p12) (.mov x32)]) (.seq (.region [o (some p33) (.mov x11),o (some p34) (.bin .shr x33 (.c (.int .u64 32))),o (some p13) (.mov x34)]) (.seq (.region [o (some p35) (.mov x12),o (some p36) (.mov x6),o (some p37) (.mov x9),o (some p38) (.bin .mul x36 x37),o (some p39) (.bin .add x35 x38),o (some p12) (.mov x39)]) (.seq (.region [o (some p40) (.mov x7),o (some p41) (.mov x9),o (some p42) (.bin .mul x40 x41),o (some p43) (.mov x13),o (some p44) (.bin .add x42 x43),o (some p45) (.mov x12),o (some p46) (.bin .shr x45 (.c (.int .u64 32))),o (some p47) (.bin .add x44 x46),o (some p4) (.mov x47)]) (.seq (.region [o (some p48) (.mov x0),o (some p49) (.mov x1),o (some p50) (.bin .mul x48 x49),o (some p5) (.mov x50)]) (.ret))))))))))))
def a148 : AFn := ⟨c_math_bits_Mul64, [.t p4, .t p5]⟩
abbrev f_math_bits_Mul64 : Nat := 148
def c_vector_Norm : ACode := .seq (.region [o (some p4) (.mov (.c (iv 0)))]) (.seq (.region [o (some p6) (.mkmap 0),o none (.mapset 0 x6 (.c (iv 1)) (.c (.fn 169 [] []))),o none (.mapset 0 x6 (.c (iv 2)) (.c (.fn 170 [] []))),o none (.mapset 0 x6 (.c (iv 3)) (.c (.fn 171 [] []))),o (some p7) (.mov x6),o (some p5) (.mov x7)]) (.seq (.region [o (some p8) (.mov x1),o (some p9) (.mov x5),o (some p10) (.mov x0),o (some p11) (.lookup 0 .nilfn false x9 x10),o (some p12) (.call 172 [x8, (.c (iv 0)), x11]),o (some p4) (.mov x12)]) (.ret)))
def a149 : AFn := ⟨c_vector_Norm, [.t p4]⟩
abbrev f_vector_Norm : Nat := 149
def c_vector_Sub_l0 : ACode := .seq (.region [o (some p12) (.bin .lss x11 x10)]) (.seq (.cond x12 (.skip) (.exit 0)) (.seq (.block 1 (.seq (.region [o (some p13) (.mov x11),o (some p6) (.mov x13)]) (.draw [(.p, o (some p14) (.mov x5)),(.p, o (some p15) (.mov x6)),(.p, o (some p16) (.iaddrS 1 x14 x15)),(.l 0 0, o (some p17) (.load x16 false 1)),(.p, o (some p18) (.mov x1)),(.p, o (some p19) (.mov x6)),(.p, o (some p20) (.iaddrS 1 x18 x19)),(.l 0 0, o (some p21) (.load x20 false 1)),(.p, o (some p22) (.bin .sub x17 x21)),(.p, o (some p23) (.iaddrS 1 x14 x15)),(.e, o none (.store x23 x22 1))]))) (.region [o (some p24) (.bin .add x11 (.c (iv 1))),o (some p11) (.mov x24)])))
def kc_vector_Sub_l0 : ACode := c_vector_Sub_l0
def c_vector_Sub : ACode := .seq (.region [o (some p4) (.mov (.c .nilsl))]) (.seq (.region [o (some p7) (.mov x0),o (some p8) (.call 22 [x7]),o (some p5) (.mov x8)]) (.seq (.seq (.region [o (some p9) (.mov x5),o (some p10) (.len false x9),o (some p11) (.mov (.c (iv 0)))]) (.block 0 (.loop kc_vector_Sub_l0))) (.seq (.region [o (some p25) (.mov x5),o (some p4) (.mov x25)]) (.ret))))
def a150 : AFn := ⟨c_vector_Sub, [.t p4]⟩
abbrev f_vector_Sub : Nat := 150
def c_slices_Chunk_api_Entry_api_Entry : ACode := .seq (.region [o (some p2) (.box x0),o (some p3) (.box x1),o (some p4) (.mov (.c .nilfn))]) (.seq (.seq (.region [o (some p5) (.load x3 false 1),o (some p6) (.bin .lss x5 (.c (iv 1)))]) (.cond x6 (.region [o (some p7) (.mkif 9 (.c (.str (bs [99, 97, 110, 110, 111, 116, 32, 98, 101, 32, 108, 101, 115, 115, 32, 116, 104, 97, 110, 32, 49])))),o none (.bad)]) (.skip))) (.seq (.region [o (some p8) (.mkfn 173 [] [x2, x3]),o (some p4) (.mov x8)]) (.ret)))
def a151 : AFn := ⟨c_slices_Chunk_api_Entry_api_Entry, [.t p4]⟩
abbrev f_slices_Chunk_api_Entry_api_Entry : Nat := 151
def c_part_Block : ACode := .seq (.region [o (some p3) (.box x0),o (some p6) (.alloc [(iv 0), .nilsl, .nilsl, .nilsl, (iv 0), (iv 0), (iv 0), (iv 0), (iv 0), .nilsl, .nilsl, .nilsl]),o (some p7) (.mov (.c (iv 0)))]) (.seq (.seq (.region [o (some p10) (.mov x2),o (some p11) (.len false x10),o (some p12) (.bin .lss x11 (.c (iv 1))),o (some p13) (.mov x12),og (some p14) (.mov x2) p13 false,og (some p15) (.len false x14) p13 false,og (some p16) (.bin .gtr x15 (.c (iv 16))) p13 false,o (some p17) (.pick x13 (.c (.bool true)) x16)]) (.cond x17 (.seq (.region [o (some p18) (.build [(iv 0), .nilsl, .nilsl, .nilsl, (iv 0), (iv 0), (iv 0), (iv 0), (iv 0), .nilsl, .nilsl, .nilsl] []),o none (.store x6 x18 12),o (some p7) (.mov (.c (iv 3)))]) (.ret)) (.skip))) (.seq (.region [o (some p20) (.load x3 true 3),o (some p21) (.mov x1),o (some p22) (.mov x2),o (some p23) (.call 30 [x20, x21, x22]),o (some p19) (.mov x23),o (some p24) (.extract x19 0),o (some p25) (.extract x19 1),o (some p8) (.alloc [(iv 0), .nilsl, .nilsl, .nilsl, (iv 0), (iv 0), (iv 0), (iv 0), (iv 0), .nilsl]),o none (.store x8 x24 10),o (some p9) (.mov x25)]) (.seq (.seq (.region [o (some p26) (.mov x9),o (some p27) (.bin .neq x26 (.c (iv 0)))]) (.cond x27 (.seq (.region [o (some p28) (.build [(iv 0), .nilsl, .nilsl, .nilsl, (iv 0), (iv 0), (iv 0), (iv 0), (iv 0), .nilsl, .nilsl, .nilsl] []),o (some p29) (.mov x9),o none (.store x6 x28 12),o (some p7) (.mov x29)]) (.ret)) (.skip))) (.seq (.draw [(.l 0 1, o (some p30) (.load x8 true 10)),(.p, o (some p31) (.mov x2)),(.e, o (some p32) (.call 111 [x31])),(.p, o (some p33) (.build [(iv 0), .nilsl, .nilsl, .nilsl, (iv 0), (iv 0), (iv 0), (iv 0), (iv 0), .nilsl, .nilsl, .nilsl] [(0, 10, x30), (11, 1, x32)])),(.e, o none (.store x6 x33 12)),(.p, o (some p7) (.mov (.c (iv 0))))]) (.ret)))))
def a152 : AFn := ⟨c_part_Block, [.cell p6 true 12, .t p7]⟩
abbrev f_part_Block : Nat := 152
def c_part_Inner_l0 : ACode := .seq (.region [o (some p19) (.bin .lss x18 x17)]) (.seq (.cond x19 (.skip) (.exit 0)) (.seq (.block 1 (.seq (.region [o (some p20) (.iaddrS 12 x16 x18),o (some p21) (.load x20 true 12),o (some p8) (.alloc [(iv 0), .nilsl, .nilsl, .nilsl, (iv 0), (iv 0), (iv 0), (iv 0), (iv 0), .nilsl, .nilsl, .nilsl]),o none (.store x8 x21 12)]) (.region [o (some p22) (.mov x6),o (some p23) (.faddr 0 x8),o (some p24) (.load x23 true 10),o (some p25) (.bslice 10 1 [(iv 0), .nilsl, .nilsl, .nilsl, (iv 0), (iv 0), (iv 0), (iv 0), (iv 0), .nilsl] [(0, 10, x24)]),o (some p26) (.append 10 144 x22 x25),o (some p6) (.mov x26)]))) (.region [o (some p27) (.bin .add x18 (.c (iv 1))),o (some p18) (.mov x27)])))
def kc_part_Inner_l0 : ACode := c_part_Inner_l0
def c_part_Inner : ACode := .seq (.region [o (some p2) (.box x0),o (some p4) (.alloc [(iv 0), .nilsl, .nilsl, .nilsl, (iv 0), (iv 0), (iv 0), (iv 0), (iv 0), .nilsl, .nilsl, .nilsl]),o (some p5) (.mov (.c (iv 0)))]) (.seq (.seq (.region [o (some p12) (.mov x1),o (some p13) (.len false x12),o (some p14) (.bin .eql x13 (.c (iv 0)))]) (.cond x14 (.seq (.region [o (some p15) (.build [(iv 0), .nilsl, .nilsl, .nilsl, (iv 0), (iv 0), (iv 0), (iv 0), (iv 0), .nilsl, .nilsl, .nilsl] []),o none (.store x4 x15 12),o (some p5) (.mov (.c (iv 3)))]) (.ret)) (.skip))) (.seq (.region [o (some p6) (.mov (.c .nilsl))]) (.seq (.seq (.region [o (some p16) (.mov x1),o (some p17) (.len false x16),o (some p18) (.mov (.c (iv 0)))]) (.block 0 (.loop kc_part_Inner_l0))) (.seq (.region [o (some p29) (.load x2 true 3),o (some p30) (.mov x6),o (some p31) (.call 174 [x29, x30]),o (some p28) (.mov x31),o (some p32) (.extract x28 0),o (some p33) (.extract x28 1),o (some p9) (.alloc [(iv 0), .nilsl, .nilsl, .nilsl, (iv 0), (iv 0), (iv 0), (iv 0), (iv 0), .nilsl]),o none (.store x9 x32 10),o (some p10) (.mov x33)]) (.seq (.seq (.region [o (some p34) (.mov x10),o (some p35) (.bin .neq x34 (.c (iv 0)))]) (.cond x35 (.seq (.region [o (some p36) (.build [(iv 0), .nilsl, .nilsl, .nilsl, (iv 0), (iv 0), (iv 0), (iv 0), (iv 0), .nilsl, .nilsl, .nilsl] []),o (some p37) (.mov x10),o none (.store x4 x36 12),o (some p5) (.mov x37)]) (.ret)) (.skip))) (.seq (.draw [(.l 0 1, o (some p38) (.load x9 true 10)),(.p, o (some p39) (.mov x1)),(.e, o (some p40) (.call 175 [x39])),(.p, o (some p41) (.build [(iv 0), .nilsl, .nilsl, .nilsl, (iv 0), (iv 0), (iv 0), (iv 0), (iv 0), .nilsl, .nilsl, .nilsl] [(0, 10, x38), (10, 1, x40)])),(.pre 0 1, o (some p11) (.alloc [(iv 0), .nilsl, .nilsl, .nilsl, (iv 0), (iv 0), (iv 0), (iv 0), (iv 0), .nilsl, .nilsl, .nilsl])),(.e, o none (.store x11 x41 12))]) (.seq (.seq (.region [o (some p42) (.load x11 true 12),o (some p43) (.call 176 [x42]),o (some p44) (.bin .gtr x43 (.c (iv 24)))]) (.cond x44 (.seq (.region [o (some p45) (.build [(iv 0), .nilsl, .nilsl, .nilsl, (iv 0), (iv 0), (iv 0), (iv 0), (iv 0), .nilsl, .nilsl, .nilsl] []),o none (.store x4 x45 12),o (some p5) (.mov (.c (iv 2)))]) (.ret)) (.skip))) (.seq (.region [o (some p46) (.load x11 true 12),o none (.store x4 x46 12),o (some p5) (.mov (.c (iv 0)))]) (.ret)))))))))
def a153 : AFn := ⟨c_part_Inner, [.cell p4 true 12, .t p5]⟩
abbrev f_part_Inner : Nat := 153
def c_tree_Build_1 : ACode := .seq (.region [o (some p2) (.box x0),o (some p3) (.box x1),o (some p4) (.mov (.c (iv 0)))]) (.seq (.draw [(.p, o (some p5) (.faddr 0 x2)),(.l 0 0, o (some p6) (.load x5 false 1)),(.p, o (some p7) (.faddr 0 x3)),(.l 0 0, o (some p8) (.load x7 false 1)),(.e, o (some p9) (.call 45 [x6, x8])),(.p, o (some p10) (.faddr 1 x2)),(.l 0 1, o (some p11) (.load x10 false 1)),(.p, o (some p12) (.faddr 1 x3)),(.l 0 1, o (some p13) (.load x12 false 1)),(.e, o (some p14) (.call 45 [x11, x13])),(.p, o (some p15) (.bslice 1 2 [(iv 0), (iv 0)] [(0, 1, x9), (1, 1, x14)])),(.e, o (some p16) (.call 59 [x15])),(.p, o (some p4) (.mov x16))]) (.ret))
def a154 : AFn := ⟨c_tree_Build_1, [.t p4]⟩
abbrev f_tree_Build_1 : Nat := 154
def c_tree_builder_build_l0 : ACode := .block 1 (.seq (.region [o (some p29) (.load x3 true 4),o (some p30) (.mov x9),o (some p31) (.load x5 false 1),o (some p32) (.bin .add x31 (.c (iv 1))),o (some p33) (.call 155 [x29, x30, x32]),o (some p28) (.mov x33),o (some p34) (.extract x28 0),o (some p35) (.extract x28 1),o (some p10) (.alloc [(iv 0), .nilsl, .nilsl, .nilsl, (iv 0), (iv 0), (iv 0), (iv 0), (iv 0), .nilsl, .nilsl, .nilsl]),o none (.store x10 x34 12),o (some p11) (.mov x35)]) (.seq (.seq (.region [o (some p36) (.mov x11),o (some p37) (.bin .neq x36 (.c (iv 0)))]) (.cond x37 (.seq (.region [o (some p38) (.build [(iv 0), .nilsl, .nilsl, .nilsl, (iv 0), (iv 0), (iv 0), (iv 0), (iv 0), .nilsl, .nilsl, .nilsl] []),o (some p39) (.mov x11),o none (.store x6 x38 12),o none (.store x7 x39 1)]) (.ret)) (.skip))) (.draw [(.l 0 0, o (some p40) (.load x8 false 1)),(.l 0 0, o (some p41) (.load x10 true 12)),(.l 0 0, o (some p42) (.len false x40)),(.p, o (some p43) (.bslice 12 1 [(iv 0), .nilsl, .nilsl, .nilsl, (iv 0), (iv 0), (iv 0), (iv 0), (iv 0), .nilsl, .nilsl, .nilsl] [(0, 12, (.c (.agg [(iv 0), .nilsl, .nilsl, .nilsl, (iv 0), (iv 0), (iv 0), (iv 0), (iv 0), .nilsl, .nilsl, .nilsl])))])),(.e, o (some p44) (.append 12 192 x40 x43)),(.p, o (some p45) (.iaddrS 12 x44 x42)),(.e, o none (.store x45 x41 12)),(.e2, o none (.store x8 x44 1))])))
def kc_tree_builder_build_l0 : ACode := c_tree_builder_build_l0
def c_tree_builder_build : ACode := .seq (.region [o (some p3) (.box x0),o (some p5) (.box x2),o (some p6) (.alloc [(iv 0), .nilsl, .nilsl, .nilsl, (iv 0), (iv 0), (iv 0), (iv 0), (iv 0), .nilsl, .nilsl, .nilsl]),o (some p7) (.alloc [(iv 0)])]) (.seq (.seq (.region [o (some p12) (.mov x1),o (some p13) (.len false x12),o (some p14) (.bin .leq x13 (.c (iv 16)))]) (.cond x14 (.seq (.region [o (some p15) (.faddr 0 x3),o (some p16) (.load x15 true 3),o (some p17) (.faddr 3 x3),o (some p18) (.load x17 false 1),o (some p19) (.mov x1),o (some p20) (.call 152 [x16, x18, x19]),o (some p21) (.extract x20 0),o (some p22) (.extract x20 1),o none (.store x6 x21 12),o none (.store x7 x22 1)]) (.ret)) (.skip))) (.seq (.region [o (some p8) (.alloc [.nilsl])]) (.seq (.seq (.region [o (some p23) (.load x3 true 4),o (some p24) (.mov x1),o (some p25) (.load x5 false 1),o (some p26) (.call 177 [x23, x24, x25])]) (.block 0 (.rangef x26 [p27] (.region [o (some p9) (.mov x27)]) kc_tree_builder_build_l0))) (.seq (.region [o (some p46) (.faddr 0 x3),o (some p47) (.load x46 true 3),o (some p48) (.load x8 false 1),o (some p49) (.call 153 [x47, x48]),o (some p50) (.extract x49 0),o (some p51) (.extract x49 1),o none (.store x6 x50 12),o none (.store x7 x51 1)]) (.ret)))))
def a155 : AFn := ⟨c_tree_builder_build, [.cell p6 true 12, .cell p7 false 1]⟩
abbrev f_tree_builder_build : Nat := 155
def c_graph_space_isRight : ACode := .seq (.region [o (some p1) (.box x0),o (some p2) (.mov (.c (.bool false)))]) (.seq (.region [o (some p4) (.mkfn 178 [] [x1]),o (some p3) (.mov x4)]) (.seq (.region [o (some p5) (.faddr 0 x1),o (some p6) (.load x5 false 1),o (some p7) (.call 101 [x6, (.c (iv 0))]),o (some p8) (.mov x7),og (some p9) (.faddr 1 x1) p8 true,og (some p10) (.load x9 false 1) p8 true,og (some p11) (.len false x10) p8 true,og (some p12) (.bin .geq x11 (.c (iv 1))) p8 true,o (some p13) (.pick x8 x12 (.c (.bool false))),o (some p14) (.mov x13),og (some p15) (.faddr 1 x1) p14 true,og (some p16) (.load x15 false 1) p14 true,og (some p17) (.len false x16) p14 true,og (some p18) (.bin .leq x17 (.c (iv 4096))) p14 true,o (some p19) (.pick x14 x18 (.c (.bool false))),o (some p20) (.mov x19),og (some p21) (.faddr 1 x1) p20 true,og (some p22) (.load x21 false 1) p20 true,og (some p23) (.mov x3) p20 true,og (some p24) (.call 49 [x22, x23]) p20 true,og (some p25) (.un .not x24) p20 true,o (some p26) (.pick x20 x25 (.c (.bool false))),o (some p2) (.mov x26)]) (.ret)))
def a156 : AFn := ⟨c_graph_space_isRight, [.t p2]⟩
abbrev f_graph_space_isRight : Nat := 156
def c_graph_space_keys_l0 : ACode := .seq (.region [o (some p12) (.bin .lss x11 x10)]) (.seq (.cond x12 (.skip) (.exit 0)) (.seq (.block 1 (.seq (.region [o (some p13) (.iaddrS 1 x9 x11),o (some p14) (.load x13 false 1),o (some p7) (.mov x14)]) (.region [o (some p15) (.mov x5),o (some p16) (.faddr 0 x2),o (some p17) (.load x16 false 1),o (some p18) (.mov x7),o (some p19) (.mov x1),o (some p20) (.call 107 [x17, x18, x19]),o (some p21) (.bslice 1 1 [(iv 0)] [(0, 1, x20)]),o (some p22) (.append 1 8 x15 x21),o (some p5) (.mov x22)]))) (.region [o (some p23) (.bin .add x11 (.c (iv 1))),o (some p11) (.mov x23)])))
def kc_graph_space_keys_l0 : ACode := c_graph_space_keys_l0
def c_graph_space_keys : ACode := .seq (.region [o (some p2) (.box x0),o (some p4) (.mov (.c .nilsl))]) (.seq (.region [o (some p5) (.mov (.c .nilsl))]) (.seq (.seq (.region [o (some p8) (.faddr 1 x2),o (some p9) (.load x8 false 1),o (some p10) (.len false x9),o (some p11) (.mov (.c (iv 0)))]) (.block 0 (.loop kc_graph_space_keys_l0))) (.seq (.region [o (some p24) (.mov x5),o (some p4) (.mov x24)]) (.ret))))
def a157 : AFn := ⟨c_graph_space_keys, [.t p4]⟩
abbrev f_graph_space_keys : Nat := 157
def c_slices_Sorted_int : ACode := .seq (.region [o (some p2) (.mov (.c .nilsl))]) (.seq (.region [o (some p4) (.mov x0),o (some p5) (.call 179 [x4]),o (some p3) (.mov x5)]) (.seq (.region [o (some p6) (.mov x3),o (some p7) (.call 180 [x6])]) (.seq (.region [o (some p8) (.mov x3),o (some p2) (.mov x8)]) (.ret))))
def a158 : AFn := ⟨c_slices_Sorted_int, [.t p2]⟩
abbrev f_slices_Sorted_int : Nat := 158
def c_slices_Values_int_int : ACode := .seq (.region [o (some p1) (.box x0),o (some p2) (.mov (.c .nilfn))]) (.seq (.region [o (some p3) (.mkfn 181 [] [x1]),o (some p2) (.mov x3)]) (.ret))
def a159 : AFn := ⟨c_slices_Values_int_int, [.t p2]⟩
abbrev f_slices_Values_int_int : Nat := 159
def c_graph_around_l0 : ACode := .seq (.region [o (some p11) (.bin .lss x10 x9)]) (.seq (.cond x11 (.skip) (.exit 0)) (.seq (.block 1 (.seq (.region [o (some p12) (.mov x10),o (some p13) (.iaddrS 1 x8 x10),o (some p14) (.load x13 false 1),o (some p6) (.mov x12),o (some p7) (.mov x14)]) (.seq (.region [o (some p15) (.mov x7),o (some p16) (.mov x1),o (some p17) (.bin .leq x15 x16)]) (.cond x17 (.region [o (some p18) (.mov x5),o (some p19) (.mov x6),o (some p20) (.bslice 1 1 [(iv 0)] [(0, 1, x19)]),o (some p21) (.append 1 8 x18 x20),o (some p5) (.mov x21)]) (.skip))))) (.region [o (some p22) (.bin .add x10 (.c (iv 1))),o (some p10) (.mov x22)])))
def kc_graph_around_l0 : ACode := c_graph_around_l0
def c_graph_around : ACode := .seq (.region [o (some p4) (.mov (.c .nilsl))]) (.seq (.region [o (some p5) (.mov (.c .nilsl))]) (.seq (.seq (.region [o (some p8) (.mov x0),o (some p9) (.len false x8),o (some p10) (.mov (.c (iv 0)))]) (.block 0 (.loop kc_graph_around_l0))) (.seq (.region [o (some p23) (.mov x5),o (some p4) (.mov x23)]) (.ret))))
def a160 : AFn := ⟨c_graph_around, [.t p4]⟩
abbrev f_graph_around : Nat := 160
def c_slices_rotateCmpFunc_int_l0 : ACode := .seq (.seq (.region [o (some p18) (.mov x10),o (some p19) (.mov x11),o (some p20) (.bin .neq x18 x19)]) (.cond x20 (.skip) (.exit 0))) (.block 1 (.seq (.region [o (some p21) (.mov x10),o (some p22) (.mov x11),o (some p23) (.bin .gtr x21 x22)]) (.cond x23 (.seq (.region [o (some p24) (.mov x0),o (some p25) (.mov x2),o (some p26) (.mov x10),o (some p27) (.bin .sub x25 x26),o (some p28) (.mov x2),o (some p29) (.mov x11),o (some p30) (.mov x4),o (some p31) (.call 182 [x24, x27, x28, x29, x30])]) (.region [o (some p32) (.mov x10),o (some p33) (.mov x11),o (some p34) (.bin .sub x32 x33),o (some p10) (.mov x34)])) (.seq (.region [o (some p35) (.mov x0),o (some p36) (.mov x2),o (some p37) (.mov x10),o (some p38) (.bin .sub x36 x37),o (some p39) (.mov x2),o (some p40) (.mov x11),o (some p41) (.bin .add x39 x40),o (some p42) (.mov x10),o (some p43) (.bin .sub x41 x42),o (some p44) (.mov x10),o (some p45) (.mov x4),o (some p46) (.call 182 [x35, x38, x43, x44, x45])]) (.region [o (some p47) (.mov x11),o (some p48) (.mov x10),o (some p49) (.bin .sub x47 x48),o (some p11) (.mov x49)])))))
def kc_slices_rotateCmpFunc_int_l0 : ACode := c_slices_rotateCmpFunc_int_l0
def c_slices_rotateCmpFunc_int : ACode := .seq (.region [o (some p12) (.mov x2),o (some p13) (.mov x1),o (some p14) (.bin .sub x12 x13),o (some p10) (.mov x14)]) (.seq (.region [o (some p15) (.mov x3),o (some p16) (.mov x2),o (some p17) (.bin .sub x15 x16),o (some p11) (.mov x17)]) (.seq (.block 0 (.loop kc_slices_rotateCmpFunc_int_l0)) (.region [o (some p50) (.mov x0),o (some p51) (.mov x2),o (some p52) (.mov x10),o (some p53) (.bin .sub x51 x52),o (some p54) (.mov x2),o (some p55) (.mov x10),o (some p56) (.mov x4),o (some p57) (.call 182 [x50, x53, x54, x55, x56])])))
def a161 : AFn := ⟨c_slices_rotateCmpFunc_int, []⟩
abbrev f_slices_rotateCmpFunc_int : Nat := 161
def c_slices_IndexFunc_string_string_l0 : ACode := .seq (.region [o (some p9) (.bin .lss x8 x7)]) (.seq (.cond x9 (.skip) (.exit 0)) (.seq (.block 1 (.seq (.region [o (some p10) (.mov x8),o (some p5) (.mov x10)]) (.seq (.region [o (some p11) (.mov x1),o (some p12) (.mov x0),o (some p13) (.mov x5),o (some p14) (.iaddrS 1 x12 x13),o (some p15) (.load x14 false 1),o (some p16) (.callv x11 [x15])]) (.cond x16 (.seq (.region [o (some p17) (.mov x5),o (some p4) (.mov x17)]) (.ret)) (.skip))))) (.region [o (some p18) (.bin .add x8 (.c (iv 1))),o (some p8) (.mov x18)])))
def kc_slices_IndexFunc_string_string_l0 : ACode := c_slices_IndexFunc_string_string_l0
def c_slices_IndexFunc_string_string : ACode := .seq (.region [o (some p4) (.mov (.c (iv 0)))]) (.seq (.seq (.region [o (some p6) (.mov x0),o (some p7) (.len false x6),o (some p8) (.mov (.c (iv 0)))]) (.block 0 (.loop kc_slices_IndexFunc_string_string_l0))) (.seq (.region [o (some p4) (.mov (.c (iv (-1))))]) (.ret)))
def a162 : AFn := ⟨c_slices_IndexFunc_string_string, [.t p4]⟩
abbrev f_slices_IndexFunc_string_string : Nat := 162
def c_slices_Index_string_string_l0 : ACode := .seq (.region [o (some p9) (.bin .lss x8 x7)]) (.seq (.cond x9 (.skip) (.exit 0)) (.seq (.block 1 (.seq (.region [o (some p10) (.mov x8),o (some p5) (.mov x10)]) (.seq (.region [o (some p11) (.mov x1),o (some p12) (.mov x0),o (some p13) (.mov x5),o (some p14) (.iaddrS 1 x12 x13),o (some p15) (.load x14 false 1),o (some p16) (.bin .eql x11 x15)]) (.cond x16 (.seq (.region [o (some p17) (.mov x5),o (some p4) (.mov x17)]) (.ret)) (.skip))))) (.region [o (some p18) (.bin .add x8 (.c (iv 1))),o (some p8) (.mov x18)])))
def kc_slices_Index_string_string_l0 : ACode := c_slices_Index_string_string_l0
def c_slices_Index_string_string : ACode := .seq (.region [o (some p4) (.mov (.c (iv 0)))]) (.seq (.seq (.region [o (some p6) (.mov x0),o (some p7) (.len false x6),o (some p8) (.mov (.c (iv 0)))]) (.block 0 (.loop kc_slices_Index_string_string_l0))) (.seq (.region [o (some p4) (.mov (.c (iv (-1))))]) (.ret)))
def a163 : AFn := ⟨c_slices_Index_string_string, [.t p4]⟩
abbrev f_slices_Index_string_string : Nat := 163
def c_slices_IndexFunc_int_int_164_l0 : ACode := .seq (.region [o (some p9) (.bin .lss x8 x7)]) (.seq (.cond x9 (.skip) (.exit 0)) (.seq (.block 1 (.seq (.region [o (some p10) (.mov x8),o (some p5) (.mov x10)]) (.seq (.region [o (some p11) (.mov x1),o (some p12) (.mov x0),o (some p13) (.mov x5),o (some p14) (.iaddrS 1 x12 x13),o (some p15) (.load x14 false 1),o (some p16) (.callv x11 [x15])]) (.cond x16 (.seq (.region [o (some p17) (.mov x5),o (some p4) (.mov x17)]) (.ret)) (.skip))))) (.region [o (some p18) (.bin .add x8 (.c (iv 1))),o (some p8) (.mov x18)])))
def kc_slices_IndexFunc_int_int_164_l0 : ACode := c_slices_IndexFunc_int_int_164_l0
def c_slices_IndexFunc_int_int_164 : ACode := .seq (.region [o (some p4) (.mov (.c (iv 0)))]) (.seq (.seq (.region [o (some p6) (.mov x0),o (some p7) (.len false x6),o (some p8) (.mov (.c (iv 0)))]) (.block 0 (.loop kc_slices_IndexFunc_int_int_164_l0))) (.seq (.region [o (some p4) (.mov (.c (iv (-1))))]) (.ret)))
def a164 : AFn := ⟨c_slices_IndexFunc_int_int_164, [.t p4]⟩
abbrev f_slices_IndexFunc_int_int_164 : Nat := 164
def c_slices_Collect_string : ACode := .seq (.region [o (some p2) (.mov (.c .nilsl))]) (.seq (.region [o (some p3) (.mov x0),o (some p4) (.call 183 [(.c .nilsl), x3]),o (some p2) (.mov x4)]) (.ret))
def a165 : AFn := ⟨c_slices_Collect_string, [.t p2]⟩
abbrev f_slices_Collect_string : Nat := 165
def c_slices_Sort_string_string : ACode := .seq (.region [o (some p3) (.mov x0),o (some p4) (.len false x3),o (some p2) (.mov x4)]) (.region [o (some p5) (.mov x0),o (some p6) (.mov x2),o (some p7) (.mov x2),o (some p8) (.convI .u64 x7),o (some p9) (.call 185 [x8]),o (some p10) (.call 184 [x5, (.c (iv 0)), x6, x9])])
def a166 : AFn := ⟨c_slices_Sort_string_string, []⟩
abbrev f_slices_Sort_string_string : Nat := 166
def c_maps_Keys_map_string_bool_string_bool_1_l0 : ACode := .seq (.region [o (some p6) (.bad),o (some p7) (.extract x6 0)]) (.seq (.cond x7 (.skip) (.exit 0)) (.block 1 (.seq (.region [o (some p8) (.bad),o (some p9) (.extract x8 0),o (some p3) (.mov x9)]) (.seq (.region [o (some p10) (.mov x0),o (some p11) (.mov x3),o (some p12) (.callv x10 [x11]),o (some p13) (.un .not x12)]) (.cond x13 (.ret) (.skip))))))
def kc_maps_Keys_map_string_bool_string_bool_1_l0 : ACode := c_maps_Keys_map_string_bool_string_bool_1_l0
def c_maps_Keys_map_string_bool_string_bool_1 : ACode := .seq (.region [o (some p4) (.load x1 false 1),o (some p5) (.bad)]) (.block 0 (.loop kc_maps_Keys_map_string_bool_string_bool_1_l0))
def a167 : AFn := ⟨c_maps_Keys_map_string_bool_string_bool_1, []⟩
abbrev f_maps_Keys_map_string_bool_string_bool_1 : Nat := 167
def c_slices_rotateCmpFunc_api_Entry_l0 : ACode := .seq (.seq (.region [o (some p18) (.mov x10),o (some p19) (.mov x11),o (some p20) (.bin .neq x18 x19)]) (.cond x20 (.skip) (.exit 0))) (.block 1 (.seq (.region [o (some p21) (.mov x10),o (some p22) (.mov x11),o (some p23) (.bin .gtr x21 x22)]) (.cond x23 (.seq (.region [o (some p24) (.mov x0),o (some p25) (.mov x2),o (some p26) (.mov x10),o (some p27) (.bin .sub x25 x26),o (some p28) (.mov x2),o (some p29) (.mov x11),o (some p30) (.mov x4),o (some p31) (.call 186 [x24, x27, x28, x29, x30])]) (.region [o (some p32) (.mov x10),o (some p33) (.mov x11),o (some p34) (.bin .sub x32 x33),o (some p10) (.mov x34)])) (.seq (.region [o (some p35) (.mov x0),o (some p36) (.mov x2),o (some p37) (.mov x10),o (some p38) (.bin .sub x36 x37),o (some p39) (.mov x2),o (some p40) (.mov x11),o (some p41) (.bin .add x39 x40),o (some p42) (.mov x10),o (some p43) (.bin .sub x41 x42),o (some p44) (.mov x10),o (some p45) (.mov x4),o (some p46) (.call 186 [x35, x38, x43, x44, x45])]) (.region [o (some p47) (.mov x11),o (some p48) (.mov x10),o (some p49) (.bin .sub x47 x48),o (some p11) (.mov x49)])))))
def kc_slices_rotateCmpFunc_api_Entry_l0 : ACode := c_slices_rotateCmpFunc_api_Entry_l0
def c_slices_rotateCmpFunc_api_Entry : ACode := .seq (.region [o (some p12) (.mov x2),o (some p13) (.mov x1),o (some p14) (.bin .sub x12 x13),o (some p10) (.mov x14)]) (.seq (.region [o (some p15) (.mov x3),o (some p16) (.mov x2),o (some p17) (.bin .sub x15 x16),o (some p11) (.mov x17)]) (.seq (.block 0 (.loop kc_slices_rotateCmpFunc_api_Entry_l0)) (.region [o (some p50) (.mov x0),o (some p51) (.mov x2),o (some p52) (.mov x10),o (some p53) (.bin .sub x51 x52),o (some p54) (.mov x2),o (some p55) (.mov x10),o (some p56) (.mov x4),o (some p57) (.call 186 [x50, x53, x54, x55, x56])])))
def a168 : AFn := ⟨c_slices_rotateCmpFunc_api_Entry, []⟩
abbrev f_slices_rotateCmpFunc_api_Entry : Nat := 168
def c_vector_Norm_1 : ACode := .seq (.region [o (some p4) (.mov (.c (iv 0)))]) (.seq (.region [o (some p5) (.mov x0),o (some p6) (.mov x1),o (some p7) (.mov x1),o (some p8) (.un .neg x7),o (some p9) (.mx [x6, x8]),o (some p10) (.bin .add x5 x9),o (some p4) (.mov x10)]) (.ret))
def a169 : AFn := ⟨c_vector_Norm_1, [.t p4]⟩
abbrev f_vector_Norm_1 : Nat := 169
def c_vector_Norm_2 : ACode := .seq (.region [o (some p4) (.mov (.c (iv 0)))]) (.seq (.region [o (some p5) (.mov x0),o (some p6) (.mov x1),o (some p7) (.mov x1),o (some p8) (.bin .mul x6 x7),o (some p9) (.bin .add x5 x8),o (some p4) (.mov x9)]) (.ret))
def a170 : AFn := ⟨c_vector_Norm_2, [.t p4]⟩
abbrev f_vector_Norm_2 : Nat := 170
def c_vector_Norm_3 : ACode := .seq (.region [o (some p4) (.mov (.c (iv 0)))]) (.seq (.region [o (some p5) (.mov x0),o (some p6) (.mov x1),o (some p7) (.mov x1),o (some p8) (.un .neg x7),o (some p9) (.mx [x5, x6, x8]),o (some p4) (.mov x9)]) (.ret))
def a171 : AFn := ⟨c_vector_Norm_3, [.t p4]⟩
abbrev f_vector_Norm_3 : Nat := 171
def c_vector_fold_int_l0 : ACode := .seq (.region [o (some p12) (.bin .lss x11 x10)]) (.seq (.cond x12 (.skip) (.exit 0)) (.seq (.block 1 (.seq (.region [o (some p13) (.iaddrS 1 x9 x11),o (some p14) (.load x13 false 1),o (some p8) (.mov x14)]) (.region [o (some p15) (.mov x2),o (some p16) (.mov x1),o (some p17) (.mov x8),o (some p18) (.callv x15 [x16, x17]),o (some p1) (.mov x18)]))) (.region [o (some p19) (.bin .add x11 (.c (iv 1))),o (some p11) (.mov x19)])))
def kc_vector_fold_int_l0 : ACode := c_vector_fold_int_l0
def c_vector_fold_int : ACode := .seq (.region [o (some p6) (.mov (.c (iv 0)))]) (.seq (.seq (.region [o (some p9) (.mov x0),o (some p10) (.len false x9),o (some p11) (.mov (.c (iv 0)))]) (.block 0 (.loop kc_vector_fold_int_l0))) (.seq (.region [o (some p20) (.mov x1),o (some p6) (.mov x20)]) (.ret)))
def a172 : AFn := ⟨c_vector_fold_int, [.t p6]⟩
abbrev f_vector_fold_int : Nat := 172
def c_slices_Chunk_api_Entry_api_Entry_1_l0 : ACode := .seq (.seq (.region [o (some p6) (.mov x4),o (some p7) (.load x1 false 1),o (some p8) (.len false x7),o (some p9) (.bin .lss x6 x8)]) (.cond x9 (.skip) (.exit 0))) (.seq (.block 1 (.seq (.draw [(.l 0 0, o (some p13) (.load x2 false 1)),(.l 0 0, o (some p14) (.load x1 false 1)),(.p, o (some p15) (.mov x4)),(.p, o (some p16) (.slice 9 x14 (some x15) none none)),(.l 0 0, o (some p17) (.len false x16)),(.p, o (some p18) (.mn [x13, x17])),(.p, o (some p5) (.mov x18))]) (.seq (.region [o (some p19) (.mov x0),o (some p20) (.load x1 false 1),o (some p21) (.mov x4),o (some p22) (.mov x4),o (some p23) (.mov x5),o (some p24) (.bin .add x22 x23),o (some p25) (.mov x4),o (some p26) (.mov x5),o (some p27) (.bin .add x25 x26),o (some p28) (.slice 9 x20 (some x21) (some x24) (some x27)),o (some p29) (.callv x19 [x28]),o (some p30) (.un .not x29)]) (.cond x30 (.ret) (.skip))))) (.region [o (some p10) (.mov x4),o (some p11) (.load x2 false 1),o (some p12) (.bin .add x10 x11),o (some p4) (.mov x12)]))
def kc_slices_Chunk_api_Entry_api_Entry_1_l0 : ACode := c_slices_Chunk_api_Entry_api_Entry_1_l0
def c_slices_Chunk_api_Entry_api_Entry_1 : ACode := .seq (.region [o (some p4) (.mov (.c (iv 0)))]) (.block 0 (.loop kc_slices_Chunk_api_Entry_api_Entry_1_l0))
def a173 : AFn := ⟨c_slices_Chunk_api_Entry_api_Entry_1, []⟩
abbrev f_slices_Chunk_api_Entry_api_Entry_1 : Nat := 173
def c_part_join_l0 : ACode := .seq (.region [o (some p17) (.bin .lss x16 x15)]) (.seq (.cond x17 (.skip) (.exit 0)) (.seq (.block 1 (.seq (.region [o (some p18) (.iaddrS 10 x14 x16),o (some p19) (.load x18 true 10),o (some p8) (.alloc [(iv 0), .nilsl, .nilsl, .nilsl, (iv 0), (iv 0), (iv 0), (iv 0), (iv 0), .nilsl]),o none (.store x8 x19 10)]) (.seq (.region [o (some p9) (.mov (.c (iv 0)))]) (.seq (.region [o (some p21) (.load x2 true 3),o (some p22) (.load x6 true 10),o (some p23) (.load x8 true 10),o (some p24) (.call 187 [x21, x22, x23]),o (some p20) (.mov x24),o (some p25) (.extract x20 0),o (some p26) (.extract x20 1),o none (.store x6 x25 10),o (some p9) (.mov x26)]) (.seq (.region [o (some p27) (.mov x9),o (some p28) (.bin .neq x27 (.c (iv 0)))]) (.cond x28 (.seq (.region [o (some p29) (.build [(iv 0), .nilsl, .nilsl, .nilsl, (iv 0), (iv 0), (iv 0), (iv 0), (iv 0), .nilsl] []),o (some p30) (.mov x9),o none (.store x4 x29 10),o (some p5) (.mov x30)]) (.ret)) (.skip))))))) (.region [o (some p31) (.bin .add x16 (.c (iv 1))),o (some p16) (.mov x31)])))
def kc_part_join_l0 : ACode := c_part_join_l0
def c_part_join : ACode := .seq (.region [o (some p2) (.box x0),o (some p4) (.alloc [(iv 0), .nilsl, .nilsl, .nilsl, (iv 0), (iv 0), (iv 0), (iv 0), (iv 0), .nilsl]),o (some p5) (.mov (.c (iv 0)))]) (.seq (.region [o (some p10) (.mov x1),o (some p11) (.iaddrS 10 x10 (.c (iv 0))),o (some p12) (.load x11 true 10),o (some p6) (.alloc [(iv 0), .nilsl, .nilsl, .nilsl, (iv 0), (iv 0), (iv 0), (iv 0), (iv 0), .nilsl]),o none (.store x6 x12 10)]) (.seq (.seq (.region [o (some p13) (.mov x1),o (some p14) (.slice 10 x13 (some (.c (iv 1))) none none),o (some p15) (.len false x14),o (some p16) (.mov (.c (iv 0)))]) (.block 0 (.loop kc_part_join_l0))) (.seq (.region [o (some p32) (.load x6 true 10),o none (.store x4 x32 10),o (some p5) (.mov (.c (iv 0)))]) (.ret))))
def a174 : AFn := ⟨c_part_join, [.cell p4 true 10, .t p5]⟩
abbrev f_part_join : Nat := 174
def c_slices_Clone_api_Node_api_Node : ACode := .seq (.region [o (some p2) (.mov (.c .nilsl))]) (.seq (.seq (.region [o (some p3) (.mov x0),o (some p4) (.eqv false .nilsl x3 (.c .nilsl))]) (.cond x4 (.seq (.region [o (some p2) (.mov (.c .nilsl))]) (.ret)) (.skip))) (.seq (.region [o (some p5) (.bslice 12 0 [] []),o (some p6) (.mov x0),o (some p7) (.append 12 192 x5 x6),o (some p2) (.mov x7)]) (.ret)))
def a175 : AFn := ⟨c_slices_Clone_api_Node_api_Node, [.t p2]⟩
abbrev f_slices_Clone_api_Node_api_Node : Nat := 175
def c_part_level_l0 : ACode := .seq (.region [o (some p10) (.bin .lss x9 x8)]) (.seq (.cond x10 (.skip) (.exit 0)) (.seq (.block 1 (.seq (.region [o (some p11) (.iaddrS 12 x7 x9),o (some p12) (.load x11 true 12),o (some p5) (.alloc [(iv 0), .nilsl, .nilsl, .nilsl, (iv 0), (iv 0), (iv 0), (iv 0), (iv 0), .nilsl, .nilsl, .nilsl]),o none (.store x5 x12 12)]) (.region [o (some p13) (.mov x3),o (some p14) (.load x5 true 12),o (some p15) (.call 176 [x14]),o (some p16) (.mx [x13, x15]),o (some p3) (.mov x16)]))) (.region [o (some p17) (.bin .add x9 (.c (iv 1))),o (some p9) (.mov x17)])))
def kc_part_level_l0 : ACode := c_part_level_l0
def c_part_level : ACode := .seq (.region [o (some p1) (.box x0),o (some p2) (.mov (.c (iv 0)))]) (.seq (.region [o (some p3) (.mov (.c (iv 0)))]) (.seq (.seq (.region [o (some p6) (.faddr 10 x1),o (some p7) (.load x6 false 1),o (some p8) (.len false x7),o (some p9) (.mov (.c (iv 0)))]) (.block 0 (.loop kc_part_level_l0))) (.seq (.region [o (some p18) (.mov x3),o (some p19) (.bin .add x18 (.c (iv 1))),o (some p2) (.mov x19)]) (.ret))))
def a176 : AFn := ⟨c_part_level, [.t p2]⟩
abbrev f_part_level : Nat := 176
def c_tree_builder_clusters_l0 : ACode := .seq (.region [o (some p45) (.bin .lss x44 x43)]) (.seq (.cond x45 (.skip) (.exit 0)) (.seq (.block 1 (.seq (.region [o (some p46) (.iaddrS 1 x42 x44),o (some p47) (.load x46 false 1),o (some p12) (.mov x47)]) (.region [o (some p48) (.mov x10),o (some p49) (.mov x7),o (some p50) (.mov x12),o (some p51) (.iaddrS 1 x49 x50),o (some p52) (.load x51 false 1),o (some p53) (.bslice 1 1 [.nilsl] [(0, 1, x52)]),o (some p54) (.append 1 24 x48 x53),o (some p10) (.mov x54)]))) (.region [o (some p55) (.bin .add x44 (.c (iv 1))),o (some p44) (.mov x55)])))
def kc_tree_builder_clusters_l0 : ACode := c_tree_builder_clusters_l0
def c_tree_builder_clusters_l1 : ACode := .seq (.region [o (some p62) (.bin .lss x61 x60)]) (.seq (.cond x62 (.skip) (.exit 2)) (.seq (.block 3 (.seq (.region [o (some p63) (.mov x61),o (some p64) (.iaddrS 9 x59 x61),o (some p65) (.load x64 true 9),o (some p15) (.alloc [(iv 0), (iv 0), (iv 0), (iv 0), (iv 0), (iv 0), (iv 0), .nilsl, .nilsl]),o (some p14) (.mov x63),o none (.store x15 x65 9)]) (.seq (.draw [(.p, o (some p67) (.faddr 0 x3)),(.p, o (some p68) (.faddr 1 x67)),(.l 0 0, o (some p69) (.load x68 false 1)),(.p, o (some p70) (.mov x10)),(.p, o (some p71) (.mov x7)),(.p, o (some p72) (.mov x14)),(.p, o (some p73) (.iaddrS 1 x71 x72)),(.l 0 0, o (some p74) (.load x73 false 1)),(.e, o (some p75) (.call 190 [x69, x70, x74])),(.p, o (some p66) (.mov x75)),(.p, o (some p76) (.extract x66 0)),(.p, o (some p77) (.extract x66 1)),(.p, o (some p78) (.extract x66 2)),(.p, o (some p16) (.mov x76)),(.p, o (some p17) (.mov x77)),(.p, o (some p18) (.mov x78))]) (.draw [(.p, o (some p79) (.mov x13)),(.p, o (some p80) (.mov x16)),(.p, o (some p81) (.mov x13)),(.p, o (some p82) (.mov x16)),(.p, o (some p83) (.iaddrS 1 x81 x82)),(.l 0 0, o (some p84) (.load x83 false 1)),(.l 0 0, o (some p85) (.load x15 true 9)),(.p, o (some p86) (.bslice 9 1 [(iv 0), (iv 0), (iv 0), (iv 0), (iv 0), (iv 0), (iv 0), .nilsl, .nilsl] [(0, 9, x85)])),(.e, o (some p87) (.append 9 104 x84 x86)),(.p, o (some p88) (.iaddrS 1 x79 x80)),(.e, o none (.store x88 x87 1))])))) (.region [o (some p89) (.bin .add x61 (.c (iv 1))),o (some p61) (.mov x89)])))
def kc_tree_builder_clusters_l1 : ACode := c_tree_builder_clusters_l1
def c_tree_builder_clusters : ACode := .seq (.region [o (some p3) (.box x0),o (some p6) (.mov (.c .nilfn))]) (.seq (.region [o (some p19) (.mov x1),o (some p20) (.call 188 [x19]),o (some p7) (.mov x20)]) (.seq (.region [o (some p22) (.faddr 0 x3),o (some p23) (.faddr 1 x22),o (some p24) (.load x23 false 1),o (some p25) (.mov x7),o (some p26) (.call 34 [x24, x25, (.c (iv 4))]),o (some p21) (.mov x26),o (some p27) (.extract x21 0),o (some p28) (.extract x21 1),o (some p8) (.mov x27),o (some p9) (.mov x28)]) (.seq (.seq (.region [o (some p29) (.mov x2),o (some p30) (.bin .geq x29 (.c (iv 12))),o (some p31) (.mov x30),og (some p32) (.mov x9) p31 false,og (some p33) (.bin .neq x32 (.c (iv 0))) p31 false,o (some p34) (.pick x31 (.c (.bool true)) x33),o (some p35) (.mov x34),og (some p36) (.mov x8) p35 false,og (some p37) (.len false x36) p35 false,og (some p38) (.bin .eql x37 (.c (iv 1))) p35 false,o (some p39) (.pick x35 (.c (.bool true)) x38)]) (.cond x39 (.seq (.region [o (some p40) (.mov x1),o (some p41) (.call 189 [x40]),o (some p6) (.mov x41)]) (.ret)) (.skip))) (.seq (.region [o (some p10) (.mov (.c .nilsl))]) (.seq (.seq (.region [o (some p42) (.mov x8),o (some p43) (.len false x42),o (some p44) (.mov (.c (iv 0)))]) (.block 0 (.loop kc_tree_builder_clusters_l0))) (.seq (.region [o (some p56) (.mov x10),o (some p57) (.len false x56),o (some p58) (.mkslice 1 24 [.nilsl] x57 x57),o (some p13) (.mov x58)]) (.seq (.seq (.region [o (some p59) (.mov x1),o (some p60) (.len false x59),o (some p61) (.mov (.c (iv 0)))]) (.block 2 (.loop kc_tree_builder_clusters_l1))) (.seq (.region [o (some p90) (.mov x13),o (some p91) (.call 191 [x90]),o (some p6) (.mov x91)]) (.ret)))))))))
def a177 : AFn := ⟨c_tree_builder_clusters, [.t p6]⟩
abbrev f_tree_builder_clusters : Nat := 177
def c_graph_space_isRight_1 : ACode := .seq (.region [o (some p3) (.mov (.c (.bool false)))]) (.seq (.region [o (some p4) (.faddr 1 x1),o (some p5) (.load x4 false 1),o (some p6) (.iaddrS 1 x5 (.c (iv 0))),o (some p7) (.load x6 false 1),o (some p8) (.mov x0),o (some p9) (.call 103 [x7, x8]),o (some p10) (.un .not x9),o (some p3) (.mov x10)]) (.ret))
def a178 : AFn := ⟨c_graph_space_isRight_1, [.t p3]⟩
abbrev f_graph_space_isRight_1 : Nat := 178
def c_slices_Collect_int : ACode := .seq (.region [o (some p2) (.mov (.c .nilsl))]) (.seq (.region [o (some p3) (.mov x0),o (some p4) (.call 192 [(.c .nilsl), x3]),o (some p2) (.mov x4)]) (.ret))
def a179 : AFn := ⟨c_slices_Collect_int, [.t p2]⟩
abbrev f_slices_Collect_int : Nat := 179
def c_slices_Sort_int_int : ACode := .seq (.region [o (some p3) (.mov x0),o (some p4) (.len false x3),o (some p2) (.mov x4)]) (.region [o (some p5) (.mov x0),o (some p6) (.mov x2),o (some p7) (.mov x2),o (some p8) (.convI .u64 x7),o (some p9) (.call 185 [x8]),o (some p10) (.call 193 [x5, (.c (iv 0)), x6, x9])])
def a180 : AFn := ⟨c_slices_Sort_int_int, []⟩
abbrev f_slices_Sort_int_int : Nat := 180
def c_slices_Values_int_int_1_l0 : ACode := .seq (.region [o (some p8) (.bin .lss x7 x6)]) (.seq (.cond x8 (.skip) (.exit 0)) (.seq (.block 1 (.seq (.region [o (some p9) (.iaddrS 1 x5 x7),o (some p10) (.load x9 false 1),o (some p4) (.mov x10)]) (.seq (.region [o (some p11) (.mov x0),o (some p12) (.mov x4),o (some p13) (.callv x11 [x12]),o (some p14) (.un .not x13)]) (.cond x14 (.ret) (.skip))))) (.region [o (some p15) (.bin .add x7 (.c (iv 1))),o (some p7) (.mov x15)])))
def kc_slices_Values_int_int_1_l0 : ACode := c_slices_Values_int_int_1_l0
def c_slices_Values_int_int_1 : ACode := .seq (.region [o (some p5) (.load x1 false 1),o (some p6) (.len false x5),o (some p7) (.mov (.c (iv 0)))]) (.block 0 (.loop kc_slices_Values_int_int_1_l0))
def a181 : AFn := ⟨c_slices_Values_int_int_1, []⟩
abbrev f_slices_Values_int_int_1 : Nat := 181
def c_slices_swapRangeCmpFunc_int_l0 : ACode := .seq (.seq (.region [o (some p11) (.mov x10),o (some p12) (.mov x3),o (some p13) (.bin .lss x11 x12)]) (.cond x13 (.skip) (.exit 0))) (.seq (.block 1 (.draw [(.p, o (some p16) (.mov x0)),(.p, o (some p17) (.mov x1)),(.p, o (some p18) (.mov x10)),(.p, o (some p19) (.bin .add x17 x18)),(.p, o (some p20) (.mov x0)),(.p, o (some p21) (.mov x2)),(.p, o (some p22) (.mov x10)),(.p, o (some p23) (.bin .add x21 x22)),(.p, o (some p24) (.mov x0)),(.p, o (some p25) (.mov x2)),(.p, o (some p26) (.mov x10)),(.p, o (some p27) (.bin .add x25 x26)),(.p, o (some p28) (.iaddrS 1 x24 x27)),(.l 0 0, o (some p29) (.load x28 false 1)),(.p, o (some p30) (.mov x0)),(.p, o (some p31) (.mov x1)),(.p, o (some p32) (.mov x10)),(.p, o (some p33) (.bin .add x31 x32)),(.p, o (some p34) (.iaddrS 1 x30 x33)),(.l 0 0, o (some p35) (.load x34 false 1)),(.p, o (some p36) (.iaddrS 1 x16 x19)),(.e, o none (.store x36 x29 1)),(.p, o (some p37) (.iaddrS 1 x20 x23)),(.e, o none (.store x37 x35 1))])) (.region [o (some p14) (.mov x10),o (some p15) (.bin .add x14 (.c (iv 1))),o (some p10) (.mov x15)]))
def kc_slices_swapRangeCmpFunc_int_l0 : ACode := c_slices_swapRangeCmpFunc_int_l0
def c_slices_swapRangeCmpFunc_int : ACode := .seq (.region [o (some p10) (.mov (.c (iv 0)))]) (.block 0 (.loop kc_slices_swapRangeCmpFunc_int_l0))
def a182 : AFn := ⟨c_slices_swapRangeCmpFunc_int, []⟩
abbrev f_slices_swapRangeCmpFunc_int : Nat := 182
def c_slices_AppendSeq_string_string_l0 : ACode := .block 1 (.region [o (some p8) (.load x2 false 1),o (some p9) (.mov x5),o (some p10) (.bslice 1 1 [(.str (bs []))] [(0, 1, x9)]),o (some p11) (.append 1 16 x8 x10),o none (.store x2 x11 1)])
def kc_slices_AppendSeq_string_string_l0 : ACode := c_slices_AppendSeq_string_string_l0
def c_slices_AppendSeq_string_string : ACode := .seq (.region [o (some p2) (.box x0),o (some p4) (.mov (.c .nilsl))]) (.seq (.seq (.region [o (some p6) (.mov x1)]) (.block 0 (.rangef x6 [p7] (.region [o (some p5) (.mov x7)]) kc_slices_AppendSeq_string_string_l0))) (.seq (.region [o (some p12) (.load x2 false 1),o (some p4) (.mov x12)]) (.ret)))
def a183 : AFn := ⟨c_slices_AppendSeq_string_string, [.t p4]⟩
abbrev f_slices_AppendSeq_string_string : Nat := 183
def c_slices_pdqsortOrdered_string_l0 : ACode := .block 1 (.seq (.region [o (some p19) (.mov x2),o (some p20) (.mov x1),o (some p21) (.bin .sub x19 x20),o (some p10) (.mov x21)]) (.seq (.seq (.region [o (some p22) (.mov x10),o (some p23) (.bin .leq x22 (.c (iv 12)))]) (.cond x23 (.seq (.region [o (some p24) (.mov x0),o (some p25) (.mov x1),o (some p26) (.mov x2),o (some p27) (.call 194 [x24, x25, x26])]) (.ret)) (.skip))) (.seq (.seq (.region [o (some p28) (.mov x3),o (some p29) (.bin .eql x28 (.c (iv 0)))]) (.cond x29 (.seq (.region [o (some p30) (.mov x0),o (some p31) (.mov x1),o (some p32) (.mov x2),o (some p33) (.call 195 [x30, x31, x32])]) (.ret)) (.skip))) (.seq (.seq (.region [o (some p34) (.mov x8),o (some p35) (.un .not x34)]) (.cond x35 (.seq (.region [o (some p36) (.mov x0),o (some p37) (.mov x1),o (some p38) (.mov x2),o (some p39) (.call 196 [x36, x37, x38])]) (.region [o (some p40) (.mov x3),o (some p41) (.bin .sub x40 (.c (iv 1))),o (some p3) (.mov x41)])) (.skip))) (.seq (.region [o (some p43) (.mov x0),o (some p44) (.mov x1),o (some p45) (.mov x2),o (some p46) (.call 197 [x43, x44, x45]),o (some p42) (.mov x46),o (some p47) (.extract x42 0),o (some p48) (.extract x42 1),o (some p11) (.mov x47),o (some p12) (.mov x48)]) (.seq (.seq (.region [o (some p49) (.mov x12),o (some p50) (.bin .eql x49 (.c (iv 2)))]) (.cond x50 (.seq (.region [o (some p51) (.mov x0),o (some p52) (.mov x1),o (some p53) (.mov x2),o (some p54) (.call 198 [x51, x52, x53])]) (.seq (.region [o (some p55) (.mov x2),o (some p56) (.bin .sub x55 (.c (iv 1))),o (some p57) (.mov x11),o (some p58) (.mov x1),o (some p59) (.bin .sub x57 x58),o (some p60) (.bin .sub x56 x59),o (some p11) (.mov x60)]) (.region [o (some p12) (.mov (.c (iv 1)))]))) (.skip))) (.seq (.seq (.region [o (some p61) (.mov x8),o (some p62) (.mov x61),og (some p63) (.mov x9) p62 true,o (some p64) (.pick x62 x63 (.c (.bool false))),o (some p65) (.mov x64),og (some p66) (.mov x12) p65 true,og (some p67) (.bin .eql x66 (.c (iv 1))) p65 true,o (some p68) (.pick x65 x67 (.c (.bool false)))]) (.cond x68 (.seq (.region [o (some p69) (.mov x0),o (some p70) (.mov x1),o (some p71) (.mov x2),o (some p72) (.call 199 [x69, x70, x71])]) (.cond x72 (.ret) (.skip))) (.skip))) (.seq (.seq (.draw [(.p, o (some p73) (.mov x1)),(.p, o (some p74) (.bin .gtr x73 (.c (iv 0)))),(.p, o (some p75) (.mov x74)),(.p, og (some p76) (.mov x0) p75 true),(.p, og (some p77) (.mov x1) p75 true),(.p, og (some p78) (.bin .sub x77 (.c (iv 1))) p75 true),(.p, og (some p79) (.iaddrS 1 x76 x78) p75 true),(.l 0 0, og (some p80) (.load x79 false 1) p75 true),(.p, og (some p81) (.mov x0) p75 true),(.p, og (some p82) (.mov x11) p75 true),(.p, og (some p83) (.iaddrS 1 x81 x82) p75 true),(.l 0 0, og (some p84) (.load x83 false 1) p75 true),(.e, og (some p85) (.call 200 [x80, x84]) p75 true),(.p, og (some p86) (.un .not x85) p75 true),(.p, o (some p87) (.pick x75 x86 (.c (.bool false))))]) (.cond x87 (.seq (.region [o (some p88) (.mov x0),o (some p89) (.mov x1),o (some p90) (.mov x2),o (some p91) (.mov x11),o (some p92) (.call 201 [x88, x89, x90, x91]),o (some p13) (.mov x92)]) (.seq (.region [o (some p93) (.mov x13),o (some p1) (.mov x93)]) (.exit 1))) (.skip))) (.seq (.region [o (some p95) (.mov x0),o (some p96) (.mov x1),o (some p97) (.mov x2),o (some p98) (.mov x11),o (some p99) (.call 202 [x95, x96, x97, x98]),o (some p94) (.mov x99),o (some p100) (.extract x94 0),o (some p101) (.extract x94 1),o (some p14) (.mov x100),o (some p15) (.mov x101)]) (.seq (.region [o (some p102) (.mov x15),o (some p9) (.mov x102)]) (.seq (.region [o (some p103) (.mov x14),o (some p104) (.mov x1),o (some p105) (.bin .sub x103 x104),o (some p106) (.mov x2),o (some p107) (.mov x14),o (some p108) (.bin .sub x106 x107),o (some p16) (.mov x105),o (some p17) (.mov x108)]) (.seq (.region [o (some p109) (.mov x10),o (some p110) (.bin .quo x109 (.c (iv 8))),o (some p18) (.mov x110)]) (.seq (.region [o (some p111) (.mov x16),o (some p112) (.mov x17),o (some p113) (.bin .lss x111 x112)]) (.cond x113 (.seq (.region [o (some p114) (.mov x16),o (some p115) (.mov x18),o (some p116) (.bin .geq x114 x115),o (some p8) (.mov x116)]) (.seq (.region [o (some p117) (.mov x0),o (some p118) (.mov x1),o (some p119) (.mov x14),o (some p120) (.mov x3),o (some p121) (.call 184 [x117, x118, x119, x120])]) (.region [o (some p122) (.mov x14),o (some p123) (.bin .add x122 (.c (iv 1))),o (some p1) (.mov x123)]))) (.seq (.region [o (some p124) (.mov x17),o (some p125) (.mov x18),o (some p126) (.bin .geq x124 x125),o (some p8) (.mov x126)]) (.seq (.region [o (some p127) (.mov x0),o (some p128) (.mov x14),o (some p129) (.bin .add x128 (.c (iv 1))),o (some p130) (.mov x2),o (some p131) (.mov x3),o (some p132) (.call 184 [x127, x129, x130, x131])]) (.region [o (some p133) (.mov x14),o (some p2) (.mov x133)])))))))))))))))))
def kc_slices_pdqsortOrdered_string_l0 : ACode := c_slices_pdqsortOrdered_string_l0
def c_slices_pdqsortOrdered_string : ACode := .seq (.region [o (some p8) (.mov (.c (.bool true)))]) (.seq (.region [o (some p9) (.mov (.c (.bool true)))]) (.block 0 (.loop kc_slices_pdqsortOrdered_string_l0)))
def a184 : AFn := ⟨c_slices_pdqsortOrdered_string, []⟩
abbrev f_slices_pdqsortOrdered_string : Nat := 184
def c_math_bits_Len : ACode := .seq (.region [o (some p2) (.mov (.c (iv 0)))]) (.seq (.cond (.c (.bool false)) (.seq (.region [o (some p3) (.mov x0),o (some p4) (.convI .u32 x3),o (some p5) (.call 203 [x4]),o (some p2) (.mov x5)]) (.ret)) (.skip)) (.seq (.region [o (some p6) (.mov x0),o (some p7) (.call 204 [x6]),o (some p2) (.mov x7)]) (.ret)))
def a185 : AFn := ⟨c_math_bits_Len, [.t p2]⟩
abbrev f_math_bits_Len : Nat := 185
def c_slices_swapRangeCmpFunc_api_Entry_l0 : ACode := .seq (.seq (.region [o (some p11) (.mov x10),o (some p12) (.mov x3),o (some p13) (.bin .lss x11 x12)]) (.cond x13 (.skip) (.exit 0))) (.seq (.block 1 (.draw [(.p, o (some p16) (.mov x0)),(.p, o (some p17) (.mov x1)),(.p, o (some p18) (.mov x10)),(.p, o (some p19) (.bin .add x17 x18)),(.p, o (some p20) (.mov x0)),(.p, o (some p21) (.mov x2)),(.p, o (some p22) (.mov x10)),(.p, o (some p23) (.bin .add x21 x22)),(.p, o (some p24) (.mov x0)),(.p, o (some p25) (.mov x2)),(.p, o (some p26) (.mov x10)),(.p, o (some p27) (.bin .add x25 x26)),(.p, o (some p28) (.iaddrS 9 x24 x27)),(.l 0 0, o (some p29) (.load x28 true 9)),(.p, o (some p30) (.mov x0)),(.p, o (some p31) (.mov x1)),(.p, o (some p32) (.mov x10)),(.p, o (some p33) (.bin .add x31 x32)),(.p, o (some p34) (.iaddrS 9 x30 x33)),(.l 0 0, o (some p35) (.load x34 true 9)),(.p, o (some p36) (.iaddrS 9 x16 x19)),(.e, o none (.store x36 x29 9)),(.p, o (some p37) (.iaddrS 9 x20 x23)),(.e, o none (.store x37 x35 9))])) (.region [o (some p14) (.mov x10),o (some p15) (.bin .add x14 (.c (iv 1))),o (some p10) (.mov x15)]))
def kc_slices_swapRangeCmpFunc_api_Entry_l0 : ACode := c_slices_swapRangeCmpFunc_api_Entry_l0
def c_slices_swapRangeCmpFunc_api_Entry : ACode := .seq (.region [o (some p10) (.mov (.c (iv 0)))]) (.block 0 (.loop kc_slices_swapRangeCmpFunc_api_Entry_l0))
def a186 : AFn := ⟨c_slices_swapRangeCmpFunc_api_Entry, []⟩
abbrev f_slices_swapRangeCmpFunc_api_Entry : Nat := 186
def c_zone_Join_l1 : ACode := .seq (.region [o (some p127) (.bin .lss x126 x125)]) (.seq (.cond x127 (.skip) (.exit 3)) (.seq (.block 4 (.seq (.region [o (some p128) (.iaddrS 1 x124 x126),o (some p129) (.load x128 false 1),o (some p15) (.mov x129)]) (.region [o (some p130) (.mov x13),o (some p131) (.mov x15),o none (.bad)]))) (.region [o (some p132) (.bin .add x126 (.c (iv 1))),o (some p126) (.mov x132)])))
def kc_zone_Join_l1 : ACode := c_zone_Join_l1
def c_zone_Join_l0 : ACode := .block 2 (.seq (.draw [(.p, o (some p88) (.iaddrA 2 4 x10 (.c (iv 0)))),(.l 0 0, o (some p89) (.load x88 true 4)),(.p, o (some p90) (.iaddrA 2 4 x10 (.c (iv 1)))),(.l 0 1, o (some p91) (.load x90 true 4)),(.p, o (some p11) (.alloc [(iv 0), (iv 0), (iv 0), .nilsl])),(.p, o (some p12) (.alloc [(iv 0), (iv 0), (iv 0), .nilsl])),(.e, o none (.store x11 x89 4)),(.e, o none (.store x12 x91 4))]) (.seq (.seq (.region [o (some p92) (.faddr 0 x11),o (some p93) (.load x92 false 1),o (some p94) (.bin .eql x93 (.c (iv 0)))]) (.cond x94 (.region [o (some p95) (.load x12 true 4),o (some p96) (.load x11 true 4),o none (.store x11 x95 4),o none (.store x12 x96 4)]) (.skip))) (.seq (.seq (.region [o (some p97) (.faddr 0 x12),o (some p98) (.load x97 false 1),o (some p99) (.bin .gtr x98 (.c (iv 0)))]) (.cond x99 (.draw [(.p, o (some p100) (.faddr 0 x11)),(.l 0 0, o (some p101) (.load x100 false 1)),(.p, o (some p102) (.faddr 0 x12)),(.l 0 0, o (some p103) (.load x102 false 1)),(.p, o (some p104) (.bin .add x101 x103)),(.p, o (some p105) (.faddr 1 x11)),(.l 0 0, o (some p106) (.load x105 false 1)),(.p, o (some p107) (.faddr 1 x12)),(.l 0 1, o (some p108) (.load x107 false 1)),(.p, o (some p109) (.mn [x106, x108])),(.p, o (some p110) (.faddr 2 x11)),(.l 0 0, o (some p111) (.load x110 false 1)),(.p, o (some p112) (.faddr 2 x12)),(.l 0 2, o (some p113) (.load x112 false 1)),(.p, o (some p114) (.mx [x111, x113])),(.p, o (some p115) (.faddr 0 x11)),(.e, o none (.store x115 x104 1)),(.p, o (some p116) (.faddr 1 x11)),(.e, o none (.store x116 x109 1)),(.p, o (some p117) (.faddr 2 x11)),(.e, o none (.store x117 x114 1))]) (.skip))) (.seq (.region [o (some p118) (.mkmap 0),o (some p13) (.mov x118)]) (.seq (.seq (.region [o (some p119) (.faddr 3 x11),o (some p120) (.load x119 false 1),o (some p121) (.faddr 3 x12),o (some p122) (.load x121 false 1),o (some p123) (.bslice 1 2 [.nilsl, .nilsl] [(0, 1, x120), (1, 1, x122)]),o (some p124) (.call 208 [x123]),o (some p125) (.len false x124),o (some p126) (.mov (.c (iv 0)))]) (.block 3 (.loop kc_zone_Join_l1))) (.seq (.region [o (some p133) (.mov x13),o (some p134) (.call 98 [x133]),o (some p135) (.faddr 3 x11),o none (.store x135 x134 1)]) (.region [o (some p136) (.faddr 9 x8),o (some p137) (.load x136 false 1),o (some p138) (.load x11 true 4),o (some p139) (.bslice 4 1 [(iv 0), (iv 0), (iv 0), .nilsl] [(0, 4, x138)]),o (some p140) (.append 4 48 x137 x139),o (some p141) (.faddr 9 x8),o none (.store x141 x140 1)])))))))
def kc_zone_Join_l0 : ACode := c_zone_Join_l0
def c_zone_Join : ACode := .seq (.region [o (some p3) (.box x0),o (some p4) (.box x1),o (some p5) (.box x2),o (some p6) (.alloc [(iv 0), .nilsl, .nilsl, .nilsl, (iv 0), (iv 0), (iv 0), (iv 0), (iv 0), .nilsl]),o (some p7) (.mov (.c (iv 0)))]) (.seq (.block 0 (.seq (.region [o (some p17) (.faddr 3 x4),o (some p18) (.load x17 false 1),o (some p19) (.len false x18),o (some p20) (.faddr 3 x5),o (some p21) (.load x20 false 1),o (some p22) (.len false x21),o (some p23) (.bin .neq x19 x22),o (some p16) (.mov x23)]) (.cond x16 (.seq (.region [o (some p24) (.build [(iv 0), .nilsl, .nilsl, .nilsl, (iv 0), (iv 0), (iv 0), (iv 0), (iv 0), .nilsl] []),o none (.store x6 x24 10),o (some p7) (.mov (.c (iv 1)))]) (.ret)) (.seq (.region [o (some p26) (.faddr 0 x4),o (some p27) (.load x26 false 1),o (some p28) (.faddr 0 x5),o (some p29) (.load x28 false 1),o (some p30) (.bin .add x27 x29),o (some p31) (.bin .gtr x30 (.c (iv 4096))),o (some p25) (.mov x31)]) (.cond x25 (.seq (.region [o (some p32) (.build [(iv 0), .nilsl, .nilsl, .nilsl, (iv 0), (iv 0), (iv 0), (iv 0), (iv 0), .nilsl] []),o none (.store x6 x32 10),o (some p7) (.mov (.c (iv 2)))]) (.ret)) (.skip)))))) (.seq (.region [o (some p33) (.faddr 0 x4),o (some p34) (.load x33 false 1),o (some p35) (.faddr 0 x5),o (some p36) (.load x35 false 1),o (some p37) (.bin .add x34 x36),o (some p38) (.faddr 4 x4),o (some p39) (.load x38 false 1),o (some p40) (.faddr 4 x5),o (some p41) (.load x40 false 1),o (some p42) (.mn [x39, x41]),o (some p43) (.faddr 5 x4),o (some p44) (.load x43 false 1),o (some p45) (.faddr 5 x5),o (some p46) (.load x45 false 1),o (some p47) (.mx [x44, x46]),o (some p48) (.faddr 6 x4),o (some p49) (.load x48 false 1),o (some p50) (.faddr 6 x5),o (some p51) (.load x50 false 1),o (some p52) (.mx [x49, x51]),o (some p53) (.faddr 7 x4),o (some p54) (.load x53 false 1),o (some p55) (.faddr 7 x5),o (some p56) (.load x55 false 1),o (some p57) (.mn [x54, x56]),o (some p58) (.faddr 8 x4),o (some p59) (.load x58 false 1),o (some p60) (.faddr 8 x5),o (some p61) (.load x60 false 1),o (some p62) (.mx [x59, x61]),o (some p63) (.build [(iv 0), .nilsl, .nilsl, .nilsl, (iv 0), (iv 0), (iv 0), (iv 0), (iv 0), .nilsl] [(0, 1, x37), (4, 1, x42), (5, 1, x47), (6, 1, x52), (7, 1, x57), (8, 1, x62)]),o (some p8) (.alloc [(iv 0), .nilsl, .nilsl, .nilsl, (iv 0), (iv 0), (iv 0), (iv 0), (iv 0), .nilsl]),o none (.store x8 x63 10)]) (.seq (.region [o (some p65) (.faddr 1 x4),o (some p66) (.load x65 true 2),o (some p67) (.faddr 1 x5),o (some p68) (.load x67 true 2),o (some p69) (.call 205 [x66, x68]),o (some p64) (.mov x69),o (some p70) (.extract x64 0),o (some p71) (.extract x64 1),o (some p72) (.faddr 1 x8),o none (.store x72 x70 2)]) (.seq (.region [o (some p74) (.faddr 3 x4),o (some p75) (.load x74 false 1),o (some p76) (.faddr 3 x5),o (some p77) (.load x76 false 1),o (some p78) (.call 206 [x75, x77]),o (some p73) (.mov x78),o (some p79) (.extract x73 0),o (some p80) (.extract x73 1),o (some p81) (.faddr 3 x8),o none (.store x81 x79 1)]) (.seq (.seq (.region [o (some p82) (.load x3 true 3),o (some p83) (.load x4 true 10),o (some p84) (.load x5 true 10),o (some p85) (.call 207 [x82, x83, x84])]) (.block 1 (.rangef x85 [p86, p87] (.region [o (some p10) (.alloc [(iv 0), (iv 0), (iv 0), .nilsl, (iv 0), (iv 0), (iv 0), .nilsl]),o none (.store x10 x87 8)]) kc_zone_Join_l0))) (.seq (.region [o (some p142) (.load x8 true 10),o none (.store x6 x142 10),o (some p7) (.mov (.c (iv 0)))]) (.ret)))))))
def a187 : AFn := ⟨c_zone_Join, [.cell p6 true 10, .t p7]⟩
abbrev f_zone_Join : Nat := 187
def c_tree_vectors_l0 : ACode := .seq (.region [o (some p12) (.bin .lss x11 x10)]) (.seq (.cond x12 (.skip) (.exit 0)) (.seq (.block 1 (.seq (.region [o (some p13) (.mov x11),o (some p14) (.iaddrS 9 x9 x11),o (some p15) (.load x14 true 9),o (some p5) (.alloc [(iv 0), (iv 0), (iv 0), (iv 0), (iv 0), (iv 0), (iv 0), .nilsl, .nilsl]),o (some p4) (.mov x13),o none (.store x5 x15 9)]) (.region [o (some p16) (.mov x3),o (some p17) (.mov x4),o (some p18) (.faddr 7 x5),o (some p19) (.load x18 false 1),o (some p20) (.iaddrS 1 x16 x17),o none (.store x20 x19 1)]))) (.region [o (some p21) (.bin .add x11 (.c (iv 1))),o (some p11) (.mov x21)])))
def kc_tree_vectors_l0 : ACode := c_tree_vectors_l0
def c_tree_vectors : ACode := .seq (.region [o (some p2) (.mov (.c .nilsl))]) (.seq (.region [o (some p6) (.mov x0),o (some p7) (.len false x6),o (some p8) (.mkslice 1 24 [.nilsl] x7 x7),o (some p3) (.mov x8)]) (.seq (.seq (.region [o (some p9) (.mov x0),o (some p10) (.len false x9),o (some p11) (.mov (.c (iv 0)))]) (.block 0 (.loop kc_tree_vectors_l0))) (.seq (.region [o (some p22) (.mov x3),o (some p2) (.mov x22)]) (.ret))))
def a188 : AFn := ⟨c_tree_vectors, [.t p2]⟩
abbrev f_tree_vectors : Nat := 188
def c_tree_halves : ACode := .seq (.region [o (some p1) (.box x0),o (some p2) (.mov (.c .nilfn))]) (.seq (.region [o (some p3) (.mkfn 209 [] [x1]),o (some p2) (.mov x3)]) (.ret))
def a189 : AFn := ⟨c_tree_halves, [.t p2]⟩
abbrev f_tree_halves : Nat := 189
def c_pivot_Nearest : ACode := .seq (.region [o (some p6) (.mov (.c (iv 0))),o (some p7) (.mov (.c (iv 0))),o (some p8) (.mov (.c (iv 0)))]) (.seq (.seq (.region [o (some p11) (.mov x0),o (some p12) (.mov x1),o (some p13) (.call 138 [x11, x12]),o (some p14) (.un .not x13),o (some p15) (.mov x14),og (some p16) (.mov x1) p15 false,og (some p17) (.iaddrS 1 x16 (.c (iv 0))) p15 false,og (some p18) (.load x17 false 1) p15 false,og (some p19) (.mov x2) p15 false,og (some p20) (.call 103 [x18, x19]) p15 false,og (some p21) (.un .not x20) p15 false,o (some p22) (.pick x15 (.c (.bool true)) x21)]) (.cond x22 (.seq (.region [o (some p6) (.mov (.c (iv 0))),o (some p7) (.mov (.c (iv 0))),o (some p8) (.mov (.c (iv 1)))]) (.ret)) (.skip))) (.seq (.region [o (some p23) (.mov x0),o (some p24) (.mov x1),o (some p25) (.mov x2),o (some p26) (.call 139 [x23, x24, x25]),o (some p9) (.mov x26)]) (.seq (.region [o (some p27) (.mov x9),o (some p28) (.call 210 [x27]),o (some p10) (.mov x28)]) (.seq (.region [o (some p29) (.mov x9),o (some p30) (.mov x10),o (some p31) (.call 106 [x29, x30]),o (some p32) (.mov x10),o (some p6) (.mov x31),o (some p7) (.mov x32),o (some p8) (.mov (.c (iv 0)))]) (.ret)))))
def a190 : AFn := ⟨c_pivot_Nearest, [.t p6, .t p7, .t p8]⟩
abbrev f_pivot_Nearest : Nat := 190
def c_slices_Values_api_Entry_api_Entry_191 : ACode := .seq (.region [o (some p1) (.box x0),o (some p2) (.mov (.c .nilfn))]) (.seq (.region [o (some p3) (.mkfn 211 [] [x1]),o (some p2) (.mov x3)]) (.ret))
def a191 : AFn := ⟨c_slices_Values_api_Entry_api_Entry_191, [.t p2]⟩
abbrev f_slices_Values_api_Entry_api_Entry_191 : Nat := 191
def c_slices_AppendSeq_int_int_l0 : ACode := .block 1 (.region [o (some p8) (.load x2 false 1),o (some p9) (.mov x5),o (some p10) (.bslice 1 1 [(iv 0)] [(0, 1, x9)]),o (some p11) (.append 1 8 x8 x10),o none (.store x2 x11 1)])
def kc_slices_AppendSeq_int_int_l0 : ACode := c_slices_AppendSeq_int_int_l0
def c_slices_AppendSeq_int_int : ACode := .seq (.region [o (some p2) (.box x0),o (some p4) (.mov (.c .nilsl))]) (.seq (.seq (.region [o (some p6) (.mov x1)]) (.block 0 (.rangef x6 [p7] (.region [o (some p5) (.mov x7)]) kc_slices_AppendSeq_int_int_l0))) (.seq (.region [o (some p12) (.load x2 false 1),o (some p4) (.mov x12)]) (.ret)))
def a192 : AFn := ⟨c_slices_AppendSeq_int_int, [.t p4]⟩
abbrev f_slices_AppendSeq_int_int : Nat := 192
def c_slices_pdqsortOrdered_int_l0 : ACode := .block 1 (.seq (.region [o (some p19) (.mov x2),o (some p20) (.mov x1),o (some p21) (.bin .sub x19 x20),o (some p10) (.mov x21)]) (.seq (.seq (.region [o (some p22) (.mov x10),o (some p23) (.bin .leq x22 (.c (iv 12)))]) (.cond x23 (.seq (.region [o (some p24) (.mov x0),o (some p25) (.mov x1),o (some p26) (.mov x2),o (some p27) (.call 212 [x24, x25, x26])]) (.ret)) (.skip))) (.seq (.seq (.region [o (some p28) (.mov x3),o (some p29) (.bin .eql x28 (.c (iv 0)))]) (.cond x29 (.seq (.region [o (some p30) (.mov x0),o (some p31) (.mov x1),o (some p32) (.mov x2),o (some p33) (.call 213 [x30, x31, x32])]) (.ret)) (.skip))) (.seq (.seq (.region [o (some p34) (.mov x8),o (some p35) (.un .not x34)]) (.cond x35 (.seq (.region [o (some p36) (.mov x0),o (some p37) (.mov x1),o (some p38) (.mov x2),o (some p39) (.call 214 [x36, x37, x38])]) (.region [o (some p40) (.mov x3),o (some p41) (.bin .sub x40 (.c (iv 1))),o (some p3) (.mov x41)])) (.skip))) (.seq (.region [o (some p43) (.mov x0),o (some p44) (.mov x1),o (some p45) (.mov x2),o (some p46) (.call 215 [x43, x44, x45]),o (some p42) (.mov x46),o (some p47) (.extract x42 0),o (some p48) (.extract x42 1),o (some p11) (.mov x47),o (some p12) (.mov x48)]) (.seq (.seq (.region [o (some p49) (.mov x12),o (some p50) (.bin .eql x49 (.c (iv 2)))]) (.cond x50 (.seq (.region [o (some p51) (.mov x0),o (some p52) (.mov x1),o (some p53) (.mov x2),o (some p54) (.call 216 [x51, x52, x53])]) (.seq (.region [o (some p55) (.mov x2),o (some p56) (.bin .sub x55 (.c (iv 1))),o (some p57) (.mov x11),o (some p58) (.mov x1),o (some p59) (.bin .sub x57 x58),o (some p60) (.bin .sub x56 x59),o (some p11) (.mov x60)]) (.region [o (some p12) (.mov (.c (iv 1)))]))) (.skip))) (.seq (.seq (.region [o (some p61) (.mov x8),o (some p62) (.mov x61),og (some p63) (.mov x9) p62 true,o (some p64) (.pick x62 x63 (.c (.bool false))),o (some p65) (.mov x64),og (some p66) (.mov x12) p65 true,og (some p67) (.bin .eql x66 (.c (iv 1))) p65 true,o (some p68) (.pick x65 x67 (.c (.bool false)))]) (.cond x68 (.seq (.region [o (some p69) (.mov x0),o (some p70) (.mov x1),o (some p71) (.mov x2),o (some p72) (.call 217 [x69, x70, x71])]) (.cond x72 (.ret) (.skip))) (.skip))) (.seq (.seq (.draw [(.p, o (some p73) (.mov x1)),(.p, o (some p74) (.bin .gtr x73 (.c (iv 0)))),(.p, o (some p75) (.mov x74)),(.p, og (some p76) (.mov x0) p75 true),(.p, og (some p77) (.mov x1) p75 true),(.p, og (some p78) (.bin .sub x77 (.c (iv 1))) p75 true),(.p, og (some p79) (.iaddrS 1 x76 x78) p75 true),(.l 0 0, og (some p80) (.load x79 false 1) p75 true),(.p, og (some p81) (.mov x0) p75 true),(.p, og (some p82) (.mov x11) p75 true),(.p, og (some p83) (.iaddrS 1 x81 x82) p75 true),(.l 0 0, og (some p84) (.load x83 false 1) p75 true),(.e, og (some p85) (.call 218 [x80, x84]) p75 true),(.p, og (some p86) (.un .not x85) p75 true),(.p, o (some p87) (.pick x75 x86 (.c (.bool false))))]) (.cond x87 (.seq (.region [o (some p88) (.mov x0),o (some p89) (.mov x1),o (some p90) (.mov x2),o (some p91) (.mov x11),o (some p92) (.call 219 [x88, x89, x90, x91]),o (some p13) (.mov x92)]) (.seq (.region [o (some p93) (.mov x13),o (some p1) (.mov x93)]) (.exit 1))) (.skip))) (.seq (.region [o (some p95) (.mov x0),o (some p96) (.mov x1),o (some p97) (.mov x2),o (some p98) (.mov x11),o (some p99) (.call 220 [x95, x96, x97, x98]),o (some p94) (.mov x99),o (some p100) (.extract x94 0),o (some p101) (.extract x94 1),o (some p14) (.mov x100),o (some p15) (.mov x101)]) (.seq (.region [o (some p102) (.mov x15),o (some p9) (.mov x102)]) (.seq (.region [o (some p103) (.mov x14),o (some p104) (.mov x1),o (some p105) (.bin .sub x103 x104),o (some p106) (.mov x2),o (some p107) (.mov x14),o (some p108) (.bin .sub x106 x107),o (some p16) (.mov x105),o (some p17) (.mov x108)]) (.seq (.region [o (some p109) (.mov x10),o (some p110) (.bin .quo x109 (.c (iv 8))),o (some p18) (.mov x110)]) (.seq (.region [o (some p111) (.mov x16),o (some p112) (.mov x17),o (some p113) (.bin .lss x111 x112)]) (.cond x113 (.seq (.region [o (some p114) (.mov x16),o (some p115) (.mov x18),o (some p116) (.bin .geq x114 x115),o (some p8) (.mov x116)]) (.seq (.region [o (some p117) (.mov x0),o (some p118) (.mov x1),o (some p119) (.mov x14),o (some p120) (.mov x3),o (some p121) (.call 193 [x117, x118, x119, x120])]) (.region [o (some p122) (.mov x14),o (some p123) (.bin .add x122 (.c (iv 1))),o (some p1) (.mov x123)]))) (.seq (.region [o (some p124) (.mov x17),o (some p125) (.mov x18),o (some p126) (.bin .geq x124 x125),o (some p8) (.mov x126)]) (.seq (.region [o (some p127) (.mov x0),o (some p128) (.mov x14),o (some p129) (.bin .add x128 (.c (iv 1))),o (some p130) (.mov x2),o (some p131) (.mov x3),o (some p132) (.call 193 [x127, x129, x130, x131])]) (.region [o (some p133) (.mov x14),o (some p2) (.mov x133)])))))))))))))))))
def kc_slices_pdqsortOrdered_int_l0 : ACode := c_slices_pdqsortOrdered_int_l0
def c_slices_pdqsortOrdered_int : ACode := .seq (.region [o (some p8) (.mov (.c (.bool true)))]) (.seq (.region [o (some p9) (.mov (.c (.bool true)))]) (.block 0 (.loop kc_slices_pdqsortOrdered_int_l0)))
def a193 : AFn := ⟨c_slices_pdqsortOrdered_int, []⟩
abbrev f_slices_pdqsortOrdered_int : Nat := 193
def c_slices_insertionSortOrdered_string_l1 : ACode := .seq (.seq (.draw [(.p, o (some p16) (.mov x7)),(.p, o (some p17) (.mov x1)),(.p, o (some p18) (.bin .gtr x16 x17)),(.p, o (some p19) (.mov x18)),(.p, og (some p20) (.mov x0) p19 true),(.p, og (some p21) (.mov x7) p19 true),(.p, og (some p22) (.iaddrS 1 x20 x21) p19 true),(.l 0 0, og (some p23) (.load x22 false 1) p19 true),(.p, og (some p24) (.mov x0) p19 true),(.p, og (some p25) (.mov x7) p19 true),(.p, og (some p26) (.bin .sub x25 (.c (iv 1))) p19 true),(.p, og (some p27) (.iaddrS 1 x24 x26) p19 true),(.l 0 0, og (some p28) (.load x27 false 1) p19 true),(.e, og (some p29) (.call 200 [x23, x28]) p19 true),(.p, o (some p30) (.pick x19 x29 (.c (.bool false))))]) (.cond x30 (.skip) (.exit 2))) (.seq (.block 3 (.draw [(.p, o (some p33) (.mov x0)),(.p, o (some p34) (.mov x7)),(.p, o (some p35) (.mov x0)),(.p, o (some p36) (.mov x7)),(.p, o (some p37) (.bin .sub x36 (.c (iv 1)))),(.p, o (some p38) (.mov x0)),(.p, o (some p39) (.mov x7)),(.p, o (some p40) (.bin .sub x39 (.c (iv 1)))),(.p, o (some p41) (.iaddrS 1 x38 x40)),(.l 0 0, o (some p42) (.load x41 false 1)),(.p, o (some p43) (.mov x0)),(.p, o (some p44) (.mov x7)),(.p, o (some p45) (.iaddrS 1 x43 x44)),(.l 0 0, o (some p46) (.load x45 false 1)),(.p, o (some p47) (.iaddrS 1 x33 x34)),(.e, o none (.store x47 x42 1)),(.p, o (some p48) (.iaddrS 1 x35 x37)),(.e, o none (.store x48 x46 1))])) (.region [o (some p31) (.mov x7),o (some p32) (.bin .sub x31 (.c (iv 1))),o (some p7) (.mov x32)]))
def kc_slices_insertionSortOrdered_string_l1 : ACode := c_slices_insertionSortOrdered_string_l1
def c_slices_insertionSortOrdered_string_l0 : ACode := .seq (.seq (.region [o (some p10) (.mov x6),o (some p11) (.mov x2),o (some p12) (.bin .lss x10 x11)]) (.cond x12 (.skip) (.exit 0))) (.seq (.block 1 (.seq (.region [o (some p15) (.mov x6),o (some p7) (.mov x15)]) (.block 2 (.loop kc_slices_insertionSortOrdered_string_l1)))) (.region [o (some p13) (.mov x6),o (some p14) (.bin .add x13 (.c (iv 1))),o (some p6) (.mov x14)]))
def kc_slices_insertionSortOrdered_string_l0 : ACode := c_slices_insertionSortOrdered_string_l0
def c_slices_insertionSortOrdered_string : ACode := .seq (.region [o (some p8) (.mov x1),o (some p9) (.bin .add x8 (.c (iv 1))),o (some p6) (.mov x9)]) (.block 0 (.loop kc_slices_insertionSortOrdered_string_l0))
def a194 : AFn := ⟨c_slices_insertionSortOrdered_string, []⟩
abbrev f_slices_insertionSortOrdered_string : Nat := 194
def c_slices_heapSortOrdered_string_l0 : ACode := .seq (.seq (.region [o (some p18) (.mov x9),o (some p19) (.bin .geq x18 (.c (iv 0)))]) (.cond x19 (.skip) (.exit 0))) (.seq (.block 1 (.region [o (some p22) (.mov x0),o (some p23) (.mov x9),o (some p24) (.mov x8),o (some p25) (.mov x6),o (some p26) (.call 221 [x22, x23, x24, x25])])) (.region [o (some p20) (.mov x9),o (some p21) (.bin .sub x20 (.c (iv 1))),o (some p9) (.mov x21)]))
def kc_slices_heapSortOrdered_string_l0 : ACode := c_slices_heapSortOrdered_string_l0
def c_slices_heapSortOrdered_string_l1 : ACode := .seq (.seq (.region [o (some p29) (.mov x10),o (some p30) (.bin .geq x29 (.c (iv 0)))]) (.cond x30 (.skip) (.exit 2))) (.seq (.block 3 (.seq (.draw [(.p, o (some p33) (.mov x0)),(.p, o (some p34) (.mov x6)),(.p, o (some p35) (.mov x0)),(.p, o (some p36) (.mov x6)),(.p, o (some p37) (.mov x10)),(.p, o (some p38) (.bin .add x36 x37)),(.p, o (some p39) (.mov x0)),(.p, o (some p40) (.mov x6)),(.p, o (some p41) (.mov x10)),(.p, o (some p42) (.bin .add x40 x41)),(.p, o (some p43) (.iaddrS 1 x39 x42)),(.l 0 0, o (some p44) (.load x43 false 1)),(.p, o (some p45) (.mov x0)),(.p, o (some p46) (.mov x6)),(.p, o (some p47) (.iaddrS 1 x45 x46)),(.l 0 0, o (some p48) (.load x47 false 1)),(.p, o (some p49) (.iaddrS 1 x33 x34)),(.e, o none (.store x49 x44 1)),(.p, o (some p50) (.iaddrS 1 x35 x38)),(.e, o none (.store x50 x48 1))]) (.region [o (some p51) (.mov x0),o (some p52) (.mov x7),o (some p53) (.mov x10),o (some p54) (.mov x6),o (some p55) (.call 221 [x51, x52, x53, x54])]))) (.region [o (some p31) (.mov x10),o (some p32) (.bin .sub x31 (.c (iv 1))),o (some p10) (.mov x32)]))
def kc_slices_heapSortOrdered_string_l1 : ACode := c_slices_heapSortOrdered_string_l1
def c_slices_heapSortOrdered_string : ACode := .seq (.region [o (some p11) (.mov x1),o (some p6) (.mov x11)]) (.seq (.region [o (some p7) (.mov (.c (iv 0)))]) (.seq (.region [o (some p12) (.mov x2),o (some p13) (.mov x1),o (some p14) (.bin .sub x12 x13),o (some p8) (.mov x14)]) (.seq (.seq (.region [o (some p15) (.mov x8),o (some p16) (.bin .sub x15 (.c (iv 1))),o (some p17) (.bin .quo x16 (.c (iv 2))),o (some p9) (.mov x17)]) (.block 0 (.loop kc_slices_heapSortOrdered_string_l0))) (.seq (.region [o (some p27) (.mov x8),o (some p28) (.bin .sub x27 (.c (iv 1))),o (some p10) (.mov x28)]) (.block 2 (.loop kc_slices_heapSortOrdered_string_l1))))))
def a195 : AFn := ⟨c_slices_heapSortOrdered_string, []⟩
abbrev f_slices_heapSortOrdered_string : Nat := 195
def c_slices_breakPatternsOrdered_string_l0 : ACode := .seq (.seq (.region [o (some p26) (.mov x9),o (some p27) (.mov x1),o (some p28) (.mov x6),o (some p29) (.bin .quo x28 (.c (iv 4))),o (some p30) (.bin .mul x29 (.c (iv 2))),o (some p31) (.bin .add x27 x30),o (some p32) (.bin .add x31 (.c (iv 1))),o (some p33) (.bin .leq x26 x32)]) (.cond x33 (.skip) (.exit 0))) (.seq (.block 1 (.seq (.region [o (some p36) (.call 223 [x7]),o (some p37) (.mov x8),o (some p38) (.bin .sub x37 (.c (.int .u64 1))),o (some p39) (.bin .and x36 x38),o (some p40) (.convI .i64 x39),o (some p10) (.mov x40)]) (.seq (.seq (.region [o (some p41) (.mov x10),o (some p42) (.mov x6),o (some p43) (.bin .geq x41 x42)]) (.cond x43 (.region [o (some p44) (.mov x10),o (some p45) (.mov x6),o (some p46) (.bin .sub x44 x45),o (some p10) (.mov x46)]) (.skip))) (.draw [(.p, o (some p47) (.mov x0)),(.p, o (some p48) (.mov x9)),(.p, o (some p49) (.mov x0)),(.p, o (some p50) (.mov x1)),(.p, o (some p51) (.mov x10)),(.p, o (some p52) (.bin .add x50 x51)),(.p, o (some p53) (.mov x0)),(.p, o (some p54) (.mov x1)),(.p, o (some p55) (.mov x10)),(.p, o (some p56) (.bin .add x54 x55)),(.p, o (some p57) (.iaddrS 1 x53 x56)),(.l 0 0, o (some p58) (.load x57 false 1)),(.p, o (some p59) (.mov x0)),(.p, o (some p60) (.mov x9)),(.p, o (some p61) (.iaddrS 1 x59 x60)),(.l 0 0, o (some p62) (.load x61 false 1)),(.p, o (some p63) (.iaddrS 1 x47 x48)),(.e, o none (.store x63 x58 1)),(.p, o (some p64) (.iaddrS 1 x49 x52)),(.e, o none (.store x64 x62 1))])))) (.region [o (some p34) (.mov x9),o (some p35) (.bin .add x34 (.c (iv 1))),o (some p9) (.mov x35)]))
def kc_slices_breakPatternsOrdered_string_l0 : ACode := c_slices_breakPatternsOrdered_string_l0
def c_slices_breakPatternsOrdered_string : ACode := .seq (.region [o (some p11) (.mov x2),o (some p12) (.mov x1),o (some p13) (.bin .sub x11 x12),o (some p6) (.mov x13)]) (.seq (.region [o (some p14) (.mov x6),o (some p15) (.bin .geq x14 (.c (iv 8)))]) (.cond x15 (.seq (.region [o (some p16) (.mov x6),o (some p17) (.convI .u64 x16),o (some p7) (.alloc [(.int .u64 0)]),o none (.store x7 x17 1)]) (.seq (.region [o (some p18) (.mov x6),o (some p19) (.call 222 [x18]),o (some p8) (.mov x19)]) (.seq (.region [o (some p20) (.mov x1),o (some p21) (.mov x6),o (some p22) (.bin .quo x21 (.c (iv 4))),o (some p23) (.bin .mul x22 (.c (iv 2))),o (some p24) (.bin .add x20 x23),o (some p25) (.bin .sub x24 (.c (iv 1))),o (some p9) (.mov x25)]) (.block 0 (.loop kc_slices_breakPatternsOrdered_string_l0))))) (.skip)))
def a196 : AFn := ⟨c_slices_breakPatternsOrdered_string, []⟩
abbrev f_slices_breakPatternsOrdered_string : Nat := 196
def c_slices_choosePivotOrdered_string : ACode := .seq (.region [o (some p6) (.mov (.c (iv 0))),o (some p7) (.mov (.c (iv 0)))]) (.seq (.region [o (some p13) (.mov x2),o (some p14) (.mov x1),o (some p15) (.bin .sub x13 x14),o (some p8) (.mov x15)]) (.seq (.region [o (some p9) (.alloc [(iv 0)])]) (.seq (.region [o (some p16) (.mov x1),o (some p17) (.mov x8),o (some p18) (.bin .quo x17 (.c (iv 4))),o (some p19) (.bin .mul x18 (.c (iv 1))),o (some p20) (.bin .add x16 x19),o (some p10) (.mov x20)]) (.seq (.region [o (some p21) (.mov x1),o (some p22) (.mov x8),o (some p23) (.bin .quo x22 (.c (iv 4))),o (some p24) (.bin .mul x23 (.c (iv 2))),o (some p25) (.bin .add x21 x24),o (some p11) (.mov x25)]) (.seq (.region [o (some p26) (.mov x1),o (some p27) (.mov x8),o (some p28) (.bin .quo x27 (.c (iv 4))),o (some p29) (.bin .mul x28 (.c (iv 3))),o (some p30) (.bin .add x26 x29),o (some p12) (.mov x30)]) (.seq (.seq (.region [o (some p31) (.mov x8),o (some p32) (.bin .geq x31 (.c (iv 8)))]) (.cond x32 (.seq (.seq (.region [o (some p33) (.mov x8),o (some p34) (.bin .geq x33 (.c (iv 50)))]) (.cond x34 (.seq (.region [o (some p35) (.mov x0),o (some p36) (.mov x10),o (some p37) (.call 224 [x35, x36, x9]),o (some p10) (.mov x37)]) (.seq (.region [o (some p38) (.mov x0),o (some p39) (.mov x11),o (some p40) (.call 224 [x38, x39, x9]),o (some p11) (.mov x40)]) (.region [o (some p41) (.mov x0),o (some p42) (.mov x12),o (some p43) (.call 224 [x41, x42, x9]),o (some p12) (.mov x43)]))) (.skip))) (.region [o (some p44) (.mov x0),o (some p45) (.mov x10),o (some p46) (.mov x11),o (some p47) (.mov x12),o (some p48) (.call 225 [x44, x45, x46, x47, x9]),o (some p11) (.mov x48)])) (.skip))) (.seq (.region [o (some p49) (.load x9 false 1)]) (.block 0 (.seq (.region [o (some p52) (.bin .eql x49 (.c (iv 0))),o (some p51) (.mov x52)]) (.cond x51 (.seq (.region [o (some p53) (.mov x11),o (some p6) (.mov x53),o (some p7) (.mov (.c (iv 1)))]) (.ret)) (.seq (.region [o (some p55) (.bin .eql x49 (.c (iv 12))),o (some p54) (.mov x55)]) (.cond x54 (.seq (.region [o (some p56) (.mov x11),o (some p6) (.mov x56),o (some p7) (.mov (.c (iv 2)))]) (.ret)) (.seq (.region [o (some p50) (.mov x11),o (some p6) (.mov x50),o (some p7) (.mov (.c (iv 0)))]) (.ret))))))))))))))
def a197 : AFn := ⟨c_slices_choosePivotOrdered_string, [.t p6, .t p7]⟩
abbrev f_slices_choosePivotOrdered_string : Nat := 197
def c_slices_reverseRangeOrdered_string_l0 : ACode := .seq (.seq (.region [o (some p11) (.mov x6),o (some p12) (.mov x7),o (some p13) (.bin .lss x11 x12)]) (.cond x13 (.skip) (.exit 0))) (.block 1 (.seq (.draw [(.p, o (some p14) (.mov x0)),(.p, o (some p15) (.mov x6)),(.p, o (some p16) (.mov x0)),(.p, o (some p17) (.mov x7)),(.p, o (some p18) (.mov x0)),(.p, o (some p19) (.mov x7)),(.p, o (some p20) (.iaddrS 1 x18 x19)),(.l 0 0, o (some p21) (.load x20 false 1)),(.p, o (some p22) (.mov x0)),(.p, o (some p23) (.mov x6)),(.p, o (some p24) (.iaddrS 1 x22 x23)),(.l 0 0, o (some p25) (.load x24 false 1)),(.p, o (some p26) (.iaddrS 1 x14 x15)),(.e, o none (.store x26 x21 1)),(.p, o (some p27) (.iaddrS 1 x16 x17)),(.e, o none (.store x27 x25 1))]) (.seq (.region [o (some p28) (.mov x6),o (some p29) (.bin .add x28 (.c (iv 1))),o (some p6) (.mov x29)]) (.region [o (some p30) (.mov x7),o (some p31) (.bin .sub x30 (.c (iv 1))),o (some p7) (.mov x31)]))))
def kc_slices_reverseRangeOrdered_string_l0 : ACode := c_slices_reverseRangeOrdered_string_l0
def c_slices_reverseRangeOrdered_string : ACode := .seq (.region [o (some p8) (.mov x1),o (some p6) (.mov x8)]) (.seq (.region [o (some p9) (.mov x2),o (some p10) (.bin .sub x9 (.c (iv 1))),o (some p7) (.mov x10)]) (.block 0 (.loop kc_slices_reverseRangeOrdered_string_l0)))
def a198 : AFn := ⟨c_slices_reverseRangeOrdered_string, []⟩
abbrev f_slices_reverseRangeOrdered_string : Nat := 198
def c_slices_partialInsertionSortOrdered_string_l1 : ACode := .seq (.seq (.draw [(.p, o (some p17) (.mov x7)),(.p, o (some p18) (.mov x2)),(.p, o (some p19) (.bin .lss x17 x18)),(.p, o (some p20) (.mov x19)),(.p, og (some p21) (.mov x0) p20 true),(.p, og (some p22) (.mov x7) p20 true),(.p, og (some p23) (.iaddrS 1 x21 x22) p20 true),(.l 0 0, og (some p24) (.load x23 false 1) p20 true),(.p, og (some p25) (.mov x0) p20 true),(.p, og (some p26) (.mov x7) p20 true),(.p, og (some p27) (.bin .sub x26 (.c (iv 1))) p20 true),(.p, og (some p28) (.iaddrS 1 x25 x27) p20 true),(.l 0 0, og (some p29) (.load x28 false 1) p20 true),(.e, og (some p30) (.call 200 [x24, x29]) p20 true),(.p, og (some p31) (.un .not x30) p20 true),(.p, o (some p32) (.pick x20 x31 (.c (.bool false))))]) (.cond x32 (.skip) (.exit 2))) (.block 3 (.region [o (some p33) (.mov x7),o (some p34) (.bin .add x33 (.c (iv 1))),o (some p7) (.mov x34)]))
def kc_slices_partialInsertionSortOrdered_string_l1 : ACode := c_slices_partialInsertionSortOrdered_string_l1
def c_slices_partialInsertionSortOrdered_string_l2 : ACode := .seq (.seq (.region [o (some p64) (.mov x9),o (some p65) (.bin .geq x64 (.c (iv 1)))]) (.cond x65 (.skip) (.exit 4))) (.seq (.block 5 (.seq (.seq (.draw [(.p, o (some p68) (.mov x0)),(.p, o (some p69) (.mov x9)),(.p, o (some p70) (.iaddrS 1 x68 x69)),(.l 0 0, o (some p71) (.load x70 false 1)),(.p, o (some p72) (.mov x0)),(.p, o (some p73) (.mov x9)),(.p, o (some p74) (.bin .sub x73 (.c (iv 1)))),(.p, o (some p75) (.iaddrS 1 x72 x74)),(.l 0 0, o (some p76) (.load x75 false 1)),(.e, o (some p77) (.call 200 [x71, x76])),(.p, o (some p78) (.un .not x77))]) (.cond x78 (.exit 4) (.skip))) (.draw [(.p, o (some p79) (.mov x0)),(.p, o (some p80) (.mov x9)),(.p, o (some p81) (.mov x0)),(.p, o (some p82) (.mov x9)),(.p, o (some p83) (.bin .sub x82 (.c (iv 1)))),(.p, o (some p84) (.mov x0)),(.p, o (some p85) (.mov x9)),(.p, o (some p86) (.bin .sub x85 (.c (iv 1)))),(.p, o (some p87) (.iaddrS 1 x84 x86)),(.l 0 0, o (some p88) (.load x87 false 1)),(.p, o (some p89) (.mov x0)),(.p, o (some p90) (.mov x9)),(.p, o (some p91) (.iaddrS 1 x89 x90)),(.l 0 0, o (some p92) (.load x91 false 1)),(.p, o (some p93) (.iaddrS 1 x79 x80)),(.e, o none (.store x93 x88 1)),(.p, o (some p94) (.iaddrS 1 x81 x83)),(.e, o none (.store x94 x92 1))]))) (.region [o (some p66) (.mov x9),o (some p67) (.bin .sub x66 (.c (iv 1))),o (some p9) (.mov x67)]))
def kc_slices_partialInsertionSortOrdered_string_l2 : ACode := c_slices_partialInsertionSortOrdered_string_l2
def c_slices_partialInsertionSortOrdered_string_l3 : ACode := .seq (.seq (.region [o (some p101) (.mov x10),o (some p102) (.mov x2),o (some p103) (.bin .lss x101 x102)]) (.cond x103 (.skip) (.exit 6))) (.seq (.block 7 (.seq (.seq (.draw [(.p, o (some p106) (.mov x0)),(.p, o (some p107) (.mov x10)),(.p, o (some p108) (.iaddrS 1 x106 x107)),(.l 0 0, o (some p109) (.load x108 false 1)),(.p, o (some p110) (.mov x0)),(.p, o (some p111) (.mov x10)),(.p, o (some p112) (.bin .sub x111 (.c (iv 1)))),(.p, o (some p113) (.iaddrS 1 x110 x112)),(.l 0 0, o (some p114) (.load x113 false 1)),(.e, o (some p115) (.call 200 [x109, x114])),(.p, o (some p116) (.un .not x115))]) (.cond x116 (.exit 6) (.skip))) (.draw [(.p, o (some p117) (.mov x0)),(.p, o (some p118) (.mov x10)),(.p, o (some p119) (.mov x0)),(.p, o (some p120) (.mov x10)),(.p, o (some p121) (.bin .sub x120 (.c (iv 1)))),(.p, o (some p122) (.mov x0)),(.p, o (some p123) (.mov x10)),(.p, o (some p124) (.bin .sub x123 (.c (iv 1)))),(.p, o (some p125) (.iaddrS 1 x122 x124)),(.l 0 0, o (some p126) (.load x125 false 1)),(.p, o (some p127) (.mov x0)),(.p, o (some p128) (.mov x10)),(.p, o (some p129) (.iaddrS 1 x127 x128)),(.l 0 0, o (some p130) (.load x129 false 1)),(.p, o (some p131) (.iaddrS 1 x117 x118)),(.e, o none (.store x131 x126 1)),(.p, o (some p132) (.iaddrS 1 x119 x121)),(.e, o none (.store x132 x130 1))]))) (.region [o (some p104) (.mov x10),o (some p105) (.bin .add x104 (.c (iv 1))),o (some p10) (.mov x105)]))
def kc_slices_partialInsertionSortOrdered_string_l3 : ACode := c_slices_partialInsertionSortOrdered_string_l3
def c_slices_partialInsertionSortOrdered_string_l0 : ACode := .seq (.seq (.region [o (some p13) (.mov x8),o (some p14) (.bin .lss x13 (.c (iv 5)))]) (.cond x14 (.skip) (.exit 0))) (.seq (.block 1 (.seq (.block 2 (.loop kc_slices_partialInsertionSortOrdered_string_l1)) (.seq (.seq (.region [o (some p35) (.mov x7),o (some p36) (.mov x2),o (some p37) (.bin .eql x35 x36)]) (.cond x37 (.seq (.region [o (some p6) (.mov (.c (.bool true)))]) (.ret)) (.skip))) (.seq (.seq (.region [o (some p38) (.mov x2),o (some p39) (.mov x1),o (some p40) (.bin .sub x38 x39),o (some p41) (.bin .lss x40 (.c (iv 50)))]) (.cond x41 (.seq (.region [o (some p6) (.mov (.c (.bool false)))]) (.ret)) (.skip))) (.seq (.draw [(.p, o (some p42) (.mov x0)),(.p, o (some p43) (.mov x7)),(.p, o (some p44) (.mov x0)),(.p, o (some p45) (.mov x7)),(.p, o (some p46) (.bin .sub x45 (.c (iv 1)))),(.p, o (some p47) (.mov x0)),(.p, o (some p48) (.mov x7)),(.p, o (some p49) (.bin .sub x48 (.c (iv 1)))),(.p, o (some p50) (.iaddrS 1 x47 x49)),(.l 0 0, o (some p51) (.load x50 false 1)),(.p, o (some p52) (.mov x0)),(.p, o (some p53) (.mov x7)),(.p, o (some p54) (.iaddrS 1 x52 x53)),(.l 0 0, o (some p55) (.load x54 false 1)),(.p, o (some p56) (.iaddrS 1 x42 x43)),(.e, o none (.store x56 x51 1)),(.p, o (some p57) (.iaddrS 1 x44 x46)),(.e, o none (.store x57 x55 1))]) (.seq (.seq (.region [o (some p58) (.mov x7),o (some p59) (.mov x1),o (some p60) (.bin .sub x58 x59),o (some p61) (.bin .geq x60 (.c (iv 2)))]) (.cond x61 (.seq (.region [o (some p62) (.mov x7),o (some p63) (.bin .sub x62 (.c (iv 1))),o (some p9) (.mov x63)]) (.block 4 (.loop kc_slices_partialInsertionSortOrdered_string_l2))) (.skip))) (.seq (.region [o (some p95) (.mov x2),o (some p96) (.mov x7),o (some p97) (.bin .sub x95 x96),o (some p98) (.bin .geq x97 (.c (iv 2)))]) (.cond x98 (.seq (.region [o (some p99) (.mov x7),o (some p100) (.bin .add x99 (.c (iv 1))),o (some p10) (.mov x100)]) (.block 6 (.loop kc_slices_partialInsertionSortOrdered_string_l3))) (.skip))))))))) (.region [o (some p15) (.mov x8),o (some p16) (.bin .add x15 (.c (iv 1))),o (some p8) (.mov x16)]))
def kc_slices_partialInsertionSortOrdered_string_l0 : ACode := c_slices_partialInsertionSortOrdered_string_l0
def c_slices_partialInsertionSortOrdered_string : ACode := .seq (.region [o (some p6) (.mov (.c (.bool false)))]) (.seq (.region [o (some p11) (.mov x1),o (some p12) (.bin .add x11 (.c (iv 1))),o (some p7) (.mov x12)]) (.seq (.seq (.region [o (some p8) (.mov (.c (iv 0)))]) (.block 0 (.loop kc_slices_partialInsertionSortOrdered_string_l0))) (.seq (.region [o (some p6) (.mov (.c (.bool false)))]) (.ret))))
def a199 : AFn := ⟨c_slices_partialInsertionSortOrdered_string, [.t p6]⟩
abbrev f_slices_partialInsertionSortOrdered_string : Nat := 199
def c_cmp_Less_string : ACode := .seq (.region [o (some p4) (.mov (.c (.bool false)))]) (.seq (.region [o (some p5) (.mov x0),o (some p6) (.call 226 [x5]),o (some p7) (.mov x6),og (some p8) (.mov x1) p7 true,og (some p9) (.call 226 [x8]) p7 true,og (some p10) (.un .not x9) p7 true,o (some p11) (.pick x7 x10 (.c (.bool false))),o (some p12) (.mov x11),og (some p13) (.mov x0) p12 false,og (some p14) (.mov x1) p12 false,og (some p15) (.bin .lss x13 x14) p12 false,o (some p16) (.pick x12 (.c (.bool true)) x15),o (some p4) (.mov x16)]) (.ret))
def a200 : AFn := ⟨c_cmp_Less_string, [.t p4]⟩
abbrev f_cmp_Less_string : Nat := 200
def c_slices_partitionEqualOrdered_string_l1 : ACode := .seq (.seq (.draw [(.p, o (some p29) (.mov x9)),(.p, o (some p30) (.mov x10)),(.p, o (some p31) (.bin .leq x29 x30)),(.p, o (some p32) (.mov x31)),(.p, og (some p33) (.mov x0) p32 true),(.p, og (some p34) (.mov x1) p32 true),(.p, og (some p35) (.iaddrS 1 x33 x34) p32 true),(.l 0 0, og (some p36) (.load x35 false 1) p32 true),(.p, og (some p37) (.mov x0) p32 true),(.p, og (some p38) (.mov x9) p32 true),(.p, og (some p39) (.iaddrS 1 x37 x38) p32 true),(.l 0 0, og (some p40) (.load x39 false 1) p32 true),(.e, og (some p41) (.call 200 [x36, x40]) p32 true),(.p, og (some p42) (.un .not x41) p32 true),(.p, o (some p43) (.pick x32 x42 (.c (.bool false))))]) (.cond x43 (.skip) (.exit 2))) (.block 3 (.region [o (some p44) (.mov x9),o (some p45) (.bin .add x44 (.c (iv 1))),o (some p9) (.mov x45)]))
def kc_slices_partitionEqualOrdered_string_l1 : ACode := c_slices_partitionEqualOrdered_string_l1
def c_slices_partitionEqualOrdered_string_l2 : ACode := .seq (.seq (.draw [(.p, o (some p46) (.mov x9)),(.p, o (some p47) (.mov x10)),(.p, o (some p48) (.bin .leq x46 x47)),(.p, o (some p49) (.mov x48)),(.p, og (some p50) (.mov x0) p49 true),(.p, og (some p51) (.mov x1) p49 true),(.p, og (some p52) (.iaddrS 1 x50 x51) p49 true),(.l 0 0, og (some p53) (.load x52 false 1) p49 true),(.p, og (some p54) (.mov x0) p49 true),(.p, og (some p55) (.mov x10) p49 true),(.p, og (some p56) (.iaddrS 1 x54 x55) p49 true),(.l 0 0, og (some p57) (.load x56 false 1) p49 true),(.e, og (some p58) (.call 200 [x53, x57]) p49 true),(.p, o (some p59) (.pick x49 x58 (.c (.bool false))))]) (.cond x59 (.skip) (.exit 4))) (.block 5 (.region [o (some p60) (.mov x10),o (some p61) (.bin .sub x60 (.c (iv 1))),o (some p10) (.mov x61)]))
def kc_slices_partitionEqualOrdered_string_l2 : ACode := c_slices_partitionEqualOrdered_string_l2
def c_slices_partitionEqualOrdered_string_l0 : ACode := .block 1 (.seq (.block 2 (.loop kc_slices_partitionEqualOrdered_string_l1)) (.seq (.block 4 (.loop kc_slices_partitionEqualOrdered_string_l2)) (.seq (.seq (.region [o (some p62) (.mov x9),o (some p63) (.mov x10),o (some p64) (.bin .gtr x62 x63)]) (.cond x64 (.exit 0) (.skip))) (.seq (.draw [(.p, o (some p65) (.mov x0)),(.p, o (some p66) (.mov x9)),(.p, o (some p67) (.mov x0)),(.p, o (some p68) (.mov x10)),(.p, o (some p69) (.mov x0)),(.p, o (some p70) (.mov x10)),(.p, o (some p71) (.iaddrS 1 x69 x70)),(.l 0 0, o (some p72) (.load x71 false 1)),(.p, o (some p73) (.mov x0)),(.p, o (some p74) (.mov x9)),(.p, o (some p75) (.iaddrS 1 x73 x74)),(.l 0 0, o (some p76) (.load x75 false 1)),(.p, o (some p77) (.iaddrS 1 x65 x66)),(.e, o none (.store x77 x72 1)),(.p, o (some p78) (.iaddrS 1 x67 x68)),(.e, o none (.store x78 x76 1))]) (.seq (.region [o (some p79) (.mov x9),o (some p80) (.bin .add x79 (.c (iv 1))),o (some p9) (.mov x80)]) (.region [o (some p81) (.mov x10),o (some p82) (.bin .sub x81 (.c (iv 1))),o (some p10) (.mov x82)]))))))
def kc_slices_partitionEqualOrdered_string_l0 : ACode := c_slices_partitionEqualOrdered_string_l0
def c_slices_partitionEqualOrdered_string : ACode := .seq (.region [o (some p8) (.mov (.c (iv 0)))]) (.seq (.draw [(.p, o (some p11) (.mov x0)),(.p, o (some p12) (.mov x1)),(.p, o (some p13) (.mov x0)),(.p, o (some p14) (.mov x3)),(.p, o (some p15) (.mov x0)),(.p, o (some p16) (.mov x3)),(.p, o (some p17) (.iaddrS 1 x15 x16)),(.l 0 0, o (some p18) (.load x17 false 1)),(.p, o (some p19) (.mov x0)),(.p, o (some p20) (.mov x1)),(.p, o (some p21) (.iaddrS 1 x19 x20)),(.l 0 0, o (some p22) (.load x21 false 1)),(.p, o (some p23) (.iaddrS 1 x11 x12)),(.e, o none (.store x23 x18 1)),(.p, o (some p24) (.iaddrS 1 x13 x14)),(.e, o none (.store x24 x22 1))]) (.seq (.region [o (some p25) (.mov x1),o (some p26) (.bin .add x25 (.c (iv 1))),o (some p27) (.mov x2),o (some p28) (.bin .sub x27 (.c (iv 1))),o (some p9) (.mov x26),o (some p10) (.mov x28)]) (.seq (.block 0 (.loop kc_slices_partitionEqualOrdered_string_l0)) (.seq (.region [o (some p83) (.mov x9),o (some p8) (.mov x83)]) (.ret)))))
def a201 : AFn := ⟨c_slices_partitionEqualOrdered_string, [.t p8]⟩
abbrev f_slices_partitionEqualOrdered_string : Nat := 201
def c_slices_partitionOrdered_string_l0 : ACode := .seq (.seq (.draw [(.p, o (some p30) (.mov x10)),(.p, o (some p31) (.mov x11)),(.p, o (some p32) (.bin .leq x30 x31)),(.p, o (some p33) (.mov x32)),(.p, og (some p34) (.mov x0) p33 true),(.p, og (some p35) (.mov x10) p33 true),(.p, og (some p36) (.iaddrS 1 x34 x35) p33 true),(.l 0 0, og (some p37) (.load x36 false 1) p33 true),(.p, og (some p38) (.mov x0) p33 true),(.p, og (some p39) (.mov x1) p33 true),(.p, og (some p40) (.iaddrS 1 x38 x39) p33 true),(.l 0 0, og (some p41) (.load x40 false 1) p33 true),(.e, og (some p42) (.call 200 [x37, x41]) p33 true),(.p, o (some p43) (.pick x33 x42 (.c (.bool false))))]) (.cond x43 (.skip) (.exit 0))) (.block 1 (.region [o (some p44) (.mov x10),o (some p45) (.bin .add x44 (.c (iv 1))),o (some p10) (.mov x45)]))
def kc_slices_partitionOrdered_string_l0 : ACode := c_slices_partitionOrdered_string_l0
def c_slices_partitionOrdered_string_l1 : ACode := .seq (.seq (.draw [(.p, o (some p46) (.mov x10)),(.p, o (some p47) (.mov x11)),(.p, o (some p48) (.bin .leq x46 x47)),(.p, o (some p49) (.mov x48)),(.p, og (some p50) (.mov x0) p49 true),(.p, og (some p51) (.mov x11) p49 true),(.p, og (some p52) (.iaddrS 1 x50 x51) p49 true),(.l 0 0, og (some p53) (.load x52 false 1) p49 true),(.p, og (some p54) (.mov x0) p49 true),(.p, og (some p55) (.mov x1) p49 true),(.p, og (some p56) (.iaddrS 1 x54 x55) p49 true),(.l 0 0, og (some p57) (.load x56 false 1) p49 true),(.e, og (some p58) (.call 200 [x53, x57]) p49 true),(.p, og (some p59) (.un .not x58) p49 true),(.p, o (some p60) (.pick x49 x59 (.c (.bool false))))]) (.cond x60 (.skip) (.exit 2))) (.block 3 (.region [o (some p61) (.mov x11),o (some p62) (.bin .sub x61 (.c (iv 1))),o (some p11) (.mov x62)]))
def kc_slices_partitionOrdered_string_l1 : ACode := c_slices_partitionOrdered_string_l1
def c_slices_partitionOrdered_string_l3 : ACode := .seq (.seq (.draw [(.p, o (some p99) (.mov x10)),(.p, o (some p100) (.mov x11)),(.p, o (some p101) (.bin .leq x99 x100)),(.p, o (some p102) (.mov x101)),(.p, og (some p103) (.mov x0) p102 true),(.p, og (some p104) (.mov x10) p102 true),(.p, og (some p105) (.iaddrS 1 x103 x104) p102 true),(.l 0 0, og (some p106) (.load x105 false 1) p102 true),(.p, og (some p107) (.mov x0) p102 true),(.p, og (some p108) (.mov x1) p102 true),(.p, og (some p109) (.iaddrS 1 x107 x108) p102 true),(.l 0 0, og (some p110) (.load x109 false 1) p102 true),(.e, og (some p111) (.call 200 [x106, x110]) p102 true),(.p, o (some p112) (.pick x102 x111 (.c (.bool false))))]) (.cond x112 (.skip) (.exit 6))) (.block 7 (.region [o (some p113) (.mov x10),o (some p114) (.bin .add x113 (.c (iv 1))),o (some p10) (.mov x114)]))
def kc_slices_partitionOrdered_string_l3 : ACode := c_slices_partitionOrdered_string_l3
def c_slices_partitionOrdered_string_l4 : ACode := .seq (.seq (.draw [(.p, o (some p115) (.mov x10)),(.p, o (some p116) (.mov x11)),(.p, o (some p117) (.bin .leq x115 x116)),(.p, o (some p118) (.mov x117)),(.p, og (some p119) (.mov x0) p118 true),(.p, og (some p120) (.mov x11) p118 true),(.p, og (some p121) (.iaddrS 1 x119 x120) p118 true),(.l 0 0, og (some p122) (.load x121 false 1) p118 true),(.p, og (some p123) (.mov x0) p118 true),(.p, og (some p124) (.mov x1) p118 true),(.p, og (some p125) (.iaddrS 1 x123 x124) p118 true),(.l 0 0, og (some p126) (.load x125 false 1) p118 true),(.e, og (some p127) (.call 200 [x122, x126]) p118 true),(.p, og (some p128) (.un .not x127) p118 true),(.p, o (some p129) (.pick x118 x128 (.c (.bool false))))]) (.cond x129 (.skip) (.exit 8))) (.block 9 (.region [o (some p130) (.mov x11),o (some p131) (.bin .sub x130 (.c (iv 1))),o (some p11) (.mov x131)]))
def kc_slices_partitionOrdered_string_l4 : ACode := c_slices_partitionOrdered_string_l4
def c_slices_partitionOrdered_string_l2 : ACode := .block 5 (.seq (.block 6 (.loop kc_slices_partitionOrdered_string_l3)) (.seq (.block 8 (.loop kc_slices_partitionOrdered_string_l4)) (.seq (.seq (.region [o (some p132) (.mov x10),o (some p133) (.mov x11),o (some p134) (.bin .gtr x132 x133)]) (.cond x134 (.exit 4) (.skip))) (.seq (.draw [(.p, o (some p135) (.mov x0)),(.p, o (some p136) (.mov x10)),(.p, o (some p137) (.mov x0)),(.p, o (some p138) (.mov x11)),(.p, o (some p139) (.mov x0)),(.p, o (some p140) (.mov x11)),(.p, o (some p141) (.iaddrS 1 x139 x140)),(.l 0 0, o (some p142) (.load x141 false 1)),(.p, o (some p143) (.mov x0)),(.p, o (some p144) (.mov x10)),(.p, o (some p145) (.iaddrS 1 x143 x144)),(.l 0 0, o (some p146) (.load x145 false 1)),(.p, o (some p147) (.iaddrS 1 x135 x136)),(.e, o none (.store x147 x142 1)),(.p, o (some p148) (.iaddrS 1 x137 x138)),(.e, o none (.store x148 x146 1))]) (.seq (.region [o (some p149) (.mov x10),o (some p150) (.bin .add x149 (.c (iv 1))),o (some p10) (.mov x150)]) (.region [o (some p151) (.mov x11),o (some p152) (.bin .sub x151 (.c (iv 1))),o (some p11) (.mov x152)]))))))
def kc_slices_partitionOrdered_string_l2 : ACode := c_slices_partitionOrdered_string_l2
def c_slices_partitionOrdered_string : ACode := .seq (.region [o (some p8) (.mov (.c (iv 0))),o (some p9) (.mov (.c (.bool false)))]) (.seq (.draw [(.p, o (some p12) (.mov x0)),(.p, o (some p13) (.mov x1)),(.p, o (some p14) (.mov x0)),(.p, o (some p15) (.mov x3)),(.p, o (some p16) (.mov x0)),(.p, o (some p17) (.mov x3)),(.p, o (some p18) (.iaddrS 1 x16 x17)),(.l 0 0, o (some p19) (.load x18 false 1)),(.p, o (some p20) (.mov x0)),(.p, o (some p21) (.mov x1)),(.p, o (some p22) (.iaddrS 1 x20 x21)),(.l 0 0, o (some p23) (.load x22 false 1)),(.p, o (some p24) (.iaddrS 1 x12 x13)),(.e, o none (.store x24 x19 1)),(.p, o (some p25) (.iaddrS 1 x14 x15)),(.e, o none (.store x25 x23 1))]) (.seq (.region [o (some p26) (.mov x1),o (some p27) (.bin .add x26 (.c (iv 1))),o (some p28) (.mov x2),o (some p29) (.bin .sub x28 (.c (iv 1))),o (some p10) (.mov x27),o (some p11) (.mov x29)]) (.seq (.block 0 (.loop kc_slices_partitionOrdered_string_l0)) (.seq (.block 2 (.loop kc_slices_partitionOrdered_string_l1)) (.seq (.seq (.region [o (some p63) (.mov x10),o (some p64) (.mov x11),o (some p65) (.bin .gtr x63 x64)]) (.cond x65 (.seq (.draw [(.p, o (some p66) (.mov x0)),(.p, o (some p67) (.mov x11)),(.p, o (some p68) (.mov x0)),(.p, o (some p69) (.mov x1)),(.p, o (some p70) (.mov x0)),(.p, o (some p71) (.mov x1)),(.p, o (some p72) (.iaddrS 1 x70 x71)),(.l 0 0, o (some p73) (.load x72 false 1)),(.p, o (some p74) (.mov x0)),(.p, o (some p75) (.mov x11)),(.p, o (some p76) (.iaddrS 1 x74 x75)),(.l 0 0, o (some p77) (.load x76 false 1)),(.p, o (some p78) (.iaddrS 1 x66 x67)),(.e, o none (.store x78 x73 1)),(.p, o (some p79) (.iaddrS 1 x68 x69)),(.e, o none (.store x79 x77 1))]) (.seq (.region [o (some p80) (.mov x11),o (some p8) (.mov x80),o (some p9) (.mov (.c (.bool true)))]) (.ret))) (.skip))) (.seq (.draw [(.p, o (some p81) (.mov x0)),(.p, o (some p82) (.mov x10)),(.p, o (some p83) (.mov x0)),(.p, o (some p84) (.mov x11)),(.p, o (some p85) (.mov x0)),(.p, o (some p86) (.mov x11)),(.p, o (some p87) (.iaddrS 1 x85 x86)),(.l 0 0, o (some p88) (.load x87 false 1)),(.p, o (some p89) (.mov x0)),(.p, o (some p90) (.mov x10)),(.p, o (some p91) (.iaddrS 1 x89 x90)),(.l 0 0, o (some p92) (.load x91 false 1)),(.p, o (some p93) (.iaddrS 1 x81 x82)),(.e, o none (.store x93 x88 1)),(.p, o (some p94) (.iaddrS 1 x83 x84)),(.e, o none (.store x94 x92 1))]) (.seq (.region [o (some p95) (.mov x10),o (some p96) (.bin .add x95 (.c (iv 1))),o (some p10) (.mov x96)]) (.seq (.region [o (some p97) (.mov x11),o (some p98) (.bin .sub x97 (.c (iv 1))),o (some p11) (.mov x98)]) (.seq (.block 4 (.loop kc_slices_partitionOrdered_string_l2)) (.seq (.draw [(.p, o (some p153) (.mov x0)),(.p, o (some p154) (.mov x11)),(.p, o (some p155) (.mov x0)),(.p, o (some p156) (.mov x1)),(.p, o (some p157) (.mov x0)),(.p, o (some p158) (.mov x1)),(.p, o (some p159) (.iaddrS 1 x157 x158)),(.l 0 0, o (some p160) (.load x159 false 1)),(.p, o (some p161) (.mov x0)),(.p, o (some p162) (.mov x11)),(.p, o (some p163) (.iaddrS 1 x161 x162)),(.l 0 0, o (some p164) (.load x163 false 1)),(.p, o (some p165) (.iaddrS 1 x153 x154)),(.e, o none (.store x165 x160 1)),(.p, o (some p166) (.iaddrS 1 x155 x156)),(.e, o none (.store x166 x164 1))]) (.seq (.region [o (some p167) (.mov x11),o (some p8) (.mov x167),o (some p9) (.mov (.c (.bool false)))]) (.ret))))))))))))
def a202 : AFn := ⟨c_slices_partitionOrdered_string, [.t p8, .t p9]⟩
abbrev f_slices_partitionOrdered_string : Nat := 202
def c_math_bits_Len32 : ACode := .seq (.region [o (some p2) (.mov (.c (iv 0)))]) (.seq (.seq (.region [o (some p3) (.mov x0),o (some p4) (.bin .geq x3 (.c (.int .u32 65536)))]) (.cond x4 (.seq (.region [o (some p5) (.mov x0),o (some p6) (.bin .shr x5 (.c (.int .u64 16))),o (some p0) (.mov x6)]) (.region [o (some p2) (.mov (.c (iv 16)))])) (.skip))) (.seq (.seq (.region [o (some p7) (.mov x0),o (some p8) (.bin .geq x7 (.c (.int .u32 256)))]) (.cond x8 (.seq (.region [o (some p9) (.mov x0),o (some p10) (.bin .shr x9 (.c (.int .u64 8))),o (some p0) (.mov x10)]) (.region [o (some p11) (.mov x2),o (some p12) (.bin .add x11 (.c (iv 8))),o (some p2) (.mov x12)])) (.skip))) (.seq (.region [o (some p13) (.mov x2),o (some p14) (.mov x0),o (some p15) (.convI .u8 x14),o (some p16) (.idxS (.c (.str (bs [0, 1, 2, 2, 3, 3, 3, 3, 4, 4, 4, 4, 4, 4, 4, 4, 5, 5, 5, 5, 5, 5, 5, 5, 5, 5, 5, 5, 5, 5, 5, 5, 6, 6, 6, 6, 6, 6, 6, 6, 6, 6, 6, 6, 6, 6, 6, 6, 6, 6, 6, 6, 6, 6, 6, 6, 6, 6, 6, 6, 6, 6, 6, 6, 7, 7, 7, 7, 7, 7, 7, 7, 7, 7, 7, 7, 7, 7, 7, 7, 7, 7, 7, 7, 7, 7, 7, 7, 7, 7, 7, 7, 7, 7, 7, 7, 7, 7, 7, 7, 7, 7, 7, 7, 7, 7, 7, 7, 7, 7, 7, 7, 7, 7, 7, 7, 7, 7, 7, 7, 7, 7, 7, 7, 7, 7, 7, 7, 8, 8, 8, 8, 8, 8, 8, 8, 8, 8, 8, 8, 8, 8, 8, 8, 8, 8, 8, 8, 8, 8, 8, 8, 8, 8, 8, 8, 8, 8, 8, 8, 8, 8, 8, 8, 8, 8, 8, 8, 8, 8, 8, 8, 8, 8, 8, 8, 8, 8, 8, 8, 8, 8, 8, 8, 8, 8, 8, 8, 8, 8, 8, 8, 8, 8, 8, 8, 8, 8, 8, 8, 8, 8, 8, 8, 8, 8, 8, 8, 8, 8, 8, 8, 8, 8, 8, 8, 8, 8, 8, 8, 8, 8, 8, 8, 8, 8, 8, 8, 8, 8, 8, 8, 8, 8, 8, 8, 8, 8, 8, 8, 8, 8, 8, 8, 8, 8, 8, 8, 8, 8, 8, 8, 8, 8, 8, 8]))) x15),o (some p17) (.convI .i64 x16),o (some p18) (.bin .add x13 x17),o (some p2) (.mov x18)]) (.ret))))
def a203 : AFn := ⟨c_math_bits_Len32, [.t p2]⟩
abbrev f_math_bits_Len32 : Nat := 203
def c_math_bits_Len64 : ACode := .seq (.region [o (some p2) (.mov (.c (iv 0)))]) (.seq (.seq (.region [o (some p3) (.mov x0),o (some p4) (.bin .geq x3 (.c (.int .u64 4294967296)))]) (.cond x4 (.seq (.region [o (some p5) (.mov x0),o (some p6) (.bin .shr x5 (.c (.int .u64 32))),o (some p0) (.mov x6)]) (.region [o (some p2) (.mov (.c (iv 32)))])) (.skip))) (.seq (.seq (.region [o (some p7) (.mov x0),o (some p8) (.bin .geq x7 (.c (.int .u64 65536)))]) (.cond x8 (.seq (.region [o (some p9) (.mov x0),o (some p10) (.bin .shr x9 (.c (.int .u64 16))),o (some p0) (.mov x10)]) (.region [o (some p11) (.mov x2),o (some p12) (.bin .add x11 (.c (iv 16))),o (some p2) (.mov x12)])) (.skip))) (.seq (.seq (.region [o (some p13) (.mov x0),o (some p14) (.bin .geq x13 (.c (.int .u64 256)))]) (.cond x14 (.seq (.region [o (some p15) (.mov x0),o (some p16) (.bin .shr x15 (.c (.int .u64 8))),o (some p0) (.mov x16)]) (.region [o (some p17) (.mov x2),o (some p18) (.bin .add x17 (.c (iv 8))),o (some p2) (.mov x18)])) (.skip))) (.seq (.region [o (some p19) (.mov x2),o (some p20) (.mov x0),o (some p21) (.convI .u8 x20),o (some p22) (.idxS (.c (.str (bs [0, 1, 2, 2, 3, 3, 3, 3, 4, 4, 4, 4, 4, 4, 4, 4, 5, 5, 5, 5, 5, 5, 5, 5, 5, 5, 5, 5, 5, 5, 5, 5, 6, 6, 6, 6, 6, 6, 6, 6, 6, 6, 6, 6, 6, 6, 6, 6, 6, 6, 6, 6, 6, 6, 6, 6, 6, 6, 6, 6, 6, 6, 6, 6, 7, 7, 7, 7, 7, 7, 7, 7, 7, 7, 7, 7, 7, 7, 7, 7, 7, 7, 7, 7, 7, 7, 7, 7, 7, 7, 7, 7, 7, 7, 7, 7, 7, 7, 7, 7, 7, 7, 7, 7, 7, 7, 7, 7, 7, 7, 7, 7, 7, 7, 7, 7, 7, 7, 7, 7, 7, 7, 7, 7, 7, 7, 7, 7, 8, 8, 8, 8, 8, 8, 8, 8, 8, 8, 8, 8, 8, 8, 8, 8, 8, 8, 8, 8, 8, 8, 8, 8, 8, 8, 8, 8, 8, 8, 8, 8, 8, 8, 8, 8, 8, 8, 8, 8, 8, 8, 8, 8, 8, 8, 8, 8, 8, 8, 8, 8, 8, 8, 8, 8, 8, 8, 8, 8, 8, 8, 8, 8, 8, 8, 8, 8, 8, 8, 8, 8, 8, 8, 8, 8, 8, 8, 8, 8, 8, 8, 8, 8, 8, 8, 8, 8, 8, 8, 8, 8, 8, 8, 8, 8, 8, 8, 8, 8, 8, 8, 8, 8, 8, 8, 8, 8, 8, 8, 8, 8, 8, 8, 8, 8, 8, 8, 8, 8, 8, 8, 8, 8, 8, 8, 8, 8]))) x21),o (some p23) (.convI .i64 x22),o (some p24) (.bin .add x19 x23),o (some p2) (.mov x24)]) (.ret)))))
def a204 : AFn := ⟨c_math_bits_Len64, [.t p2]⟩
abbrev f_math_bits_Len64 : Nat := 204
def c_box_Join : ACode := .seq (.region [o (some p2) (.box x0),o (some p3) (.box x1),o (some p4) (.alloc [.nilsl, .nilsl]),o (some p5) (.mov (.c (iv 0)))]) (.seq (.seq (.region [o (some p6) (.load x2 true 2),o (some p7) (.load x3 true 2),o (some p8) (.call 227 [x6, x7]),o (some p9) (.un .not x8)]) (.cond x9 (.seq (.region [o (some p10) (.build [.nilsl, .nilsl] []),o none (.store x4 x10 2),o (some p5) (.mov (.c (iv 1)))]) (.ret)) (.skip))) (.seq (.draw [(.p, o (some p11) (.faddr 0 x2)),(.l 0 0, o (some p12) (.load x11 false 1)),(.p, o (some p13) (.faddr 0 x3)),(.l 0 0, o (some p14) (.load x13 false 1)),(.e, o (some p15) (.call 92 [x12, x14, (.c (.fn 93 [] []))])),(.p, o (some p16) (.faddr 1 x2)),(.l 0 1, o (some p17) (.load x16 false 1)),(.p, o (some p18) (.faddr 1 x3)),(.l 0 1, o (some p19) (.load x18 false 1)),(.e, o (some p20) (.call 92 [x17, x19, (.c (.fn 94 [] []))])),(.p, o (some p21) (.build [.nilsl, .nilsl] [(0, 1, x15), (1, 1, x20)])),(.e, o none (.store x4 x21 2)),(.p, o (some p5) (.mov (.c (iv 0))))]) (.ret)))
def a205 : AFn := ⟨c_box_Join, [.cell p4 true 2, .t p5]⟩
abbrev f_box_Join : Nat := 205
def c_pivot_Join_l0 : ACode := .seq (.region [o (some p28) (.bin .lss x27 x26)]) (.seq (.cond x28 (.skip) (.exit 0)) (.seq (.block 1 (.seq (.region [o (some p29) (.mov x27),o (some p30) (.iaddrS 2 x25 x27),o (some p31) (.load x30 true 2),o (some p8) (.alloc [(iv 0), (iv 0)]),o (some p7) (.mov x29),o none (.store x8 x31 2)]) (.seq (.draw [(.l 0 0, o (some p32) (.load x8 true 2)),(.e, o (some p33) (.call 229 [x32])),(.p, o (some p34) (.mov x1)),(.p, o (some p35) (.mov x7)),(.p, o (some p36) (.iaddrS 2 x34 x35)),(.p, o (some p37) (.faddr 0 x36)),(.l 0 1, o (some p38) (.load x37 false 1)),(.e, o (some p39) (.call 96 [x33, x38])),(.p, o (some p40) (.mov x1)),(.p, o (some p41) (.mov x7)),(.p, o (some p42) (.iaddrS 2 x40 x41)),(.p, o (some p43) (.faddr 1 x42)),(.l 0 2, o (some p44) (.load x43 false 1)),(.e, o (some p45) (.call 96 [x39, x44])),(.pre 0 3, o (some p9) (.alloc [(iv 0), (iv 0)])),(.e, o none (.store x9 x45 2))]) (.region [o (some p46) (.mov x6),o (some p47) (.faddr 0 x9),o (some p48) (.load x47 false 1),o (some p49) (.faddr 1 x9),o (some p50) (.load x49 false 1),o (some p51) (.build [(iv 0), (iv 0)] [(0, 1, x48), (1, 1, x50)]),o (some p52) (.bslice 2 1 [(iv 0), (iv 0)] [(0, 2, x51)]),o (some p53) (.append 2 16 x46 x52),o (some p6) (.mov x53)])))) (.region [o (some p54) (.bin .add x27 (.c (iv 1))),o (some p27) (.mov x54)])))
def kc_pivot_Join_l0 : ACode := c_pivot_Join_l0
def c_pivot_Join : ACode := .seq (.region [o (some p4) (.mov (.c .nilsl)),o (some p5) (.mov (.c (iv 0)))]) (.seq (.seq (.region [o (some p10) (.mov x0),o (some p11) (.call 228 [x10]),o (some p12) (.un .not x11),o (some p13) (.mov x12),og (some p14) (.mov x1) p13 false,og (some p15) (.call 228 [x14]) p13 false,og (some p16) (.un .not x15) p13 false,o (some p17) (.pick x13 (.c (.bool true)) x16),o (some p18) (.mov x17),og (some p19) (.mov x0) p18 false,og (some p20) (.len false x19) p18 false,og (some p21) (.mov x1) p18 false,og (some p22) (.len false x21) p18 false,og (some p23) (.bin .neq x20 x22) p18 false,o (some p24) (.pick x18 (.c (.bool true)) x23)]) (.cond x24 (.seq (.region [o (some p4) (.mov (.c .nilsl)),o (some p5) (.mov (.c (iv 1)))]) (.ret)) (.skip))) (.seq (.region [o (some p6) (.mov (.c .nilsl))]) (.seq (.seq (.region [o (some p25) (.mov x0),o (some p26) (.len false x25),o (some p27) (.mov (.c (iv 0)))]) (.block 0 (.loop kc_pivot_Join_l0))) (.seq (.region [o (some p55) (.mov x6),o (some p4) (.mov x55),o (some p5) (.mov (.c (iv 0)))]) (.ret)))))
def a206 : AFn := ⟨c_pivot_Join, [.t p4, .t p5]⟩
abbrev f_pivot_Join : Nat := 206
def c_zone_fields : ACode := .seq (.region [o (some p3) (.box x0),o (some p4) (.box x1),o (some p5) (.box x2),o (some p6) (.mov (.c .nilfn))]) (.seq (.region [o (some p7) (.mkfn 230 [] [x3, x4, x5]),o (some p6) (.mov x7)]) (.ret))
def a207 : AFn := ⟨c_zone_fields, [.t p6]⟩
abbrev f_zone_fields : Nat := 207
def c_slices_Concat_string_string_l0 : ACode := .seq (.region [o (some p12) (.bin .lss x11 x10)]) (.seq (.cond x12 (.skip) (.exit 0)) (.seq (.block 1 (.seq (.region [o (some p13) (.iaddrS 1 x9 x11),o (some p14) (.load x13 false 1),o (some p5) (.mov x14)]) (.seq (.region [o (some p15) (.mov x3),o (some p16) (.mov x5),o (some p17) (.len false x16),o (some p18) (.bin .add x15 x17),o (some p3) (.mov x18)]) (.seq (.region [o (some p19) (.mov x3),o (some p20) (.bin .lss x19 (.c (iv 0)))]) (.cond x20 (.region [o (some p21) (.mkif 9 (.c (.str (bs [108, 101, 110, 32, 111, 117, 116, 32, 111, 102, 32, 114, 97, 110, 103, 101])))),o none (.bad)]) (.skip)))))) (.region [o (some p22) (.bin .add x11 (.c (iv 1))),o (some p11) (.mov x22)])))
def kc_slices_Concat_string_string_l0 : ACode := c_slices_Concat_string_string_l0
def c_slices_Concat_string_string_l1 : ACode := .seq (.region [o (some p28) (.bin .lss x27 x26)]) (.seq (.cond x28 (.skip) (.exit 2)) (.seq (.block 3 (.seq (.region [o (some p29) (.iaddrS 1 x25 x27),o (some p30) (.load x29 false 1),o (some p8) (.mov x30)]) (.region [o (some p31) (.mov x6),o (some p32) (.mov x8),o (some p33) (.append 1 16 x31 x32),o (some p6) (.mov x33)]))) (.region [o (some p34) (.bin .add x27 (.c (iv 1))),o (some p27) (.mov x34)])))
def kc_slices_Concat_string_string_l1 : ACode := c_slices_Concat_string_string_l1
def c_slices_Concat_string_string : ACode := .seq (.region [o (some p2) (.mov (.c .nilsl))]) (.seq (.region [o (some p3) (.mov (.c (iv 0)))]) (.seq (.seq (.region [o (some p9) (.mov x0),o (some p10) (.len false x9),o (some p11) (.mov (.c (iv 0)))]) (.block 0 (.loop kc_slices_Concat_string_string_l0))) (.seq (.region [o (some p23) (.mov x3),o (some p24) (.call 231 [(.c .nilsl), x23]),o (some p6) (.mov x24)]) (.seq (.seq (.region [o (some p25) (.mov x0),o (some p26) (.len false x25),o (some p27) (.mov (.c (iv 0)))]) (.block 2 (.loop kc_slices_Concat_string_string_l1))) (.seq (.region [o (some p35) (.mov x6),o (some p2) (.mov x35)]) (.ret))))))
def a208 : AFn := ⟨c_slices_Concat_string_string, [.t p2]⟩
abbrev f_slices_Concat_string_string : Nat := 208
def c_tree_halves_1 : ACode := .seq (.region [o (some p4) (.load x1 false 1),o (some p5) (.len false x4),o (some p6) (.bin .add x5 (.c (iv 1))),o (some p7) (.bin .quo x6 (.c (iv 2))),o (some p3) (.mov x7)]) (.seq (.region [o (some p8) (.mov x0),o (some p9) (.load x1 false 1),o (some p10) (.mov x3),o (some p11) (.slice 9 x9 none (some x10) none),o (some p12) (.callv x8 [x11])]) (.cond x12 (.region [o (some p13) (.mov x0),o (some p14) (.load x1 false 1),o (some p15) (.mov x3),o (some p16) (.slice 9 x14 (some x15) none none),o (some p17) (.callv x13 [x16])]) (.skip)))
def a209 : AFn := ⟨c_tree_halves_1, []⟩
abbrev f_tree_halves_1 : Nat := 209
def c_slices_Min_int_int_l0 : ACode := .seq (.seq (.region [o (some p12) (.mov x4),o (some p13) (.mov x0),o (some p14) (.len false x13),o (some p15) (.bin .lss x12 x14)]) (.cond x15 (.skip) (.exit 0))) (.seq (.block 1 (.region [o (some p18) (.mov x3),o (some p19) (.mov x0),o (some p20) (.mov x4),o (some p21) (.iaddrS 1 x19 x20),o (some p22) (.load x21 false 1),o (some p23) (.mn [x18, x22]),o (some p3) (.mov x23)])) (.region [o (some p16) (.mov x4),o (some p17) (.bin .add x16 (.c (iv 1))),o (some p4) (.mov x17)]))
def kc_slices_Min_int_int_l0 : ACode := c_slices_Min_int_int_l0
def c_slices_Min_int_int : ACode := .seq (.region [o (some p2) (.mov (.c (iv 0)))]) (.seq (.seq (.region [o (some p5) (.mov x0),o (some p6) (.len false x5),o (some p7) (.bin .lss x6 (.c (iv 1)))]) (.cond x7 (.region [o (some p8) (.mkif 9 (.c (.str (bs [115, 108, 105, 99, 101, 115, 46, 77, 105, 110, 58, 32, 101, 109, 112, 116, 121, 32, 108, 105, 115, 116])))),o none (.bad)]) (.skip))) (.seq (.region [o (some p9) (.mov x0),o (some p10) (.iaddrS 1 x9 (.c (iv 0))),o (some p11) (.load x10 false 1),o (some p3) (.mov x11)]) (.seq (.seq (.region [o (some p4) (.mov (.c (iv 1)))]) (.block 0 (.loop kc_slices_Min_int_int_l0))) (.seq (.region [o (some p24) (.mov x3),o (some p2) (.mov x24)]) (.ret)))))
def a210 : AFn := ⟨c_slices_Min_int_int, [.t p2]⟩
abbrev f_slices_Min_int_int : Nat := 210
def c_slices_Values_api_Entry_api_Entry_1_211_l0 : ACode := .seq (.region [o (some p8) (.bin .lss x7 x6)]) (.seq (.cond x8 (.skip) (.exit 0)) (.seq (.block 1 (.seq (.region [o (some p9) (.iaddrS 1 x5 x7),o (some p10) (.load x9 false 1),o (some p4) (.mov x10)]) (.seq (.region [o (some p11) (.mov x0),o (some p12) (.mov x4),o (some p13) (.callv x11 [x12]),o (some p14) (.un .not x13)]) (.cond x14 (.ret) (.skip))))) (.region [o (some p15) (.bin .add x7 (.c (iv 1))),o (some p7) (.mov x15)])))
def kc_slices_Values_api_Entry_api_Entry_1_211_l0 : ACode := c_slices_Values_api_Entry_api_Entry_1_211_l0
def c_slices_Values_api_Entry_api_Entry_1_211 : ACode := .seq (.region [o (some p5) (.load x1 false 1),o (some p6) (.len false x5),o (some p7) (.mov (.c (iv 0)))]) (.block 0 (.loop kc_slices_Values_api_Entry_api_Entry_1_211_l0))
def a211 : AFn := ⟨c_slices_Values_api_Entry_api_Entry_1_211, []⟩
abbrev f_slices_Values_api_Entry_api_Entry_1_211 : Nat := 211
def c_slices_insertionSortOrdered_int_l1 : ACode := .seq (.seq (.draw [(.p, o (some p16) (.mov x7)),(.p, o (some p17) (.mov x1)),(.p, o (some p18) (.bin .gtr x16 x17)),(.p, o (some p19) (.mov x18)),(.p, og (some p20) (.mov x0) p19 true),(.p, og (some p21) (.mov x7) p19 true),(.p, og (some p22) (.iaddrS 1 x20 x21) p19 true),(.l 0 0, og (some p23) (.load x22 false 1) p19 true),(.p, og (some p24) (.mov x0) p19 true),(.p, og (some p25) (.mov x7) p19 true),(.p, og (some p26) (.bin .sub x25 (.c (iv 1))) p19 true),(.p, og (some p27) (.iaddrS 1 x24 x26) p19 true),(.l 0 0, og (some p28) (.load x27 false 1) p19 true),(.e, og (some p29) (.call 218 [x23, x28]) p19 true),(.p, o (some p30) (.pick x19 x29 (.c (.bool false))))]) (.cond x30 (.skip) (.exit 2))) (.seq (.block 3 (.draw [(.p, o (some p33) (.mov x0)),(.p, o (some p34) (.mov x7)),(.p, o (some p35) (.mov x0)),(.p, o (some p36) (.mov x7)),(.p, o (some p37) (.bin .sub x36 (.c (iv 1)))),(.p, o (some p38) (.mov x0)),(.p, o (some p39) (.mov x7)),(.p, o (some p40) (.bin .sub x39 (.c (iv 1)))),(.p, o (some p41) (.iaddrS 1 x38 x40)),(.l 0 0, o (some p42) (.load x41 false 1)),(.p, o (some p43) (.mov x0)),(.p, o (some p44) (.mov x7)),(.p, o (some p45) (.iaddrS 1 x43 x44)),(.l 0 0, o (some p46) (.load x45 false 1)),(.p, o (some p47) (.iaddrS 1 x33 x34)),(.e, o none (.store x47 x42 1)),(.p, o (some p48) (.iaddrS 1 x35 x37)),(.e, o none (.store x48 x46 1))])) (.region [o (some p31) (.mov x7),o (some p32) (.bin .sub x31 (.c (iv 1))),o (some p7) (.mov x32)]))
def kc_slices_insertionSortOrdered_int_l1 : ACode := c_slices_insertionSortOrdered_int_l1
def c_slices_insertionSortOrdered_int_l0 : ACode := .seq (.seq (.region [o (some p10) (.mov x6),o (some p11) (.mov x2),o (some p12) (.bin .lss x10 x11)]) (.cond x12 (.skip) (.exit 0))) (.seq (.block 1 (.seq (.region [o (some p15) (.mov x6),o (some p7) (.mov x15)]) (.block 2 (.loop kc_slices_insertionSortOrdered_int_l1)))) (.region [o (some p13) (.mov x6),o (some p14) (.bin .add x13 (.c (iv 1))),o (some p6) (.mov x14)]))
def kc_slices_insertionSortOrdered_int_l0 : ACode := c_slices_insertionSortOrdered_int_l0
def c_slices_insertionSortOrdered_int : ACode := .seq (.region [o (some p8) (.mov x1),o (some p9) (.bin .add x8 (.c (iv 1))),o (some p6) (.mov x9)]) (.block 0 (.loop kc_slices_insertionSortOrdered_int_l0))
def a212 : AFn := ⟨c_slices_insertionSortOrdered_int, []⟩
abbrev f_slices_insertionSortOrdered_int : Nat := 212
def c_slices_heapSortOrdered_int_l0 : ACode := .seq (.seq (.region [o (some p18) (.mov x9),o (some p19) (.bin .geq x18 (.c (iv 0)))]) (.cond x19 (.skip) (.exit 0))) (.seq (.block 1 (.region [o (some p22) (.mov x0),o (some p23) (.mov x9),o (some p24) (.mov x8),o (some p25) (.mov x6),o (some p26) (.call 232 [x22, x23, x24, x25])])) (.region [o (some p20) (.mov x9),o (some p21) (.bin .sub x20 (.c (iv 1))),o (some p9) (.mov x21)]))
def kc_slices_heapSortOrdered_int_l0 : ACode := c_slices_heapSortOrdered_int_l0
def c_slices_heapSortOrdered_int_l1 : ACode := .seq (.seq (.region [o (some p29) (.mov x10),o (some p30) (.bin .geq x29 (.c (iv 0)))]) (.cond x30 (.skip) (.exit 2))) (.seq (.block 3 (.seq (.draw [(.p, o (some p33) (.mov x0)),(.p, o (some p34) (.mov x6)),(.p, o (some p35) (.mov x0)),(.p, o (some p36) (.mov x6)),(.p, o (some p37) (.mov x10)),(.p, o (some p38) (.bin .add x36 x37)),(.p, o (some p39) (.mov x0)),(.p, o (some p40) (.mov x6)),(.p, o (some p41) (.mov x10)),(.p, o (some p42) (.bin .add x40 x41)),(.p, o (some p43) (.iaddrS 1 x39 x42)),(.l 0 0, o (some p44) (.load x43 false 1)),(.p, o (some p45) (.mov x0)),(.p, o (some p46) (.mov x6)),(.p, o (some p47) (.iaddrS 1 x45 x46)),(.l 0 0, o (some p48) (.load x47 false 1)),(.p, o (some p49) (.iaddrS 1 x33 x34)),(.e, o none (.store x49 x44 1)),(.p, o (some p50) (.iaddrS 1 x35 x38)),(.e, o none (.store x50 x48 1))]) (.region [o (some p51) (.mov x0),o (some p52) (.mov x7),o (some p53) (.mov x10),o (some p54) (.mov x6),o (some p55) (.call 232 [x51, x52, x53, x54])]))) (.region [o (some p31) (.mov x10),o (some p32) (.bin .sub x31 (.c (iv 1))),o (some p10) (.mov x32)]))
def kc_slices_heapSortOrdered_int_l1 : ACode := c_slices_heapSortOrdered_int_l1
def c_slices_heapSortOrdered_int : ACode := .seq (.region [o (some p11) (.mov x1),o (some p6) (.mov x11)]) (.seq (.region [o (some p7) (.mov (.c (iv 0)))]) (.seq (.region [o (some p12) (.mov x2),o (some p13) (.mov x1),o (some p14) (.bin .sub x12 x13),o (some p8) (.mov x14)]) (.seq (.seq (.region [o (some p15) (.mov x8),o (some p16) (.bin .sub x15 (.c (iv 1))),o (some p17) (.bin .quo x16 (.c (iv 2))),o (some p9) (.mov x17)]) (.block 0 (.loop kc_slices_heapSortOrdered_int_l0))) (.seq (.region [o (some p27) (.mov x8),o (some p28) (.bin .sub x27 (.c (iv 1))),o (some p10) (.mov x28)]) (.block 2 (.loop kc_slices_heapSortOrdered_int_l1))))))
def a213 : AFn := ⟨c_slices_heapSortOrdered_int, []⟩
abbrev f_slices_heapSortOrdered_int : Nat := 213
def c_slices_breakPatternsOrdered_int_l0 : ACode := .seq (.seq (.region [o (some p26) (.mov x9),o (some p27) (.mov x1),o (some p28) (.mov x6),o (some p29) (.bin .quo x28 (.c (iv 4))),o (some p30) (.bin .mul x29 (.c (iv 2))),o (some p31) (.bin .add x27 x30),o (some p32) (.bin .add x31 (.c (iv 1))),o (some p33) (.bin .leq x26 x32)]) (.cond x33 (.skip) (.exit 0))) (.seq (.block 1 (.seq (.region [o (some p36) (.call 223 [x7]),o (some p37) (.mov x8),o (some p38) (.bin .sub x37 (.c (.int .u64 1))),o (some p39) (.bin .and x36 x38),o (some p40) (.convI .i64 x39),o (some p10) (.mov x40)]) (.seq (.seq (.region [o (some p41) (.mov x10),o (some p42) (.mov x6),o (some p43) (.bin .geq x41 x42)]) (.cond x43 (.region [o (some p44) (.mov x10),o (some p45) (.mov x6),o (some p46) (.bin .sub x44 x45),o (some p10) (.mov x46)]) (.skip))) (.draw [(.p, o (some p47) (.mov x0)),(.p, o (some p48) (.mov x9)),(.p, o (some p49) (.mov x0)),(.p, o (some p50) (.mov x1)),(.p, o (some p51) (.mov x10)),(.p, o (some p52) (.bin .add x50 x51)),(.p, o (some p53) (.mov x0)),(.p, o (some p54) (.mov x1)),(.p, o (some p55) (.mov x10)),(.p, o (some p56) (.bin .add x54 x55)),(.p, o (some p57) (.iaddrS 1 x53 x56)),(.l 0 0, o (some p58) (.load x57 false 1)),(.p, o (some p59) (.mov x0)),(.p, o (some p60) (.mov x9)),(.p, o (some p61) (.iaddrS 1 x59 x60)),(.l 0 0, o (some p62) (.load x61 false 1)),(.p, o (some p63) (.iaddrS 1 x47 x48)),(.e, o none (.store x63 x58 1)),(.p, o (some p64) (.iaddrS 1 x49 x52)),(.e, o none (.store x64 x62 1))])))) (.region [o (some p34) (.mov x9),o (some p35) (.bin .add x34 (.c (iv 1))),o (some p9) (.mov x35)]))
def kc_slices_breakPatternsOrdered_int_l0 : ACode := c_slices_breakPatternsOrdered_int_l0
def c_slices_breakPatternsOrdered_int : ACode := .seq (.region [o (some p11) (.mov x2),o (some p12) (.mov x1),o (some p13) (.bin .sub x11 x12),o (some p6) (.mov x13)]) (.seq (.region [o (some p14) (.mov x6),o (some p15) (.bin .geq x14 (.c (iv 8)))]) (.cond x15 (.seq (.region [o (some p16) (.mov x6),o (some p17) (.convI .u64 x16),o (some p7) (.alloc [(.int .u64 0)]),o none (.store x7 x17 1)]) (.seq (.region [o (some p18) (.mov x6),o (some p19) (.call 222 [x18]),o (some p8) (.mov x19)]) (.seq (.region [o (some p20) (.mov x1),o (some p21) (.mov x6),o (some p22) (.bin .quo x21 (.c (iv 4))),o (some p23) (.bin .mul x22 (.c (iv 2))),o (some p24) (.bin .add x20 x23),o (some p25) (.bin .sub x24 (.c (iv 1))),o (some p9) (.mov x25)]) (.block 0 (.loop kc_slices_breakPatternsOrdered_int_l0))))) (.skip)))
def a214 : AFn := ⟨c_slices_breakPatternsOrdered_int, []⟩
abbrev f_slices_breakPatternsOrdered_int : Nat := 214
def c_slices_choosePivotOrdered_int : ACode := .seq (.region [o (some p6) (.mov (.c (iv 0))),o (some p7) (.mov (.c (iv 0)))]) (.seq (.region [o (some p13) (.mov x2),o (some p14) (.mov x1),o (some p15) (.bin .sub x13 x14),o (some p8) (.mov x15)]) (.seq (.region [o (some p9) (.alloc [(iv 0)])]) (.seq (.region [o (some p16) (.mov x1),o (some p17) (.mov x8),o (some p18) (.bin .quo x17 (.c (iv 4))),o (some p19) (.bin .mul x18 (.c (iv 1))),o (some p20) (.bin .add x16 x19),o (some p10) (.mov x20)]) (.seq (.region [o (some p21) (.mov x1),o (some p22) (.mov x8),o (some p23) (.bin .quo x22 (.c (iv 4))),o (some p24) (.bin .mul x23 (.c (iv 2))),o (some p25) (.bin .add x21 x24),o (some p11) (.mov x25)]) (.seq (.region [o (some p26) (.mov x1),o (some p27) (.mov x8),o (some p28) (.bin .quo x27 (.c (iv 4))),o (some p29) (.bin .mul x28 (.c (iv 3))),o (some p30) (.bin .add x26 x29),o (some p12) (.mov x30)]) (.seq (.seq (.region [o (some p31) (.mov x8),o (some p32) (.bin .geq x31 (.c (iv 8)))]) (.cond x32 (.seq (.seq (.region [o (some p33) (.mov x8),o (some p34) (.bin .geq x33 (.c (iv 50)))]) (.cond x34 (.seq (.region [o (some p35) (.mov x0),o (some p36) (.mov x10),o (some p37) (.call 233 [x35, x36, x9]),o (some p10) (.mov x37)]) (.seq (.region [o (some p38) (.mov x0),o (some p39) (.mov x11),o (some p40) (.call 233 [x38, x39, x9]),o (some p11) (.mov x40)]) (.region [o (some p41) (.mov x0),o (some p42) (.mov x12),o (some p43) (.call 233 [x41, x42, x9]),o (some p12) (.mov x43)]))) (.skip))) (.region [o (some p44) (.mov x0),o (some p45) (.mov x10),o (some p46) (.mov x11),o (some p47) (.mov x12),o (some p48) (.call 234 [x44, x45, x46, x47, x9]),o (some p11) (.mov x48)])) (.skip))) (.seq (.region [o (some p49) (.load x9 false 1)]) (.block 0 (.seq (.region [o (some p52) (.bin .eql x49 (.c (iv 0))),o (some p51) (.mov x52)]) (.cond x51 (.seq (.region [o (some p53) (.mov x11),o (some p6) (.mov x53),o (some p7) (.mov (.c (iv 1)))]) (.ret)) (.seq (.region [o (some p55) (.bin .eql x49 (.c (iv 12))),o (some p54) (.mov x55)]) (.cond x54 (.seq (.region [o (some p56) (.mov x11),o (some p6) (.mov x56),o (some p7) (.mov (.c (iv 2)))]) (.ret)) (.seq (.region [o (some p50) (.mov x11),o (some p6) (.mov x50),o (some p7) (.mov (.c (iv 0)))]) (.ret))))))))))))))
def a215 : AFn := ⟨c_slices_choosePivotOrdered_int, [.t p6, .t p7]⟩
abbrev f_slices_choosePivotOrdered_int : Nat := 215
def c_slices_reverseRangeOrdered_int_l0 : ACode := .seq (.seq (.region [o (some p11) (.mov x6),o (some p12) (.mov x7),o (some p13) (.bin .lss x11 x12)]) (.cond x13 (.skip) (.exit 0))) (.block 1 (.seq (.draw [(.p, o (some p14) (.mov x0)),(.p, o (some p15) (.mov x6)),(.p, o (some p16) (.mov x0)),(.p, o (some p17) (.mov x7)),(.p, o (some p18) (.mov x0)),(.p, o (some p19) (.mov x7)),(.p, o (some p20) (.iaddrS 1 x18 x19)),(.l 0 0, o (some p21) (.load x20 false 1)),(.p, o (some p22) (.mov x0)),(.p, o (some p23) (.mov x6)),(.p, o (some p24) (.iaddrS 1 x22 x23)),(.l 0 0, o (some p25) (.load x24 false 1)),(.p, o (some p26) (.iaddrS 1 x14 x15)),(.e, o none (.store x26 x21 1)),(.p, o (some p27) (.iaddrS 1 x16 x17)),(.e, o none (.store x27 x25 1))]) (.seq (.region [o (some p28) (.mov x6),o (some p29) (.bin .add x28 (.c (iv 1))),o (some p6) (.mov x29)]) (.region [o (some p30) (.mov x7),o (some p31) (.bin .sub x30 (.c (iv 1))),o (some p7) (.mov x31)]))))
def kc_slices_reverseRangeOrdered_int_l0 : ACode := c_slices_reverseRangeOrdered_int_l0
def c_slices_reverseRangeOrdered_int : ACode := .seq (.region [o (some p8) (.mov x1),o (some p6) (.mov x8)]) (.seq (.region [o (some p9) (.mov x2),o (some p10) (.bin .sub x9 (.c (iv 1))),o (some p7) (.mov x10)]) (.block 0 (.loop kc_slices_reverseRangeOrdered_int_l0)))
def a216 : AFn := ⟨c_slices_reverseRangeOrdered_int, []⟩
abbrev f_slices_reverseRangeOrdered_int : Nat := 216
def c_slices_partialInsertionSortOrdered_int_l1 : ACode := .seq (.seq (.draw [(.p, o (some p17) (.mov x7)),(.p, o (some p18) (.mov x2)),(.p, o (some p19) (.bin .lss x17 x18)),(.p, o (some p20) (.mov x19)),(.p, og (some p21) (.mov x0) p20 true),(.p, og (some p22) (.mov x7) p20 true),(.p, og (some p23) (.iaddrS 1 x21 x22) p20 true),(.l 0 0, og (some p24) (.load x23 false 1) p20 true),(.p, og (some p25) (.mov x0) p20 true),(.p, og (some p26) (.mov x7) p20 true),(.p, og (some p27) (.bin .sub x26 (.c (iv 1))) p20 true),(.p, og (some p28) (.iaddrS 1 x25 x27) p20 true),(.l 0 0, og (some p29) (.load x28 false 1) p20 true),(.e, og (some p30) (.call 218 [x24, x29]) p20 true),(.p, og (some p31) (.un .not x30) p20 true),(.p, o (some p32) (.pick x20 x31 (.c (.bool false))))]) (.cond x32 (.skip) (.exit 2))) (.block 3 (.region [o (some p33) (.mov x7),o (some p34) (.bin .add x33 (.c (iv 1))),o (some p7) (.mov x34)]))
def kc_slices_partialInsertionSortOrdered_int_l1 : ACode := c_slices_partialInsertionSortOrdered_int_l1
def c_slices_partialInsertionSortOrdered_int_l2 : ACode := .seq (.seq (.region [o (some p64) (.mov x9),o (some p65) (.bin .geq x64 (.c (iv 1)))]) (.cond x65 (.skip) (.exit 4))) (.seq (.block 5 (.seq (.seq (.draw [(.p, o (some p68) (.mov x0)),(.p, o (some p69) (.mov x9)),(.p, o (some p70) (.iaddrS 1 x68 x69)),(.l 0 0, o (some p71) (.load x70 false 1)),(.p, o (some p72) (.mov x0)),(.p, o (some p73) (.mov x9)),(.p, o (some p74) (.bin .sub x73 (.c (iv 1)))),(.p, o (some p75) (.iaddrS 1 x72 x74)),(.l 0 0, o (some p76) (.load x75 false 1)),(.e, o (some p77) (.call 218 [x71, x76])),(.p, o (some p78) (.un .not x77))]) (.cond x78 (.exit 4) (.skip))) (.draw [(.p, o (some p79) (.mov x0)),(.p, o (some p80) (.mov x9)),(.p, o (some p81) (.mov x0)),(.p, o (some p82) (.mov x9)),(.p, o (some p83) (.bin .sub x82 (.c (iv 1)))),(.p, o (some p84) (.mov x0)),(.p, o (some p85) (.mov x9)),(.p, o (some p86) (.bin .sub x85 (.c (iv 1)))),(.p, o (some p87) (.iaddrS 1 x84 x86)),(.l 0 0, o (some p88) (.load x87 false 1)),(.p, o (some p89) (.mov x0)),(.p, o (some p90) (.mov x9)),(.p, o (some p91) (.iaddrS 1 x89 x90)),(.l 0 0, o (some p92) (.load x91 false 1)),(.p, o (some p93) (.iaddrS 1 x79 x80)),(.e, o none (.store x93 x88 1)),(.p, o (some p94) (.iaddrS 1 x81 x83)),(.e, o none (.store x94 x92 1))]))) (.region [o (some p66) (.mov x9),o (some p67) (.bin .sub x66 (.c (iv 1))),o (some p9) (.mov x67)]))
def kc_slices_partialInsertionSortOrdered_int_l2 : ACode := c_slices_partialInsertionSortOrdered_int_l2
def c_slices_partialInsertionSortOrdered_int_l3 : ACode := .seq (.seq (.region [o (some p101) (.mov x10),o (some p102) (.mov x2),o (some p103) (.bin .lss x101 x102)]) (.cond x103 (.skip) (.exit 6))) (.seq (.block 7 (.seq (.seq (.draw [(.p, o (some p106) (.mov x0)),(.p, o (some p107) (.mov x10)),(.p, o (some p108) (.iaddrS 1 x106 x107)),(.l 0 0, o (some p109) (.load x108 false 1)),(.p, o (some p110) (.mov x0)),(.p, o (some p111) (.mov x10)),(.p, o (some p112) (.bin .sub x111 (.c (iv 1)))),(.p, o (some p113) (.iaddrS 1 x110 x112)),(.l 0 0, o (some p114) (.load x113 false 1)),(.e, o (some p115) (.call 218 [x109, x114])),(.p, o (some p116) (.un .not x115))]) (.cond x116 (.exit 6) (.skip))) (.draw [(.p, o (some p117) (.mov x0)),(.p, o (some p118) (.mov x10)),(.p, o (some p119) (.mov x0)),(.p, o (some p120) (.mov x10)),(.p, o (some p121) (.bin .sub x120 (.c (iv 1)))),(.p, o (some p122) (.mov x0)),(.p, o (some p123) (.mov x10)),(.p, o (some p124) (.bin .sub x123 (.c (iv 1)))),(.p, o (some p125) (.iaddrS 1 x122 x124)),(.l 0 0, o (some p126) (.load x125 false 1)),(.p, o (some p127) (.mov x0)),(.p, o (some p128) (.mov x10)),(.p, o (some p129) (.iaddrS 1 x127 x128)),(.l 0 0, o (some p130) (.load x129 false 1)),(.p, o (some p131) (.iaddrS 1 x117 x118)),(.e, o none (.store x131 x126 1)),(.p, o (some p132) (.iaddrS 1 x119 x121)),(.e, o none (.store x132 x130 1))]))) (.region [o (some p104) (.mov x10),o (some p105) (.bin .add x104 (.c (iv 1))),o (some p10) (.mov x105)]))
def kc_slices_partialInsertionSortOrdered_int_l3 : ACode := c_slices_partialInsertionSortOrdered_int_l3
def c_slices_partialInsertionSortOrdered_int_l0 : ACode := .seq (.seq (.region [o (some p13) (.mov x8),o (some p14) (.bin .lss x13 (.c (iv 5)))]) (.cond x14 (.skip) (.exit 0))) (.seq (.block 1 (.seq (.block 2 (.loop kc_slices_partialInsertionSortOrdered_int_l1)) (.seq (.seq (.region [o (some p35) (.mov x7),o (some p36) (.mov x2),o (some p37) (.bin .eql x35 x36)]) (.cond x37 (.seq (.region [o (some p6) (.mov (.c (.bool true)))]) (.ret)) (.skip))) (.seq (.seq (.region [o (some p38) (.mov x2),o (some p39) (.mov x1),o (some p40) (.bin .sub x38 x39),o (some p41) (.bin .lss x40 (.c (iv 50)))]) (.cond x41 (.seq (.region [o (some p6) (.mov (.c (.bool false)))]) (.ret)) (.skip))) (.seq (.draw [(.p, o (some p42) (.mov x0)),(.p, o (some p43) (.mov x7)),(.p, o (some p44) (.mov x0)),(.p, o (some p45) (.mov x7)),(.p, o (some p46) (.bin .sub x45 (.c (iv 1)))),(.p, o (some p47) (.mov x0)),(.p, o (some p48) (.mov x7)),(.p, o (some p49) (.bin .sub x48 (.c (iv 1)))),(.p, o (some p50) (.iaddrS 1 x47 x49)),(.l 0 0, o (some p51) (.load x50 false 1)),(.p, o (some p52) (.mov x0)),(.p, o (some p53) (.mov x7)),(.p, o (some p54) (.iaddrS 1 x52 x53)),(.l 0 0, o (some p55) (.load x54 false 1)),(.p, o (some p56) (.iaddrS 1 x42 x43)),(.e, o none (.store x56 x51 1)),(.p, o (some p57) (.iaddrS 1 x44 x46)),(.e, o none (.store x57 x55 1))]) (.seq (.seq (.region [o (some p58) (.mov x7),o (some p59) (.mov x1),o (some p60) (.bin .sub x58 x59),o (some p61) (.bin .geq x60 (.c (iv 2)))]) (.cond x61 (.seq (.region [o (some p62) (.mov x7),o (some p63) (.bin .sub x62 (.c (iv 1))),o (some p9) (.mov x63)]) (.block 4 (.loop kc_slices_partialInsertionSortOrdered_int_l2))) (.skip))) (.seq (.region [o (some p95) (.mov x2),o (some p96) (.mov x7),o (some p97) (.bin .sub x95 x96),o (some p98) (.bin .geq x97 (.c (iv 2)))]) (.cond x98 (.seq (.region [o (some p99) (.mov x7),o (some p100) (.bin .add x99 (.c (iv 1))),o (some p10) (.mov x100)]) (.block 6 (.loop kc_slices_partialInsertionSortOrdered_int_l3))) (.skip))))))))) (.region [o (some p15) (.mov x8),o (some p16) (.bin .add x15 (.c (iv 1))),o (some p8) (.mov x16)]))
def kc_slices_partialInsertionSortOrdered_int_l0 : ACode := c_slices_partialInsertionSortOrdered_int_l0
def c_slices_partialInsertionSortOrdered_int : ACode := .seq (.region [o (some p6) (.mov (.c (.bool false)))]) (.seq (.region [o (some p11) (.mov x1),o (some p12) (.bin .add x11 (.c (iv 1))),o (some p7) (.mov x12)]) (.seq (.seq (.region [o (some p8) (.mov (.c (iv 0)))]) (.block 0 (.loop kc_slices_partialInsertionSortOrdered_int_l0))) (.seq (.region [o (some p6) (.mov (.c (.bool false)))]) (.ret))))
def a217 : AFn := ⟨c_slices_partialInsertionSortOrdered_int, [.t p6]⟩
abbrev f_slices_partialInsertionSortOrdered_int : Nat := 217
def c_cmp_Less_int : ACode := .seq (.region [o (some p4) (.mov (.c (.bool false)))]) (.seq (.region [o (some p5) (.mov x0),o (some p6) (.call 75 [x5]),o (some p7) (.mov x6),og (some p8) (.mov x1) p7 true,og (some p9) (.call 75 [x8]) p7 true,og (some p10) (.un .not x9) p7 true,o (some p11) (.pick x7 x10 (.c (.bool false))),o (some p12) (.mov x11),og (some p13) (.mov x0) p12 false,og (some p14) (.mov x1) p12 false,og (some p15) (.bin .lss x13 x14) p12 false,o (some p16) (.pick x12 (.c (.bool true)) x15),o (some p4) (.mov x16)]) (.ret))
def a218 : AFn := ⟨c_cmp_Less_int, [.t p4]⟩
abbrev f_cmp_Less_int : Nat := 218
def c_slices_partitionEqualOrdered_int_l1 : ACode := .seq (.seq (.draw [(.p, o (some p29) (.mov x9)),(.p, o (some p30) (.mov x10)),(.p, o (some p31) (.bin .leq x29 x30)),(.p, o (some p32) (.mov x31)),(.p, og (some p33) (.mov x0) p32 true),(.p, og (some p34) (.mov x1) p32 true),(.p, og (some p35) (.iaddrS 1 x33 x34) p32 true),(.l 0 0, og (some p36) (.load x35 false 1) p32 true),(.p, og (some p37) (.mov x0) p32 true),(.p, og (some p38) (.mov x9) p32 true),(.p, og (some p39) (.iaddrS 1 x37 x38) p32 true),(.l 0 0, og (some p40) (.load x39 false 1) p32 true),(.e, og (some p41) (.call 218 [x36, x40]) p32 true),(.p, og (some p42) (.un .not x41) p32 true),(.p, o (some p43) (.pick x32 x42 (.c (.bool false))))]) (.cond x43 (.skip) (.exit 2))) (.block 3 (.region [o (some p44) (.mov x9),o (some p45) (.bin .add x44 (.c (iv 1))),o (some p9) (.mov x45)]))
def kc_slices_partitionEqualOrdered_int_l1 : ACode := c_slices_partitionEqualOrdered_int_l1
def c_slices_partitionEqualOrdered_int_l2 : ACode := .seq (.seq (.draw [(.p, o (some p46) (.mov x9)),(.p, o (some p47) (.mov x10)),(.p, o (some p48) (.bin .leq x46 x47)),(.p, o (some p49) (.mov x48)),(.p, og (some p50) (.mov x0) p49 true),(.p, og (some p51) (.mov x1) p49 true),(.p, og (some p52) (.iaddrS 1 x50 x51) p49 true),(.l 0 0, og (some p53) (.load x52 false 1) p49 true),(.p, og (some p54) (.mov x0) p49 true),(.p, og (some p55) (.mov x10) p49 true),(.p, og (some p56) (.iaddrS 1 x54 x55) p49 true),(.l 0 0, og (some p57) (.load x56 false 1) p49 true),(.e, og (some p58) (.call 218 [x53, x57]) p49 true),(.p, o (some p59) (.pick x49 x58 (.c (.bool false))))]) (.cond x59 (.skip) (.exit 4))) (.block 5 (.region [o (some p60) (.mov x10),o (some p61) (.bin .sub x60 (.c (iv 1))),o (some p10) (.mov x61)]))
def kc_slices_partitionEqualOrdered_int_l2 : ACode := c_slices_partitionEqualOrdered_int_l2
def c_slices_partitionEqualOrdered_int_l0 : ACode := .block 1 (.seq (.block 2 (.loop kc_slices_partitionEqualOrdered_int_l1)) (.seq (.block 4 (.loop kc_slices_partitionEqualOrdered_int_l2)) (.seq (.seq (.region [o (some p62) (.mov x9),o (some p63) (.mov x10),o (some p64) (.bin .gtr x62 x63)]) (.cond x64 (.exit 0) (.skip))) (.seq (.draw [(.p, o (some p65) (.mov x0)),(.p, o (some p66) (.mov x9)),(.p, o (some p67) (.mov x0)),(.p, o (some p68) (.mov x10)),(.p, o (some p69) (.mov x0)),(.p, o (some p70) (.mov x10)),(.p, o (some p71) (.iaddrS 1 x69 x70)),(.l 0 0, o (some p72) (.load x71 false 1)),(.p, o (some p73) (.mov x0)),(.p, o (some p74) (.mov x9)),(.p, o (some p75) (.iaddrS 1 x73 x74)),(.l 0 0, o (some p76) (.load x75 false 1)),(.p, o (some p77) (.iaddrS 1 x65 x66)),(.e, o none (.store x77 x72 1)),(.p, o (some p78) (.iaddrS 1 x67 x68)),(.e, o none (.store x78 x76 1))]) (.seq (.region [o (some p79) (.mov x9),o (some p80) (.bin .add x79 (.c (iv 1))),o (some p9) (.mov x80)]) (.region [o (some p81) (.mov x10),o (some p82) (.bin .sub x81 (.c (iv 1))),o (some p10) (.mov x82)]))))))
def kc_slices_partitionEqualOrdered_int_l0 : ACode := c_slices_partitionEqualOrdered_int_l0
def c_slices_partitionEqualOrdered_int : ACode := .seq (.region [o (some p8) (.mov (.c (iv 0)))]) (.seq (.draw [(.p, o (some p11) (.mov x0)),(.p, o (some p12) (.mov x1)),(.p, o (some p13) (.mov x0)),(.p, o (some p14) (.mov x3)),(.p, o (some p15) (.mov x0)),(.p, o (some p16) (.mov x3)),(.p, o (some p17) (.iaddrS 1 x15 x16)),(.l 0 0, o (some p18) (.load x17 false 1)),(.p, o (some p19) (.mov x0)),(.p, o (some p20) (.mov x1)),(.p, o (some p21) (.iaddrS 1 x19 x20)),(.l 0 0, o (some p22) (.load x21 false 1)),(.p, o (some p23) (.iaddrS 1 x11 x12)),(.e, o none (.store x23 x18 1)),(.p, o (some p24) (.iaddrS 1 x13 x14)),(.e, o none (.store x24 x22 1))]) (.seq (.region [o (some p25) (.mov x1),o (some p26) (.bin .add x25 (.c (iv 1))),o (some p27) (.mov x2),o (some p28) (.bin .sub x27 (.c (iv 1))),o (some p9) (.mov x26),o (some p10) (.mov x28)]) (.seq (.block 0 (.loop kc_slices_partitionEqualOrdered_int_l0)) (.seq (.region [o (some p83) (.mov x9),o (some p8) (.mov x83)]) (.ret)))))
def a219 : AFn := ⟨c_slices_partitionEqualOrdered_int, [.t p8]⟩
abbrev f_slices_partitionEqualOrdered_int : Nat := 219
def c_slices_partitionOrdered_int_l0 : ACode := .seq (.seq (.draw [(.p, o (some p30) (.mov x10)),(.p, o (some p31) (.mov x11)),(.p, o (some p32) (.bin .leq x30 x31)),(.p, o (some p33) (.mov x32)),(.p, og (some p34) (.mov x0) p33 true),(.p, og (some p35) (.mov x10) p33 true),(.p, og (some p36) (.iaddrS 1 x34 x35) p33 true),(.l 0 0, og (some p37) (.load x36 false 1) p33 true),(.p, og (some p38) (.mov x0) p33 true),(.p, og (some p39) (.mov x1) p33 true),(.p, og (some p40) (.iaddrS 1 x38 x39) p33 true),(.l 0 0, og (some p41) (.load x40 false 1) p33 true),(.e, og (some p42) (.call 218 [x37, x41]) p33 true),(.p, o (some p43) (.pick x33 x42 (.c (.bool false))))]) (.cond x43 (.skip) (.exit 0))) (.block 1 (.region [o (some p44) (.mov x10),o (some p45) (.bin .add x44 (.c (iv 1))),o (some p10) (.mov x45)]))
def kc_slices_partitionOrdered_int_l0 : ACode := c_slices_partitionOrdered_int_l0
def c_slices_partitionOrdered_int_l1 : ACode := .seq (.seq (.draw [(.p, o (some p46) (.mov x10)),(.p, o (some p47) (.mov x11)),(.p, o (some p48) (.bin .leq x46 x47)),(.p, o (some p49) (.mov x48)),(.p, og (some p50) (.mov x0) p49 true),(.p, og (some p51) (.mov x11) p49 true),(.p, og (some p52) (.iaddrS 1 x50 x51) p49 true),(.l 0 0, og (some p53) (.load x52 false 1) p49 true),(.p, og (some p54) (.mov x0) p49 true),(.p, og (some p55) (.mov x1) p49 true),(.p, og (some p56) (.iaddrS 1 x54 x55) p49 true),(.l 0 0, og (some p57) (.load x56 false 1) p49 true),(.e, og (some p58) (.call 218 [x53, x57]) p49 true),(.p, og (some p59) (.un .not x58) p49 true),(.p, o (some p60) (.pick x49 x59 (.c (.bool false))))]) (.cond x60 (.skip) (.exit 2))) (.block 3 (.region [o (some p61) (.mov x11),o (some p62) (.bin .sub x61 (.c (iv 1))),o (some p11) (.mov x62)]))
def kc_slices_partitionOrdered_int_l1 : ACode := c_slices_partitionOrdered_int_l1
def c_slices_partitionOrdered_int_l3 : ACode := .seq (.seq (.draw [(.p, o (some p99) (.mov x10)),(.p, o (some p100) (.mov x11)),(.p, o (some p101) (.bin .leq x99 x100)),(.p, o (some p102) (.mov x101)),(.p, og (some p103) (.mov x0) p102 true),(.p, og (some p104) (.mov x10) p102 true),(.p, og (some p105) (.iaddrS 1 x103 x104) p102 true),(.l 0 0, og (some p106) (.load x105 false 1) p102 true),(.p, og (some p107) (.mov x0) p102 true),(.p, og (some p108) (.mov x1) p102 true),(.p, og (some p109) (.iaddrS 1 x107 x108) p102 true),(.l 0 0, og (some p110) (.load x109 false 1) p102 true),(.e, og (some p111) (.call 218 [x106, x110]) p102 true),(.p, o (some p112) (.pick x102 x111 (.c (.bool false))))]) (.cond x112 (.skip) (.exit 6))) (.block 7 (.region [o (some p113) (.mov x10),o (some p114) (.bin .add x113 (.c (iv 1))),o (some p10) (.mov x114)]))
def kc_slices_partitionOrdered_int_l3 : ACode := c_slices_partitionOrdered_int_l3
def c_slices_partitionOrdered_int_l4 : ACode := .seq (.seq (.draw [(.p, o (some p115) (.mov x10)),(.p, o (some p116) (.mov x11)),(.p, o (some p117) (.bin .leq x115 x116)),(.p, o (some p118) (.mov x117)),(.p, og (some p119) (.mov x0) p118 true),(.p, og (some p120) (.mov x11) p118 true),(.p, og (some p121) (.iaddrS 1 x119 x120) p118 true),(.l 0 0, og (some p122) (.load x121 false 1) p118 true),(.p, og (some p123) (.mov x0) p118 true),(.p, og (some p124) (.mov x1) p118 true),(.p, og (some p125) (.iaddrS 1 x123 x124) p118 true),(.l 0 0, og (some p126) (.load x125 false 1) p118 true),(.e, og (some p127) (.call 218 [x122, x126]) p118 true),(.p, og (some p128) (.un .not x127) p118 true),(.p, o (some p129) (.pick x118 x128 (.c (.bool false))))]) (.cond x129 (.skip) (.exit 8))) (.block 9 (.region [o (some p130) (.mov x11),o (some p131) (.bin .sub x130 (.c (iv 1))),o (some p11) (.mov x131)]))
def kc_slices_partitionOrdered_int_l4 : ACode := c_slices_partitionOrdered_int_l4
def c_slices_partitionOrdered_int_l2 : ACode := .block 5 (.seq (.block 6 (.loop kc_slices_partitionOrdered_int_l3)) (.seq (.block 8 (.loop kc_slices_partitionOrdered_int_l4)) (.seq (.seq (.region [o (some p132) (.mov x10),o (some p133) (.mov x11),o (some p134) (.bin .gtr x132 x133)]) (.cond x134 (.exit 4) (.skip))) (.seq (.draw [(.p, o (some p135) (.mov x0)),(.p, o (some p136) (.mov x10)),(.p, o (some p137) (.mov x0)),(.p, o (some p138) (.mov x11)),(.p, o (some p139) (.mov x0)),(.p, o (some p140) (.mov x11)),(.p, o (some p141) (.iaddrS 1 x139 x140)),(.l 0 0, o (some p142) (.load x141 false 1)),(.p, o (some p143) (.mov x0)),(.p, o (some p144) (.mov x10)),(.p, o (some p145) (.iaddrS 1 x143 x144)),(.l 0 0, o (some p146) (.load x145 false 1)),(.p, o (some p147) (.iaddrS 1 x135 x136)),(.e, o none (.store x147 x142 1)),(.p, o (some p148) (.iaddrS 1 x137 x138)),(.e, o none (.store x148 x146 1))]) (.seq (.region [o (some p149) (.mov x10),o (some p150) (.bin .add x149 (.c (iv 1))),o (some p10) (.mov x150)]) (.region [o (some p151) (.mov x11),o (some p152) (.bin .sub x151 (.c (iv 1))),o (some p11) (.mov x152)]))))))
def kc_slices_partitionOrdered_int_l2 : ACode := c_slices_partitionOrdered_int_l2
def c_slices_partitionOrdered_int : ACode := .seq (.region [o (some p8) (.mov (.c (iv 0))),o (some p9) (.mov (.c (.bool false)))]) (.seq (.draw [(.p, o (some p12) (.mov x0)),(.p, o (some p13) (.mov x1)),(.p, o (some p14) (.mov x0)),(.p, o (some p15) (.mov x3)),(.p, o (some p16) (.mov x0)),(.p, o (some p17) (.mov x3)),(.p, o (some p18) (.iaddrS 1 x16 x17)),(.l 0 0, o (some p19) (.load x18 false 1)),(.p, o (some p20) (.mov x0)),(.p, o (some p21) (.mov x1)),(.p, o (some p22) (.iaddrS 1 x20 x21)),(.l 0 0, o (some p23) (.load x22 false 1)),(.p, o (some p24) (.iaddrS 1 x12 x13)),(.e, o none (.store x24 x19 1)),(.p, o (some p25) (.iaddrS 1 x14 x15)),(.e, o none (.store x25 x23 1))]) (.seq (.region [o (some p26) (.mov x1),o (some p27) (.bin .add x26 (.c (iv 1))),o (some p28) (.mov x2),o (some p29) (.bin .sub x28 (.c (iv 1))),o (some p10) (.mov x27),o (some p11) (.mov x29)]) (.seq (.block 0 (.loop kc_slices_partitionOrdered_int_l0)) (.seq (.block 2 (.loop kc_slices_partitionOrdered_int_l1)) (.seq (.seq (.region [o (some p63) (.mov x10),o (some p64) (.mov x11),o (some p65) (.bin .gtr x63 x64)]) (.cond x65 (.seq (.draw [(.p, o (some p66) (.mov x0)),(.p, o (some p67) (.mov x11)),(.p, o (some p68) (.mov x0)),(.p, o (some p69) (.mov x1)),(.p, o (some p70) (.mov x0)),(.p, o (some p71) (.mov x1)),(.p, o (some p72) (.iaddrS 1 x70 x71)),(.l 0 0, o (some p73) (.load x72 false 1)),(.p, o (some p74) (.mov x0)),(.p, o (some p75) (.mov x11)),(.p, o (some p76) (.iaddrS 1 x74 x75)),(.l 0 0, o (some p77) (.load x76 false 1)),(.p, o (some p78) (.iaddrS 1 x66 x67)),(.e, o none (.store x78 x73 1)),(.p, o (some p79) (.iaddrS 1 x68 x69)),(.e, o none (.store x79 x77 1))]) (.seq (.region [o (some p80) (.mov x11),o (some p8) (.mov x80),o (some p9) (.mov (.c (.bool true)))]) (.ret))) (.skip))) (.seq (.draw [(.p, o (some p81) (.mov x0)),(.p, o (some p82) (.mov x10)),(.p, o (some p83) (.mov x0)),(.p, o (some p84) (.mov x11)),(.p, o (some p85) (.mov x0)),(.p, o (some p86) (.mov x11)),(.p, o (some p87) (.iaddrS 1 x85 x86)),(.l 0 0, o (some p88) (.load x87 false 1)),(.p, o (some p89) (.mov x0)),(.p, o (some p90) (.mov x10)),(.p, o (some p91) (.iaddrS 1 x89 x90)),(.l 0 0, o (some p92) (.load x91 false 1)),(.p, o (some p93) (.iaddrS 1 x81 x82)),(.e, o none (.store x93 x88 1)),(.p, o (some p94) (.iaddrS 1 x83 x84)),(.e, o none (.store x94 x92 1))]) (.seq (.region [o (some p95) (.mov x10),o (some p96) (.bin .add x95 (.c (iv 1))),o (some p10) (.mov x96)]) (.seq (.region [o (some p97) (.mov x11),o (some p98) (.bin .sub x97 (.c (iv 1))),o (some p11) (.mov x98)]) (.seq (.block 4 (.loop kc_slices_partitionOrdered_int_l2)) (.seq (.draw [(.p, o (some p153) (.mov x0)),(.p, o (some p154) (.mov x11)),(.p, o (some p155) (.mov x0)),(.p, o (some p156) (.mov x1)),(.p, o (some p157) (.mov x0)),(.p, o (some p158) (.mov x1)),(.p, o (some p159) (.iaddrS 1 x157 x158)),(.l 0 0, o (some p160) (.load x159 false 1)),(.p, o (some p161) (.mov x0)),(.p, o (some p162) (.mov x11)),(.p, o (some p163) (.iaddrS 1 x161 x162)),(.l 0 0, o (some p164) (.load x163 false 1)),(.p, o (some p165) (.iaddrS 1 x153 x154)),(.e, o none (.store x165 x160 1)),(.p, o (some p166) (.iaddrS 1 x155 x156)),(.e, o none (.store x166 x164 1))]) (.seq (.region [o (some p167) (.mov x11),o (some p8) (.mov x167),o (some p9) (.mov (.c (.bool false)))]) (.ret))))))))))))
def a220 : AFn := ⟨c_slices_partitionOrdered_int, [.t p8, .t p9]⟩
abbrev f_slices_partitionOrdered_int : Nat := 220
def c_slices_siftDownOrdered_string_l0 : ACode := .block 1 (.seq (.region [o (some p11) (.mov x8),o (some p12) (.bin .mul (.c (iv 2)) x11),o (some p13) (.bin .add x12 (.c (iv 1))),o (some p9) (.mov x13)]) (.seq (.seq (.region [o (some p14) (.mov x9),o (some p15) (.mov x2),o (some p16) (.bin .geq x14 x15)]) (.cond x16 (.exit 0) (.skip))) (.seq (.seq (.draw [(.p, o (some p17) (.mov x9)),(.p, o (some p18) (.bin .add x17 (.c (iv 1)))),(.p, o (some p19) (.mov x2)),(.p, o (some p20) (.bin .lss x18 x19)),(.p, o (some p21) (.mov x20)),(.p, og (some p22) (.mov x0) p21 true),(.p, og (some p23) (.mov x3) p21 true),(.p, og (some p24) (.mov x9) p21 true),(.p, og (some p25) (.bin .add x23 x24) p21 true),(.p, og (some p26) (.iaddrS 1 x22 x25) p21 true),(.l 0 0, og (some p27) (.load x26 false 1) p21 true),(.p, og (some p28) (.mov x0) p21 true),(.p, og (some p29) (.mov x3) p21 true),(.p, og (some p30) (.mov x9) p21 true),(.p, og (some p31) (.bin .add x29 x30) p21 true),(.p, og (some p32) (.bin .add x31 (.c (iv 1))) p21 true),(.p, og (some p33) (.iaddrS 1 x28 x32) p21 true),(.l 0 0, og (some p34) (.load x33 false 1) p21 true),(.e, og (some p35) (.call 200 [x27, x34]) p21 true),(.p, o (some p36) (.pick x21 x35 (.c (.bool false))))]) (.cond x36 (.region [o (some p37) (.mov x9),o (some p38) (.bin .add x37 (.c (iv 1))),o (some p9) (.mov x38)]) (.skip))) (.seq (.seq (.draw [(.p, o (some p39) (.mov x0)),(.p, o (some p40) (.mov x3)),(.p, o (some p41) (.mov x8)),(.p, o (some p42) (.bin .add x40 x41)),(.p, o (some p43) (.iaddrS 1 x39 x42)),(.l 0 0, o (some p44) (.load x43 false 1)),(.p, o (some p45) (.mov x0)),(.p, o (some p46) (.mov x3)),(.p, o (some p47) (.mov x9)),(.p, o (some p48) (.bin .add x46 x47)),(.p, o (some p49) (.iaddrS 1 x45 x48)),(.l 0 0, o (some p50) (.load x49 false 1)),(.e, o (some p51) (.call 200 [x44, x50])),(.p, o (some p52) (.un .not x51))]) (.cond x52 (.ret) (.skip))) (.seq (.draw [(.p, o (some p53) (.mov x0)),(.p, o (some p54) (.mov x3)),(.p, o (some p55) (.mov x8)),(.p, o (some p56) (.bin .add x54 x55)),(.p, o (some p57) (.mov x0)),(.p, o (some p58) (.mov x3)),(.p, o (some p59) (.mov x9)),(.p, o (some p60) (.bin .add x58 x59)),(.p, o (some p61) (.mov x0)),(.p, o (some p62) (.mov x3)),(.p, o (some p63) (.mov x9)),(.p, o (some p64) (.bin .add x62 x63)),(.p, o (some p65) (.iaddrS 1 x61 x64)),(.l 0 0, o (some p66) (.load x65 false 1)),(.p, o (some p67) (.mov x0)),(.p, o (some p68) (.mov x3)),(.p, o (some p69) (.mov x8)),(.p, o (some p70) (.bin .add x68 x69)),(.p, o (some p71) (.iaddrS 1 x67 x70)),(.l 0 0, o (some p72) (.load x71 false 1)),(.p, o (some p73) (.iaddrS 1 x53 x56)),(.e, o none (.store x73 x66 1)),(.p, o (some p74) (.iaddrS 1 x57 x60)),(.e, o none (.store x74 x72 1))]) (.region [o (some p75) (.mov x9),o (some p8) (.mov x75)]))))))
def kc_slices_siftDownOrdered_string_l0 : ACode := c_slices_siftDownOrdered_string_l0
def c_slices_siftDownOrdered_string : ACode := .seq (.region [o (some p10) (.mov x1),o (some p8) (.mov x10)]) (.block 0 (.loop kc_slices_siftDownOrdered_string_l0))
def a221 : AFn := ⟨c_slices_siftDownOrdered_string, []⟩
abbrev f_slices_siftDownOrdered_string : Nat := 221
def c_slices_nextPowerOfTwo : ACode := .seq (.region [o (some p2) (.mov (.c (.int .u64 0)))]) (.seq (.region [o (some p3) (.mov x0),o (some p4) (.convI .u64 x3),o (some p5) (.call 185 [x4]),o (some p6) (.bin .shl (.c (.int .u64 1)) x5),o (some p2) (.mov x6)]) (.ret))
def a222 : AFn := ⟨c_slices_nextPowerOfTwo, [.t p2]⟩
abbrev f_slices_nextPowerOfTwo : Nat := 222
def c_slices_xorshift_Next : ACode := .seq (.region [o (some p2) (.mov (.c (.int .u64 0)))]) (.seq (.draw [(.p, o (some p3) (.mov x0)),(.p, o (some p4) (.nilchk x3)),(.l 0 0, o (some p5) (.load x4 false 1)),(.p, o (some p6) (.mov x0)),(.p, o (some p7) (.nilchk x6)),(.l 0 0, o (some p8) (.load x7 false 1)),(.p, o (some p9) (.bin .shl x8 (.c (.int .u64 13)))),(.p, o (some p10) (.bin .xor x5 x9)),(.p, o (some p11) (.nilchk x3)),(.e, o none (.store x11 x10 1))]) (.seq (.draw [(.p, o (some p12) (.mov x0)),(.p, o (some p13) (.nilchk x12)),(.l 0 0, o (some p14) (.load x13 false 1)),(.p, o (some p15) (.mov x0)),(.p, o (some p16) (.nilchk x15)),(.l 0 0, o (some p17) (.load x16 false 1)),(.p, o (some p18) (.bin .shr x17 (.c (.int .u64 7)))),(.p, o (some p19) (.bin .xor x14 x18)),(.p, o (some p20) (.nilchk x12)),(.e, o none (.store x20 x19 1))]) (.seq (.draw [(.p, o (some p21) (.mov x0)),(.p, o (some p22) (.nilchk x21)),(.l 0 0, o (some p23) (.load x22 false 1)),(.p, o (some p24) (.mov x0)),(.p, o (some p25) (.nilchk x24)),(.l 0 0, o (some p26) (.load x25 false 1)),(.p, o (some p27) (.bin .shl x26 (.c (.int .u64 17)))),(.p, o (some p28) (.bin .xor x23 x27)),(.p, o (some p29) (.nilchk x21)),(.e, o none (.store x29 x28 1))]) (.seq (.region [o (some p30) (.mov x0),o (some p31) (.nilchk x30),o (some p32) (.load x31 false 1),o (some p2) (.mov x32)]) (.ret)))))
def a223 : AFn := ⟨c_slices_xorshift_Next, [.t p2]⟩
abbrev f_slices_xorshift_Next : Nat := 223
def c_slices_medianAdjacentOrdered_string : ACode := .seq (.region [o (some p6) (.mov (.c (iv 0)))]) (.seq (.region [o (some p7) (.mov x0),o (some p8) (.mov x1),o (some p9) (.bin .sub x8 (.c (iv 1))),o (some p10) (.mov x1),o (some p11) (.mov x1),o (some p12) (.bin .add x11 (.c (iv 1))),o (some p13) (.mov x2),o (some p14) (.call 225 [x7, x9, x10, x12, x13]),o (some p6) (.mov x14)]) (.ret))
def a224 : AFn := ⟨c_slices_medianAdjacentOrdered_string, [.t p6]⟩
abbrev f_slices_medianAdjacentOrdered_string : Nat := 224
def c_slices_medianOrdered_string : ACode := .seq (.region [o (some p10) (.mov (.c (iv 0)))]) (.seq (.region [o (some p12) (.mov x0),o (some p13) (.mov x1),o (some p14) (.mov x2),o (some p15) (.mov x4),o (some p16) (.call 235 [x12, x13, x14, x15]),o (some p11) (.mov x16),o (some p17) (.extract x11 0),o (some p18) (.extract x11 1),o (some p1) (.mov x17),o (some p2) (.mov x18)]) (.seq (.region [o (some p20) (.mov x0),o (some p21) (.mov x2),o (some p22) (.mov x3),o (some p23) (.mov x4),o (some p24) (.call 235 [x20, x21, x22, x23]),o (some p19) (.mov x24),o (some p25) (.extract x19 0),o (some p26) (.extract x19 1),o (some p2) (.mov x25),o (some p3) (.mov x26)]) (.seq (.region [o (some p28) (.mov x0),o (some p29) (.mov x1),o (some p30) (.mov x2),o (some p31) (.mov x4),o (some p32) (.call 235 [x28, x29, x30, x31]),o (some p27) (.mov x32),o (some p33) (.extract x27 0),o (some p34) (.extract x27 1),o (some p1) (.mov x33),o (some p2) (.mov x34)]) (.seq (.region [o (some p35) (.mov x2),o (some p10) (.mov x35)]) (.ret)))))
def a225 : AFn := ⟨c_slices_medianOrdered_string, [.t p10]⟩
abbrev f_slices_medianOrdered_string : Nat := 225
def c_cmp_isNaN_string : ACode := .seq (.region [o (some p2) (.mov (.c (.bool false)))]) (.seq (.region [o (some p3) (.mov x0),o (some p4) (.mov x0),o (some p5) (.bin .neq x3 x4),o (some p2) (.mov x5)]) (.ret))
def a226 : AFn := ⟨c_cmp_isNaN_string, [.t p2]⟩
abbrev f_cmp_isNaN_string : Nat := 226
def c_box_alike : ACode := .seq (.region [o (some p2) (.box x0),o (some p3) (.box x1),o (some p4) (.mov (.c (.bool false)))]) (.seq (.region [o (some p5) (.load x2 true 2),o (some p6) (.call 236 [x5]),o (some p7) (.mov x6),og (some p8) (.load x3 true 2) p7 true,og (some p9) (.call 236 [x8]) p7 true,o (some p10) (.pick x7 x9 (.c (.bool false))),o (some p11) (.mov x10),og (some p12) (.faddr 0 x2) p11 true,og (some p13) (.load x12 false 1) p11 true,og (some p14) (.len false x13) p11 true,og (some p15) (.faddr 0 x3) p11 true,og (some p16) (.load x15 false 1) p11 true,og (some p17) (.len false x16) p11 true,og (some p18) (.bin .eql x14 x17) p11 true,o (some p19) (.pick x11 x18 (.c (.bool false))),o (some p4) (.mov x19)]) (.ret))
def a227 : AFn := ⟨c_box_alike, [.t p4]⟩
abbrev f_box_alike : Nat := 227
def c_pivot_Valid_l0 : ACode := .seq (.region [o (some p8) (.bin .lss x7 x6)]) (.seq (.cond x8 (.skip) (.exit 0)) (.seq (.block 1 (.seq (.region [o (some p9) (.iaddrS 2 x5 x7),o (some p10) (.load x9 true 2),o (some p4) (.alloc [(iv 0), (iv 0)]),o none (.store x4 x10 2)]) (.seq (.draw [(.p, o (some p11) (.faddr 0 x4)),(.l 0 0, o (some p12) (.load x11 false 1)),(.p, o (some p13) (.faddr 1 x4)),(.l 0 0, o (some p14) (.load x13 false 1)),(.p, o (some p15) (.bin .gtr x12 x14)),(.p, o (some p16) (.mov x15)),(.e, og (some p17) (.call 237 []) p16 false),(.p, og (some p18) (.faddr 0 x4) p16 false),(.l 0 1, og (some p19) (.load x18 false 1) p16 false),(.e, og (some p20) (.call 238 [x17, x19]) p16 false),(.p, og (some p21) (.un .not x20) p16 false),(.p, o (some p22) (.pick x16 (.c (.bool true)) x21)),(.p, o (some p23) (.mov x22)),(.e, og (some p24) (.call 237 []) p23 false),(.p, og (some p25) (.faddr 1 x4) p23 false),(.l 2 3, og (some p26) (.load x25 false 1) p23 false),(.e, og (some p27) (.call 238 [x24, x26]) p23 false),(.p, og (some p28) (.un .not x27) p23 false),(.p, o (some p29) (.pick x23 (.c (.bool true)) x28))]) (.cond x29 (.seq (.region [o (some p2) (.mov (.c (.bool false)))]) (.ret)) (.skip))))) (.region [o (some p30) (.bin .add x7 (.c (iv 1))),o (some p7) (.mov x30)])))
def kc_pivot_Valid_l0 : ACode := c_pivot_Valid_l0
def c_pivot_Valid : ACode := .seq (.region [o (some p2) (.mov (.c (.bool false)))]) (.seq (.seq (.region [o (some p5) (.mov x0),o (some p6) (.len false x5),o (some p7) (.mov (.c (iv 0)))]) (.block 0 (.loop kc_pivot_Valid_l0))) (.seq (.region [o (some p31) (.mov x0),o (some p32) (.len false x31),o (some p33) (.bin .leq x32 (.c (iv 8))),o (some p2) (.mov x33)]) (.ret)))
def a228 : AFn := ⟨c_pivot_Valid, [.t p2]⟩
abbrev f_pivot_Valid : Nat := 228
def c_pivot_of : ACode := .seq (.region [o (some p1) (.box x0),o (some p2) (.alloc [(iv 0), (iv 0)])]) (.seq (.region [o (some p3) (.faddr 0 x1),o (some p4) (.load x3 false 1),o (some p5) (.faddr 1 x1),o (some p6) (.load x5 false 1),o (some p7) (.build [(iv 0), (iv 0)] [(0, 1, x4), (1, 1, x6)]),o none (.store x2 x7 2)]) (.ret))
def a229 : AFn := ⟨c_pivot_of, [.cell p2 true 2]⟩
abbrev f_pivot_of : Nat := 229
def c_zone_fields_1_l0 : ACode := .seq (.region [o (some p11) (.bin .lss x10 x9)]) (.seq (.cond x11 (.skip) (.exit 0)) (.seq (.block 1 (.seq (.region [o (some p12) (.mov x10),o (some p13) (.iaddrS 5 x8 x10),o (some p14) (.load x13 true 5),o (some p6) (.alloc [(.str (bs [])), (iv 0), (iv 0), (iv 0), .nilsl]),o (some p5) (.mov x12),o none (.store x6 x14 5)]) (.seq (.draw [(.p, o (some p15) (.mov x0)),(.l 0 0, o (some p16) (.load x6 true 5)),(.p, o (some p17) (.faddr 9 x2)),(.l 0 0, o (some p18) (.load x17 false 1)),(.p, o (some p19) (.mov x5)),(.p, o (some p20) (.iaddrS 4 x18 x19)),(.l 0 0, o (some p21) (.load x20 true 4)),(.p, o (some p22) (.faddr 9 x3)),(.l 0 0, o (some p23) (.load x22 false 1)),(.p, o (some p24) (.mov x5)),(.p, o (some p25) (.iaddrS 4 x23 x24)),(.l 0 0, o (some p26) (.load x25 true 4)),(.p, o (some p27) (.build [(iv 0), (iv 0), (iv 0), .nilsl, (iv 0), (iv 0), (iv 0), .nilsl] [(0, 4, x21), (4, 4, x26)])),(.e, o (some p28) (.callv x15 [x16, x27])),(.p, o (some p29) (.un .not x28))]) (.cond x29 (.ret) (.skip))))) (.region [o (some p30) (.bin .add x10 (.c (iv 1))),o (some p10) (.mov x30)])))
def kc_zone_fields_1_l0 : ACode := c_zone_fields_1_l0
def c_zone_fields_1 : ACode := .seq (.region [o (some p7) (.faddr 2 x1),o (some p8) (.load x7 false 1),o (some p9) (.len false x8),o (some p10) (.mov (.c (iv 0)))]) (.block 0 (.loop kc_zone_fields_1_l0))
def a230 : AFn := ⟨c_zone_fields_1, []⟩
abbrev f_zone_fields_1 : Nat := 230
def c_slices_Grow_string_string : ACode := .seq (.region [o (some p4) (.mov (.c .nilsl))]) (.seq (.seq (.region [o (some p5) (.mov x1),o (some p6) (.bin .lss x5 (.c (iv 0)))]) (.cond x6 (.region [o (some p7) (.mkif 9 (.c (.str (bs [99, 97, 110, 110, 111, 116, 32, 98, 101, 32, 110, 101, 103, 97, 116, 105, 118, 101])))),o none (.bad)]) (.skip))) (.seq (.seq (.region [o (some p8) (.mov x1),o (some p9) (.mov x0),o (some p10) (.bad),o (some p11) (.mov x0),o (some p12) (.len false x11),o (some p13) (.bin .sub x10 x12),o (some p14) (.bin .sub x8 x13),o (some p1) (.mov x14)]) (.seq (.region [o (some p15) (.mov x1),o (some p16) (.bin .gtr x15 (.c (iv 0)))]) (.cond x16 (.region [o (some p17) (.mov x0),o (some p18) (.mov x0),o (some p19) (.bad),o (some p20) (.slice 1 x17 none (some x19) none),o (some p21) (.mov x1),o (some p22) (.bad),o (some p23) (.mov x0),o (some p24) (.len false x23),o (some p25) (.slice 1 x22 none (some x24) none),o (some p0) (.mov x25)]) (.skip)))) (.seq (.region [o (some p26) (.mov x0),o (some p4) (.mov x26)]) (.ret))))
def a231 : AFn := ⟨c_slices_Grow_string_string, [.t p4]⟩
abbrev f_slices_Grow_string_string : Nat := 231
def c_slices_siftDownOrdered_int_l0 : ACode := .block 1 (.seq (.region [o (some p11) (.mov x8),o (some p12) (.bin .mul (.c (iv 2)) x11),o (some p13) (.bin .add x12 (.c (iv 1))),o (some p9) (.mov x13)]) (.seq (.seq (.region [o (some p14) (.mov x9),o (some p15) (.mov x2),o (some p16) (.bin .geq x14 x15)]) (.cond x16 (.exit 0) (.skip))) (.seq (.seq (.draw [(.p, o (some p17) (.mov x9)),(.p, o (some p18) (.bin .add x17 (.c (iv 1)))),(.p, o (some p19) (.mov x2)),(.p, o (some p20) (.bin .lss x18 x19)),(.p, o (some p21) (.mov x20)),(.p, og (some p22) (.mov x0) p21 true),(.p, og (some p23) (.mov x3) p21 true),(.p, og (some p24) (.mov x9) p21 true),(.p, og (some p25) (.bin .add x23 x24) p21 true),(.p, og (some p26) (.iaddrS 1 x22 x25) p21 true),(.l 0 0, og (some p27) (.load x26 false 1) p21 true),(.p, og (some p28) (.mov x0) p21 true),(.p, og (some p29) (.mov x3) p21 true),(.p, og (some p30) (.mov x9) p21 true),(.p, og (some p31) (.bin .add x29 x30) p21 true),(.p, og (some p32) (.bin .add x31 (.c (iv 1))) p21 true),(.p, og (some p33) (.iaddrS 1 x28 x32) p21 true),(.l 0 0, og (some p34) (.load x33 false 1) p21 true),(.e, og (some p35) (.call 218 [x27, x34]) p21 true),(.p, o (some p36) (.pick x21 x35 (.c (.bool false))))]) (.cond x36 (.region [o (some p37) (.mov x9),o (some p38) (.bin .add x37 (.c (iv 1))),o (some p9) (.mov x38)]) (.skip))) (.seq (.seq (.draw [(.p, o (some p39) (.mov x0)),(.p, o (some p40) (.mov x3)),(.p, o (some p41) (.mov x8)),(.p, o (some p42) (.bin .add x40 x41)),(.p, o (some p43) (.iaddrS 1 x39 x42)),(.l 0 0, o (some p44) (.load x43 false 1)),(.p, o (some p45) (.mov x0)),(.p, o (some p46) (.mov x3)),(.p, o (some p47) (.mov x9)),(.p, o (some p48) (.bin .add x46 x47)),(.p, o (some p49) (.iaddrS 1 x45 x48)),(.l 0 0, o (some p50) (.load x49 false 1)),(.e, o (some p51) (.call 218 [x44, x50])),(.p, o (some p52) (.un .not x51))]) (.cond x52 (.ret) (.skip))) (.seq (.draw [(.p, o (some p53) (.mov x0)),(.p, o (some p54) (.mov x3)),(.p, o (some p55) (.mov x8)),(.p, o (some p56) (.bin .add x54 x55)),(.p, o (some p57) (.mov x0)),(.p, o (some p58) (.mov x3)),(.p, o (some p59) (.mov x9)),(.p, o (some p60) (.bin .add x58 x59)),(.p, o (some p61) (.mov x0)),(.p, o (some p62) (.mov x3)),(.p, o (some p63) (.mov x9)),(.p, o (some p64) (.bin .add x62 x63)),(.p, o (some p65) (.iaddrS 1 x61 x64)),(.l 0 0, o (some p66) (.load x65 false 1)),(.p, o (some p67) (.mov x0)),(.p, o (some p68) (.mov x3)),(.p, o (some p69) (.mov x8)),(.p, o (some p70) (.bin .add x68 x69)),(.p, o (some p71) (.iaddrS 1 x67 x70)),(.l 0 0, o (some p72) (.load x71 false 1)),(.p, o (some p73) (.iaddrS 1 x53 x56)),(.e, o none (.store x73 x66 1)),(.p, o (some p74) (.iaddrS 1 x57 x60)),(.e, o none (.store x74 x72 1))]) (.region [o (some p75) (.mov x9),o (some p8) (.mov x75)]))))))
def kc_slices_siftDownOrdered_int_l0 : ACode := c_slices_siftDownOrdered_int_l0
def c_slices_siftDownOrdered_int : ACode := .seq (.region [o (some p10) (.mov x1),o (some p8) (.mov x10)]) (.block 0 (.loop kc_slices_siftDownOrdered_int_l0))
def a232 : AFn := ⟨c_slices_siftDownOrdered_int, []⟩
abbrev f_slices_siftDownOrdered_int : Nat := 232
def c_slices_medianAdjacentOrdered_int : ACode := .seq (.region [o (some p6) (.mov (.c (iv 0)))]) (.seq (.region [o (some p7) (.mov x0),o (some p8) (.mov x1),o (some p9) (.bin .sub x8 (.c (iv 1))),o (some p10) (.mov x1),o (some p11) (.mov x1),o (some p12) (.bin .add x11 (.c (iv 1))),o (some p13) (.mov x2),o (some p14) (.call 234 [x7, x9, x10, x12, x13]),o (some p6) (.mov x14)]) (.ret))
def a233 : AFn := ⟨c_slices_medianAdjacentOrdered_int, [.t p6]⟩
abbrev f_slices_medianAdjacentOrdered_int : Nat := 233
def c_slices_medianOrdered_int : ACode := .seq (.region [o (some p10) (.mov (.c (iv 0)))]) (.seq (.region [o (some p12) (.mov x0),o (some p13) (.mov x1),o (some p14) (.mov x2),o (some p15) (.mov x4),o (some p16) (.call 239 [x12, x13, x14, x15]),o (some p11) (.mov x16),o (some p17) (.extract x11 0),o (some p18) (.extract x11 1),o (some p1) (.mov x17),o (some p2) (.mov x18)]) (.seq (.region [o (some p20) (.mov x0),o (some p21) (.mov x2),o (some p22) (.mov x3),o (some p23) (.mov x4),o (some p24) (.call 239 [x20, x21, x22, x23]),o (some p19) (.mov x24),o (some p25) (.extract x19 0),o (some p26) (.extract x19 1),o (some p2) (.mov x25),o (some p3) (.mov x26)]) (.seq (.region [o (some p28) (.mov x0),o (some p29) (.mov x1),o (some p30) (.mov x2),o (some p31) (.mov x4),o (some p32) (.call 239 [x28, x29, x30, x31]),o (some p27) (.mov x32),o (some p33) (.extract x27 0),o (some p34) (.extract x27 1),o (some p1) (.mov x33),o (some p2) (.mov x34)]) (.seq (.region [o (some p35) (.mov x2),o (some p10) (.mov x35)]) (.ret)))))
def a234 : AFn := ⟨c_slices_medianOrdered_int, [.t p10]⟩
abbrev f_slices_medianOrdered_int : Nat := 234
def c_slices_order2Ordered_string : ACode := .seq (.region [o (some p8) (.mov (.c (iv 0))),o (some p9) (.mov (.c (iv 0)))]) (.seq (.seq (.draw [(.p, o (some p10) (.mov x0)),(.p, o (some p11) (.mov x2)),(.p, o (some p12) (.iaddrS 1 x10 x11)),(.l 0 0, o (some p13) (.load x12 false 1)),(.p, o (some p14) (.mov x0)),(.p, o (some p15) (.mov x1)),(.p, o (some p16) (.iaddrS 1 x14 x15)),(.l 0 0, o (some p17) (.load x16 false 1)),(.e, o (some p18) (.call 200 [x13, x17]))]) (.cond x18 (.seq (.region [o (some p19) (.mov x3),o (some p20) (.nilchk x19),o (some p21) (.load x20 false 1),o (some p22) (.bin .add x21 (.c (iv 1))),o (some p23) (.nilchk x19),o none (.store x23 x22 1)]) (.seq (.region [o (some p24) (.mov x2),o (some p25) (.mov x1),o (some p8) (.mov x24),o (some p9) (.mov x25)]) (.ret))) (.skip))) (.seq (.region [o (some p26) (.mov x1),o (some p27) (.mov x2),o (some p8) (.mov x26),o (some p9) (.mov x27)]) (.ret)))
def a235 : AFn := ⟨c_slices_order2Ordered_string, [.t p8, .t p9]⟩
abbrev f_slices_order2Ordered_string : Nat := 235
def c_box_Valid_l0 : ACode := .block 1 (.seq (.region [o (some p31) (.mov x3),o (some p32) (.mov x4),o (some p33) (.bin .gtr x31 x32)]) (.cond x33 (.seq (.region [o none (.store x2 (.c (.bool false)) 1)]) (.ret)) (.skip)))
def kc_box_Valid_l0 : ACode := c_box_Valid_l0
def c_box_Valid : ACode := .seq (.region [o (some p1) (.box x0),o (some p2) (.alloc [(.bool false)])]) (.seq (.seq (.region [o (some p5) (.faddr 0 x1),o (some p6) (.load x5 false 1),o (some p7) (.call 91 [x6]),o (some p8) (.un .not x7),o (some p9) (.mov x8),og (some p10) (.faddr 1 x1) p9 false,og (some p11) (.load x10 false 1) p9 false,og (some p12) (.call 91 [x11]) p9 false,og (some p13) (.un .not x12) p9 false,o (some p14) (.pick x9 (.c (.bool true)) x13),o (some p15) (.mov x14),og (some p16) (.faddr 0 x1) p15 false,og (some p17) (.load x16 false 1) p15 false,og (some p18) (.len false x17) p15 false,og (some p19) (.faddr 1 x1) p15 false,og (some p20) (.load x19 false 1) p15 false,og (some p21) (.len false x20) p15 false,og (some p22) (.bin .neq x18 x21) p15 false,o (some p23) (.pick x15 (.c (.bool true)) x22)]) (.cond x23 (.seq (.region [o none (.store x2 (.c (.bool false)) 1)]) (.ret)) (.skip))) (.seq (.seq (.region [o (some p24) (.faddr 0 x1),o (some p25) (.load x24 false 1),o (some p26) (.faddr 1 x1),o (some p27) (.load x26 false 1),o (some p28) (.call 240 [x25, x27])]) (.block 0 (.rangef x28 [p29, p30] (.seq (.region [o (some p3) (.mov x29)]) (.region [o (some p4) (.mov x30)])) kc_box_Valid_l0))) (.seq (.region [o none (.store x2 (.c (.bool true)) 1)]) (.ret))))
def a236 : AFn := ⟨c_box_Valid, [.cell p2 false 1]⟩
abbrev f_box_Valid : Nat := 236
def c_pivot_all : ACode := .seq (.region [o (some p0) (.alloc [(iv 0), (iv 0)])]) (.seq (.region [o (some p1) (.build [(iv 0), (iv 0)] [(0, 1, (.c (iv 0))), (1, 1, (.c (iv 134217728)))]),o none (.store x0 x1 2)]) (.ret))
def a237 : AFn := ⟨c_pivot_all, [.cell p0 true 2]⟩
abbrev f_pivot_all : Nat := 237
def c_pivot_pair_int_has : ACode := .seq (.region [o (some p2) (.box x0),o (some p4) (.mov (.c (.bool false)))]) (.seq (.draw [(.l 0 1, o (some p5) (.load x2 true 2)),(.l 0 0, o (some p6) (.load x2 true 2)),(.p, o (some p7) (.mov x1)),(.e, o (some p8) (.call 96 [x6, x7])),(.p, o (some p9) (.bad)),(.p, o (some p4) (.mov x9))]) (.ret))
def a238 : AFn := ⟨c_pivot_pair_int_has, [.t p4]⟩
abbrev f_pivot_pair_int_has : Nat := 238
def c_slices_order2Ordered_int : ACode := .seq (.region [o (some p8) (.mov (.c (iv 0))),o (some p9) (.mov (.c (iv 0)))]) (.seq (.seq (.draw [(.p, o (some p10) (.mov x0)),(.p, o (some p11) (.mov x2)),(.p, o (some p12) (.iaddrS 1 x10 x11)),(.l 0 0, o (some p13) (.load x12 false 1)),(.p, o (some p14) (.mov x0)),(.p, o (some p15) (.mov x1)),(.p, o (some p16) (.iaddrS 1 x14 x15)),(.l 0 0, o (some p17) (.load x16 false 1)),(.e, o (some p18) (.call 218 [x13, x17]))]) (.cond x18 (.seq (.region [o (some p19) (.mov x3),o (some p20) (.nilchk x19),o (some p21) (.load x20 false 1),o (some p22) (.bin .add x21 (.c (iv 1))),o (some p23) (.nilchk x19),o none (.store x23 x22 1)]) (.seq (.region [o (some p24) (.mov x2),o (some p25) (.mov x1),o (some p8) (.mov x24),o (some p9) (.mov x25)]) (.ret))) (.skip))) (.seq (.region [o (some p26) (.mov x1),o (some p27) (.mov x2),o (some p8) (.mov x26),o (some p9) (.mov x27)]) (.ret)))
def a239 : AFn := ⟨c_slices_order2Ordered_int, [.t p8, .t p9]⟩
abbrev f_slices_order2Ordered_int : Nat := 239
def c_box_pairs : ACode := .seq (.region [o (some p2) (.box x0),o (some p3) (.box x1),o (some p4) (.mov (.c .nilfn))]) (.seq (.region [o (some p5) (.mkfn 241 [] [x2, x3]),o (some p4) (.mov x5)]) (.ret))
def a240 : AFn := ⟨c_box_pairs, [.t p4]⟩
abbrev f_box_pairs : Nat := 240
def c_box_pairs_1_l0 : ACode := .seq (.region [o (some p11) (.bin .lss x10 x9)]) (.seq (.cond x11 (.skip) (.exit 0)) (.seq (.block 1 (.seq (.region [o (some p12) (.mov x10),o (some p4) (.mov x12)]) (.seq (.draw [(.p, o (some p13) (.mov x0)),(.l 0 0, o (some p14) (.load x1 false 1)),(.p, o (some p15) (.mov x4)),(.p, o (some p16) (.iaddrS 1 x14 x15)),(.l 0 0, o (some p17) (.load x16 false 1)),(.l 0 0, o (some p18) (.load x2 false 1)),(.p, o (some p19) (.mov x4)),(.p, o (some p20) (.iaddrS 1 x18 x19)),(.l 0 0, o (some p21) (.load x20 false 1)),(.e, o (some p22) (.callv x13 [x17, x21])),(.p, o (some p23) (.un .not x22))]) (.cond x23 (.ret) (.skip))))) (.region [o (some p24) (.bin .add x10 (.c (iv 1))),o (some p10) (.mov x24)])))
def kc_box_pairs_1_l0 : ACode := c_box_pairs_1_l0
def c_box_pairs_1 : ACode := .seq (.region [o (some p5) (.load x1 false 1),o (some p6) (.len false x5),o (some p7) (.load x2 false 1),o (some p8) (.len false x7),o (some p9) (.mn [x6, x8]),o (some p10) (.mov (.c (iv 0)))]) (.block 0 (.loop kc_box_pairs_1_l0))
def a241 : AFn := ⟨c_box_pairs_1, []⟩
abbrev f_box_pairs_1 : Nat := 241
end Go.AM.T
namespace Go.AM.T
open Go Go.AM
end Go.AM.T
namespace Go.AM.T
open Go Go.AM
def tr : Tr AFn := .node (.node (.node (.node (.node (.node (.node (.node (.leaf) (some a127) (.leaf)) (some a63) (.node (.leaf) (some a191) (.leaf))) (some a31) (.node (.node (.leaf) (some a159) (.leaf)) (some a95) (.node (.leaf) (some a223) (.leaf)))) (some a15) (.node (.node (.node (.leaf) (some a143) (.leaf)) (some a79) (.node (.leaf) (some a207) (.leaf))) (some a47) (.node (.node (.leaf) (some a175) (.leaf)) (some a111) (.node (.leaf) (some a239) (.leaf))))) (some a7) (.node (.node (.node (.node (.leaf) (some a135) (.leaf)) (some a71) (.node (.leaf) (some a199) (.leaf))) (some a39) (.node (.node (.leaf) (some a167) (.leaf)) (some a103) (.node (.leaf) (some a231) (.leaf)))) (some a23) (.node (.node (.node (.leaf) (some a151) (.leaf)) (some a87) (.node (.leaf) (some a215) (.leaf))) (some a55) (.node (.node (.leaf) (some a183) (.leaf)) (some a119) (.leaf))))) (some a3) (.node (.node (.node (.node (.node (.leaf) (some a131) (.leaf)) (some a67) (.node (.leaf) (some a195) (.leaf))) (some a35) (.node (.node (.leaf) (some a163) (.leaf)) (some a99) (.node (.leaf) (some a227) (.leaf)))) (some a19) (.node (.node (.node (.leaf) (some a147) (.leaf)) (some a83) (.node (.leaf) (some a211) (.leaf))) (some a51) (.node (.node (.leaf) (some a179) (.leaf)) (some a115) (.leaf)))) (some a11) (.node (.node (.node (.node (.leaf) (some a139) (.leaf)) (some a75) (.node (.leaf) (some a203) (.leaf))) (some a43) (.node (.node (.leaf) (some a171) (.leaf)) (some a107) (.node (.leaf) (some a235) (.leaf)))) (some a27) (.node (.node (.node (.leaf) (some a155) (.leaf)) (some a91) (.node (.leaf) (some a219) (.leaf))) (some a59) (.node (.node (.leaf) (some a187) (.leaf)) (some a123) (.leaf)))))) none (.node (.node (.node (.node (.node (.node (.leaf) (some a129) (.leaf)) (some a65) (.node (.leaf) (some a193) (.leaf))) (some a33) (.node (.node (.leaf) (some a161) (.leaf)) (some a97) (.node (.leaf) (some a225) (.leaf)))) (some a17) (.node (.node (.node (.leaf) (some a145) (.leaf)) (some a81) (.node (.leaf) (some a209) (.leaf))) (some a49) (.node (.node (.leaf) (some a177) (.leaf)) (some a113) (.node (.leaf) (some a241) (.leaf))))) (some a9) (.node (.node (.node (.node (.leaf) (some a137) (.leaf)) (some a73) (.node (.leaf) (some a201) (.leaf))) (some a41) (.node (.node (.leaf) (some a169) (.leaf)) (some a105) (.node (.leaf) (some a233) (.leaf)))) (some a25) (.node (.node (.node (.leaf) (some a153) (.leaf)) (some a89) (.node (.leaf) (some a217) (.leaf))) (some a57) (.node (.node (.leaf) (some a185) (.leaf)) (some a121) (.leaf))))) (some a5) (.node (.node (.node (.node (.node (.leaf) (some a133) (.leaf)) (some a69) (.node (.leaf) (some a197) (.leaf))) (some a37) (.node (.node (.leaf) (some a165) (.leaf)) (some a101) (.node (.leaf) (some a229) (.leaf)))) (some a21) (.node (.node (.node (.leaf) (some a149) (.leaf)) (some a85) (.node (.leaf) (some a213) (.leaf))) (some a53) (.node (.node (.leaf) (some a181) (.leaf)) (some a117) (.leaf)))) (some a13) (.node (.node (.node (.node (.leaf) (some a141) (.leaf)) (some a77) (.node (.leaf) (some a205) (.leaf))) (some a45) (.node (.node (.leaf) (some a173) (.leaf)) (some a109) (.node (.leaf) (some a237) (.leaf)))) (some a29) (.node (.node (.node (.leaf) (some a157) (.leaf)) (some a93) (.node (.leaf) (some a221) (.leaf))) (some a61) (.node (.node (.leaf) (some a189) (.leaf)) (some a125) (.leaf))))))) none (.node (.node (.node (.node (.node (.node (.node (.leaf) (some a128) (.leaf)) (some a64) (.node (.leaf) (some a192) (.leaf))) (some a32) (.node (.node (.leaf) (some a160) (.leaf)) (some a96) (.node (.leaf) (some a224) (.leaf)))) (some a16) (.node (.node (.node (.leaf) (some a144) (.leaf)) (some a80) (.node (.leaf) (some a208) (.leaf))) (some a48) (.node (.node (.leaf) (some a176) (.leaf)) (some a112) (.node (.leaf) (some a240) (.leaf))))) (some a8) (.node (.node (.node (.node (.leaf) (some a136) (.leaf)) (some a72) (.node (.leaf) (some a200) (.leaf))) (some a40) (.node (.node (.leaf) (some a168) (.leaf)) (some a104) (.node (.leaf) (some a232) (.leaf)))) (some a24) (.node (.node (.node (.leaf) (some a152) (.leaf)) (some a88) (.node (.leaf) (some a216) (.leaf))) (some a56) (.node (.node (.leaf) (some a184) (.leaf)) (some a120) (.leaf))))) (some a4) (.node (.node (.node (.node (.node (.leaf) (some a132) (.leaf)) (some a68) (.node (.leaf) (some a196) (.leaf))) (some a36) (.node (.node (.leaf) (some a164) (.leaf)) (some a100) (.node (.leaf) (some a228) (.leaf)))) (some a20) (.node (.node (.node (.leaf) (some a148) (.leaf)) (some a84) (.node (.leaf) (some a212) (.leaf))) (some a52) (.node (.node (.leaf) (some a180) (.leaf)) (some a116) (.leaf)))) (some a12) (.node (.node (.node (.node (.leaf) (some a140) (.leaf)) (some a76) (.node (.leaf) (some a204) (.leaf))) (some a44) (.node (.node (.leaf) (some a172) (.leaf)) (some a108) (.node (.leaf) (some a236) (.leaf)))) (some a28) (.node (.node (.node (.leaf) (some a156) (.leaf)) (some a92) (.node (.leaf) (some a220) (.leaf))) (some a60) (.node (.node (.leaf) (some a188) (.leaf)) (some a124) (.leaf)))))) (some a2) (.node (.node (.node (.node (.node (.node (.leaf) (some a130) (.leaf)) (some a66) (.node (.leaf) (some a194) (.leaf))) (some a34) (.node (.node (.leaf) (some a162) (.leaf)) (some a98) (.node (.leaf) (some a226) (.leaf)))) (some a18) (.node (.node (.node (.leaf) (some a146) (.leaf)) (some a82) (.node (.leaf) (some a210) (.leaf))) (some a50) (.node (.node (.leaf) (some a178) (.leaf)) (some a114) (.leaf)))) (some a10) (.node (.node (.node (.node (.leaf) (some a138) (.leaf)) (some a74) (.node (.leaf) (some a202) (.leaf))) (some a42) (.node (.node (.leaf) (some a170) (.leaf)) (some a106) (.node (.leaf) (some a234) (.leaf)))) (some a26) (.node (.node (.node (.leaf) (some a154) (.leaf)) (some a90) (.node (.leaf) (some a218) (.leaf))) (some a58) (.node (.node (.leaf) (some a186) (.leaf)) (some a122) (.leaf))))) (some a6) (.node (.node (.node (.node (.node (.leaf) (some a134) (.leaf)) (some a70) (.node (.leaf) (some a198) (.leaf))) (some a38) (.node (.node (.leaf) (some a166) (.leaf)) (some a102) (.node (.leaf) (some a230) (.leaf)))) (some a22) (.node (.node (.node (.leaf) (some a150) (.leaf)) (some a86) (.node (.leaf) (some a214) (.leaf))) (some a54) (.node (.node (.leaf) (some a182) (.leaf)) (some a118) (.leaf)))) (some a14) (.node (.node (.node (.node (.leaf) (some a142) (.leaf)) (some a78) (.node (.leaf) (some a206) (.leaf))) (some a46) (.node (.node (.leaf) (some a174) (.leaf)) (some a110) (.node (.leaf) (some a238) (.leaf)))) (some a30) (.node (.node (.node (.leaf) (some a158) (.leaf)) (some a94) (.node (.leaf) (some a222) (.leaf))) (some a62) (.node (.node (.leaf) (some a190) (.leaf)) (some a126) (.leaf)))))))
def tbl (n : Nat) : Option AFn := Tr.get tr (path n)
end Go.AM.T
namespace Go.AM.T
open Go Go.AM
@[go_sem] theorem ev_x0 (T : Fr) : ev T x0 = gN T 0 := rfl
@[go_sem] theorem at_p0 (T : Fr) : Fr.at_ T p0 = gN T 0 := rfl
@[go_sem] theorem put_p0 (v : AV) (T : Fr) : putD (some p0) v T = sN T 0 v := rfl
@[go_sem] theorem ev_x1 (T : Fr) : ev T x1 = gN T 1 := rfl
@[go_sem] theorem at_p1 (T : Fr) : Fr.at_ T p1 = gN T 1 := rfl
@[go_sem] theorem put_p1 (v : AV) (T : Fr) : putD (some p1) v T = sN T 1 v := rfl
@[go_sem] theorem ev_x2 (T : Fr) : ev T x2 = gN T 2 := rfl
@[go_sem] theorem at_p2 (T : Fr) : Fr.at_ T p2 = gN T 2 := rfl
@[go_sem] theorem put_p2 (v : AV) (T : Fr) : putD (some p2) v T = sN T 2 v := rfl
@[go_sem] theorem ev_x3 (T : Fr) : ev T x3 = gN T 3 := rfl
@[go_sem] theorem at_p3 (T : Fr) : Fr.at_ T p3 = gN T 3 := rfl
@[go_sem] theorem put_p3 (v : AV) (T : Fr) : putD (some p3) v T = sN T 3 v := rfl
@[go_sem] theorem ev_x4 (T : Fr) : ev T x4 = gN T 4 := rfl
@[go_sem] theorem at_p4 (T : Fr) : Fr.at_ T p4 = gN T 4 := rfl
@[go_sem] theorem put_p4 (v : AV) (T : Fr) : putD (some p4) v T = sN T 4 v := rfl
@[go_sem] theorem ev_x5 (T : Fr) : ev T x5 = gN T 5 := rfl
@[go_sem] theorem at_p5 (T : Fr) : Fr.at_ T p5 = gN T 5 := rfl
@[go_sem] theorem put_p5 (v : AV) (T : Fr) : putD (some p5) v T = sN T 5 v := rfl
@[go_sem] theorem ev_x6 (T : Fr) : ev T x6 = gN T 6 := rfl
@[go_sem] theorem at_p6 (T : Fr) : Fr.at_ T p6 = gN T 6 := rfl
@[go_sem] theorem put_p6 (v : AV) (T : Fr) : putD (some p6) v T = sN T 6 v := rfl
@[go_sem] theorem ev_x7 (T : Fr) : ev T x7 = gN T 7 := rfl
@[go_sem] theorem at_p7 (T : Fr) : Fr.at_ T p7 = gN T 7 := rfl
@[go_sem] theorem put_p7 (v : AV) (T : Fr) : putD (some p7) v T = sN T 7 v := rfl
@[go_sem] theorem ev_x8 (T : Fr) : ev T x8 = gN T 8 := rfl
@[go_sem] theorem at_p8 (T : Fr) : Fr.at_ T p8 = gN T 8 := rfl
@[go_sem] theorem put_p8 (v : AV) (T : Fr) : putD (some p8) v T = sN T 8 v := rfl
@[go_sem] theorem ev_x9 (T : Fr) : ev T x9 = gN T 9 := rfl
@[go_sem] theorem at_p9 (T : Fr) : Fr.at_ T p9 = gN T 9 := rfl
@[go_sem] theorem put_p9 (v : AV) (T : Fr) : putD (some p9) v T = sN T 9 v := rfl
@[go_sem] theorem ev_x10 (T : Fr) : ev T x10 = gN T 10 := rfl
@[go_sem] theorem at_p10 (T : Fr) : Fr.at_ T p10 = gN T 10 := rfl
@[go_sem] theorem put_p10 (v : AV) (T : Fr) : putD (some p10) v T = sN T 10 v := rfl
@[go_sem] theorem ev_x11 (T : Fr) : ev T x11 = gN T 11 := rfl
@[go_sem] theorem at_p11 (T : Fr) : Fr.at_ T p11 = gN T 11 := rfl
@[go_sem] theorem put_p11 (v : AV) (T : Fr) : putD (some p11) v T = sN T 11 v := rfl
@[go_sem] theorem ev_x12 (T : Fr) : ev T x12 = gN T 12 := rfl
@[go_sem] theorem at_p12 (T : Fr) : Fr.at_ T p12 = gN T 12 := rfl
@[go_sem] theorem put_p12 (v : AV) (T : Fr) : putD (some p12) v T = sN T 12 v := rfl
@[go_sem] theorem ev_x13 (T : Fr) : ev T x13 = gN T 13 := rfl
@[go_sem] theorem at_p13 (T : Fr) : Fr.at_ T p13 = gN T 13 := rfl
@[go_sem] theorem put_p13 (v : AV) (T : Fr) : putD (some p13) v T = sN T 13 v := rfl
@[go_sem] theorem ev_x14 (T : Fr) : ev T x14 = gN T 14 := rfl
@[go_sem] theorem at_p14 (T : Fr) : Fr.at_ T p14 = gN T 14 := rfl
@[go_sem] theorem put_p14 (v : AV) (T : Fr) : putD (some p14) v T = sN T 14 v := rfl
@[go_sem] theorem ev_x15 (T : Fr) : ev T x15 = gN T 15 := rfl
@[go_sem] theorem at_p15 (T : Fr) : Fr.at_ T p15 = gN T 15 := rfl
@[go_sem] theorem put_p15 (v : AV) (T : Fr) : putD (some p15) v T = sN T 15 v := rfl
@[go_sem] theorem ev_x16 (T : Fr) : ev T x16 = gN T 16 := rfl
@[go_sem] theorem at_p16 (T : Fr) : Fr.at_ T p16 = gN T 16 := rfl
@[go_sem] theorem put_p16 (v : AV) (T : Fr) : putD (some p16) v T = sN T 16 v := rfl
@[go_sem] theorem ev_x17 (T : Fr) : ev T x17 = gN T 17 := rfl
@[go_sem] theorem at_p17 (T : Fr) : Fr.at_ T p17 = gN T 17 := rfl
@[go_sem] theorem put_p17 (v : AV) (T : Fr) : putD (some p17) v T = sN T 17 v := rfl
@[go_sem] theorem ev_x18 (T : Fr) : ev T x18 = gN T 18 := rfl
@[go_sem] theorem at_p18 (T : Fr) : Fr.at_ T p18 = gN T 18 := rfl
@[go_sem] theorem put_p18 (v : AV) (T : Fr) : putD (some p18) v T = sN T 18 v := rfl
@[go_sem] theorem ev_x19 (T : Fr) : ev T x19 = gN T 19 := rfl
@[go_sem] theorem at_p19 (T : Fr) : Fr.at_ T p19 = gN T 19 := rfl
@[go_sem] theorem put_p19 (v : AV) (T : Fr) : putD (some p19) v T = sN T 19 v := rfl
@[go_sem] theorem ev_x20 (T : Fr) : ev T x20 = gN T 20 := rfl
@[go_sem] theorem at_p20 (T : Fr) : Fr.at_ T p20 = gN T 20 := rfl
@[go_sem] theorem put_p20 (v : AV) (T : Fr) : putD (some p20) v T = sN T 20 v := rfl
@[go_sem] theorem ev_x21 (T : Fr) : ev T x21 = gN T 21 := rfl
@[go_sem] theorem at_p21 (T : Fr) : Fr.at_ T p21 = gN T 21 := rfl
@[go_sem] theorem put_p21 (v : AV) (T : Fr) : putD (some p21) v T = sN T 21 v := rfl
@[go_sem] theorem ev_x22 (T : Fr) : ev T x22 = gN T 22 := rfl
@[go_sem] theorem at_p22 (T : Fr) : Fr.at_ T p22 = gN T 22 := rfl
@[go_sem] theorem put_p22 (v : AV) (T : Fr) : putD (some p22) v T = sN T 22 v := rfl
@[go_sem] theorem ev_x23 (T : Fr) : ev T x23 = gN T 23 := rfl
@[go_sem] theorem at_p23 (T : Fr) : Fr.at_ T p23 = gN T 23 := rfl
@[go_sem] theorem put_p23 (v : AV) (T : Fr) : putD (some p23) v T = sN T 23 v := rfl
@[go_sem] theorem ev_x24 (T : Fr) : ev T x24 = gN T 24 := rfl
@[go_sem] theorem at_p24 (T : Fr) : Fr.at_ T p24 = gN T 24 := rfl
@[go_sem] theorem put_p24 (v : AV) (T : Fr) : putD (some p24) v T = sN T 24 v := rfl
@[go_sem] theorem ev_x25 (T : Fr) : ev T x25 = gN T 25 := rfl
@[go_sem] theorem at_p25 (T : Fr) : Fr.at_ T p25 = gN T 25 := rfl
@[go_sem] theorem put_p25 (v : AV) (T : Fr) : putD (some p25) v T = sN T 25 v := rfl
@[go_sem] theorem ev_x26 (T : Fr) : ev T x26 = gN T 26 := rfl
@[go_sem] theorem at_p26 (T : Fr) : Fr.at_ T p26 = gN T 26 := rfl
@[go_sem] theorem put_p26 (v : AV) (T : Fr) : putD (some p26) v T = sN T 26 v := rfl
@[go_sem] theorem ev_x27 (T : Fr) : ev T x27 = gN T 27 := rfl
@[go_sem] theorem at_p27 (T : Fr) : Fr.at_ T p27 = gN T 27 := rfl
@[go_sem] theorem put_p27 (v : AV) (T : Fr) : putD (some p27) v T = sN T 27 v := rfl
@[go_sem] theorem ev_x28 (T : Fr) : ev T x28 = gN T 28 := rfl
@[go_sem] theorem at_p28 (T : Fr) : Fr.at_ T p28 = gN T 28 := rfl
@[go_sem] theorem put_p28 (v : AV) (T : Fr) : putD (some p28) v T = sN T 28 v := rfl
@[go_sem] theorem ev_x29 (T : Fr) : ev T x29 = gN T 29 := rfl
@[go_sem] theorem at_p29 (T : Fr) : Fr.at_ T p29 = gN T 29 := rfl
@[go_sem] theorem put_p29 (v : AV) (T : Fr) : putD (some p29) v T = sN T 29 v := rfl
@[go_sem] theorem ev_x30 (T : Fr) : ev T x30 = gN T 30 := rfl
@[go_sem] theorem at_p30 (T : Fr) : Fr.at_ T p30 = gN T 30 := rfl
@[go_sem] theorem put_p30 (v : AV) (T : Fr) : putD (some p30) v T = sN T 30 v := rfl
@[go_sem] theorem ev_x31 (T : Fr) : ev T x31 = gN T 31 := rfl
@[go_sem] theorem at_p31 (T : Fr) : Fr.at_ T p31 = gN T 31 := rfl
@[go_sem] theorem put_p31 (v : AV) (T : Fr) : putD (some p31) v T = sN T 31 v := rfl
@[go_sem] theorem ev_x32 (T : Fr) : ev T x32 = gN T 32 := rfl
@[go_sem] theorem at_p32 (T : Fr) : Fr.at_ T p32 = gN T 32 := rfl
@[go_sem] theorem put_p32 (v : AV) (T : Fr) : putD (some p32) v T = sN T 32 v := rfl
@[go_sem] theorem ev_x33 (T : Fr) : ev T x33 = gN T 33 := rfl
@[go_sem] theorem at_p33 (T : Fr) : Fr.at_ T p33 = gN T 33 := rfl
@[go_sem] theorem put_p33 (v : AV) (T : Fr) : putD (some p33) v T = sN T 33 v := rfl
@[go_sem] theorem ev_x34 (T : Fr) : ev T x34 = gN T 34 := rfl
@[go_sem] theorem at_p34 (T : Fr) : Fr.at_ T p34 = gN T 34 := rfl
@[go_sem] theorem put_p34 (v : AV) (T : Fr) : putD (some p34) v T = sN T 34 v := rfl
@[go_sem] theorem ev_x35 (T : Fr) : ev T x35 = gN T 35 := rfl
@[go_sem] theorem at_p35 (T : Fr) : Fr.at_ T p35 = gN T 35 := rfl
@[go_sem] theorem put_p35 (v : AV) (T : Fr) : putD (some p35) v T = sN T 35 v := rfl
@[go_sem] theorem ev_x36 (T : Fr) : ev T x36 = gN T 36 := rfl
@[go_sem] theorem at_p36 (T : Fr) : Fr.at_ T p36 = gN T 36 := rfl
@[go_sem] theorem put_p36 (v : AV) (T : Fr) : putD (some p36) v T = sN T 36 v := rfl
@[go_sem] theorem ev_x37 (T : Fr) : ev T x37 = gN T 37 := rfl
@[go_sem] theorem at_p37 (T : Fr) : Fr.at_ T p37 = gN T 37 := rfl
@[go_sem] theorem put_p37 (v : AV) (T : Fr) : putD (some p37) v T = sN T 37 v := rfl
@[go_sem] theorem ev_x38 (T : Fr) : ev T x38 = gN T 38 := rfl
@[go_sem] theorem at_p38 (T : Fr) : Fr.at_ T p38 = gN T 38 := rfl
@[go_sem] theorem put_p38 (v : AV) (T : Fr) : putD (some p38) v T = sN T 38 v := rfl
@[go_sem] theorem ev_x39 (T : Fr) : ev T x39 = gN T 39 := rfl
@[go_sem] theorem at_p39 (T : Fr) : Fr.at_ T p39 = gN T 39 := rfl
@[go_sem] theorem put_p39 (v : AV) (T : Fr) : putD (some p39) v T = sN T 39 v := rfl
@[go_sem] theorem ev_x40 (T : Fr) : ev T x40 = gN T 40 := rfl
@[go_sem] theorem at_p40 (T : Fr) : Fr.at_ T p40 = gN T 40 := rfl
@[go_sem] theorem put_p40 (v : AV) (T : Fr) : putD (some p40) v T = sN T 40 v := rfl
@[go_sem] theorem ev_x41 (T : Fr) : ev T x41 = gN T 41 := rfl
@[go_sem] theorem at_p41 (T : Fr) : Fr.at_ T p41 = gN T 41 := rfl
@[go_sem] theorem put_p41 (v : AV) (T : Fr) : putD (some p41) v T = sN T 41 v := rfl
@[go_sem] theorem ev_x42 (T : Fr) : ev T x42 = gN T 42 := rfl
@[go_sem] theorem at_p42 (T : Fr) : Fr.at_ T p42 = gN T 42 := rfl
@[go_sem] theorem put_p42 (v : AV) (T : Fr) : putD (some p42) v T = sN T 42 v := rfl
@[go_sem] theorem ev_x43 (T : Fr) : ev T x43 = gN T 43 := rfl
@[go_sem] theorem at_p43 (T : Fr) : Fr.at_ T p43 = gN T 43 := rfl
@[go_sem] theorem put_p43 (v : AV) (T : Fr) : putD (some p43) v T = sN T 43 v := rfl
@[go_sem] theorem ev_x44 (T : Fr) : ev T x44 = gN T 44 := rfl
@[go_sem] theorem at_p44 (T : Fr) : Fr.at_ T p44 = gN T 44 := rfl
@[go_sem] theorem put_p44 (v : AV) (T : Fr) : putD (some p44) v T = sN T 44 v := rfl
@[go_sem] theorem ev_x45 (T : Fr) : ev T x45 = gN T 45 := rfl
@[go_sem] theorem at_p45 (T : Fr) : Fr.at_ T p45 = gN T 45 := rfl
@[go_sem] theorem put_p45 (v : AV) (T : Fr) : putD (some p45) v T = sN T 45 v := rfl
@[go_sem] theorem ev_x46 (T : Fr) : ev T x46 = gN T 46 := rfl
@[go_sem] theorem at_p46 (T : Fr) : Fr.at_ T p46 = gN T 46 := rfl
@[go_sem] theorem put_p46 (v : AV) (T : Fr) : putD (some p46) v T = sN T 46 v := rfl
@[go_sem] theorem ev_x47 (T : Fr) : ev T x47 = gN T 47 := rfl
@[go_sem] theorem at_p47 (T : Fr) : Fr.at_ T p47 = gN T 47 := rfl
@[go_sem] theorem put_p47 (v : AV) (T : Fr) : putD (some p47) v T = sN T 47 v := rfl
@[go_sem] theorem ev_x48 (T : Fr) : ev T x48 = gN T 48 := rfl
@[go_sem] theorem at_p48 (T : Fr) : Fr.at_ T p48 = gN T 48 := rfl
@[go_sem] theorem put_p48 (v : AV) (T : Fr) : putD (some p48) v T = sN T 48 v := rfl
@[go_sem] theorem ev_x49 (T : Fr) : ev T x49 = gN T 49 := rfl
@[go_sem] theorem at_p49 (T : Fr) : Fr.at_ T p49 = gN T 49 := rfl
@[go_sem] theorem put_p49 (v : AV) (T : Fr) : putD (some p49) v T = sN T 49 v := rfl
@[go_sem] theorem ev_x50 (T : Fr) : ev T x50 = gN T 50 := rfl
@[go_sem] theorem at_p50 (T : Fr) : Fr.at_ T p50 = gN T 50 := rfl
@[go_sem] theorem put_p50 (v : AV) (T : Fr) : putD (some p50) v T = sN T 50 v := rfl
@[go_sem] theorem ev_x51 (T : Fr) : ev T x51 = gN T 51 := rfl
@[go_sem] theorem at_p51 (T : Fr) : Fr.at_ T p51 = gN T 51 := rfl
@[go_sem] theorem put_p51 (v : AV) (T : Fr) : putD (some p51) v T = sN T 51 v := rfl
@[go_sem] theorem ev_x52 (T : Fr) : ev T x52 = gN T 52 := rfl
@[go_sem] theorem at_p52 (T : Fr) : Fr.at_ T p52 = gN T 52 := rfl
@[go_sem] theorem put_p52 (v : AV) (T : Fr) : putD (some p52) v T = sN T 52 v := rfl
@[go_sem] theorem ev_x53 (T : Fr) : ev T x53 = gN T 53 := rfl
@[go_sem] theorem at_p53 (T : Fr) : Fr.at_ T p53 = gN T 53 := rfl
@[go_sem] theorem put_p53 (v : AV) (T : Fr) : putD (some p53) v T = sN T 53 v := rfl
@[go_sem] theorem ev_x54 (T : Fr) : ev T x54 = gN T 54 := rfl
@[go_sem] theorem at_p54 (T : Fr) : Fr.at_ T p54 = gN T 54 := rfl
@[go_sem] theorem put_p54 (v : AV) (T : Fr) : putD (some p54) v T = sN T 54 v := rfl
@[go_sem] theorem ev_x55 (T : Fr) : ev T x55 = gN T 55 := rfl
@[go_sem] theorem at_p55 (T : Fr) : Fr.at_ T p55 = gN T 55 := rfl
@[go_sem] theorem put_p55 (v : AV) (T : Fr) : putD (some p55) v T = sN T 55 v := rfl
@[go_sem] theorem ev_x56 (T : Fr) : ev T x56 = gN T 56 := rfl
@[go_sem] theorem at_p56 (T : Fr) : Fr.at_ T p56 = gN T 56 := rfl
@[go_sem] theorem put_p56 (v : AV) (T : Fr) : putD (some p56) v T = sN T 56 v := rfl
@[go_sem] theorem ev_x57 (T : Fr) : ev T x57 = gN T 57 := rfl
@[go_sem] theorem at_p57 (T : Fr) : Fr.at_ T p57 = gN T 57 := rfl
@[go_sem] theorem put_p57 (v : AV) (T : Fr) : putD (some p57) v T = sN T 57 v := rfl
@[go_sem] theorem ev_x58 (T : Fr) : ev T x58 = gN T 58 := rfl
@[go_sem] theorem at_p58 (T : Fr) : Fr.at_ T p58 = gN T 58 := rfl
@[go_sem] theorem put_p58 (v : AV) (T : Fr) : putD (some p58) v T = sN T 58 v := rfl
@[go_sem] theorem ev_x59 (T : Fr) : ev T x59 = gN T 59 := rfl
@[go_sem] theorem at_p59 (T : Fr) : Fr.at_ T p59 = gN T 59 := rfl
@[go_sem] theorem put_p59 (v : AV) (T : Fr) : putD (some p59) v T = sN T 59 v := rfl
@[go_sem] theorem ev_x60 (T : Fr) : ev T x60 = gN T 60 := rfl
@[go_sem] theorem at_p60 (T : Fr) : Fr.at_ T p60 = gN T 60 := rfl
@[go_sem] theorem put_p60 (v : AV) (T : Fr) : putD (some p60) v T = sN T 60 v := rfl
@[go_sem] theorem ev_x61 (T : Fr) : ev T x61 = gN T 61 := rfl
@[go_sem] theorem at_p61 (T : Fr) : Fr.at_ T p61 = gN T 61 := rfl
@[go_sem] theorem put_p61 (v : AV) (T : Fr) : putD (some p61) v T = sN T 61 v := rfl
@[go_sem] theorem ev_x62 (T : Fr) : ev T x62 = gN T 62 := rfl
@[go_sem] theorem at_p62 (T : Fr) : Fr.at_ T p62 = gN T 62 := rfl
@[go_sem] theorem put_p62 (v : AV) (T : Fr) : putD (some p62) v T = sN T 62 v := rfl
@[go_sem] theorem ev_x63 (T : Fr) : ev T x63 = gN T 63 := rfl
@[go_sem] theorem at_p63 (T : Fr) : Fr.at_ T p63 = gN T 63 := rfl
@[go_sem] theorem put_p63 (v : AV) (T : Fr) : putD (some p63) v T = sN T 63 v := rfl
@[go_sem] theorem ev_x64 (T : Fr) : ev T x64 = gN T 64 := rfl
@[go_sem] theorem at_p64 (T : Fr) : Fr.at_ T p64 = gN T 64 := rfl
@[go_sem] theorem put_p64 (v : AV) (T : Fr) : putD (some p64) v T = sN T 64 v := rfl
@[go_sem] theorem ev_x65 (T : Fr) : ev T x65 = gN T 65 := rfl
@[go_sem] theorem at_p65 (T : Fr) : Fr.at_ T p65 = gN T 65 := rfl
@[go_sem] theorem put_p65 (v : AV) (T : Fr) : putD (some p65) v T = sN T 65 v := rfl
@[go_sem] theorem ev_x66 (T : Fr) : ev T x66 = gN T 66 := rfl
@[go_sem] theorem at_p66 (T : Fr) : Fr.at_ T p66 = gN T 66 := rfl
@[go_sem] theorem put_p66 (v : AV) (T : Fr) : putD (some p66) v T = sN T 66 v := rfl
@[go_sem] theorem ev_x67 (T : Fr) : ev T x67 = gN T 67 := rfl
@[go_sem] theorem at_p67 (T : Fr) : Fr.at_ T p67 = gN T 67 := rfl
@[go_sem] theorem put_p67 (v : AV) (T : Fr) : putD (some p67) v T = sN T 67 v := rfl
@[go_sem] theorem ev_x68 (T : Fr) : ev T x68 = gN T 68 := rfl
@[go_sem] theorem at_p68 (T : Fr) : Fr.at_ T p68 = gN T 68 := rfl
@[go_sem] theorem put_p68 (v : AV) (T : Fr) : putD (some p68) v T = sN T 68 v := rfl
@[go_sem] theorem ev_x69 (T : Fr) : ev T x69 = gN T 69 := rfl
@[go_sem] theorem at_p69 (T : Fr) : Fr.at_ T p69 = gN T 69 := rfl
@[go_sem] theorem put_p69 (v : AV) (T : Fr) : putD (some p69) v T = sN T 69 v := rfl
@[go_sem] theorem ev_x70 (T : Fr) : ev T x70 = gN T 70 := rfl
@[go_sem] theorem at_p70 (T : Fr) : Fr.at_ T p70 = gN T 70 := rfl
@[go_sem] theorem put_p70 (v : AV) (T : Fr) : putD (some p70) v T = sN T 70 v := rfl
@[go_sem] theorem ev_x71 (T : Fr) : ev T x71 = gN T 71 := rfl
@[go_sem] theorem at_p71 (T : Fr) : Fr.at_ T p71 = gN T 71 := rfl
@[go_sem] theorem put_p71 (v : AV) (T : Fr) : putD (some p71) v T = sN T 71 v := rfl
@[go_sem] theorem ev_x72 (T : Fr) : ev T x72 = gN T 72 := rfl
@[go_sem] theorem at_p72 (T : Fr) : Fr.at_ T p72 = gN T 72 := rfl
@[go_sem] theorem put_p72 (v : AV) (T : Fr) : putD (some p72) v T = sN T 72 v := rfl
@[go_sem] theorem ev_x73 (T : Fr) : ev T x73 = gN T 73 := rfl
@[go_sem] theorem at_p73 (T : Fr) : Fr.at_ T p73 = gN T 73 := rfl
@[go_sem] theorem put_p73 (v : AV) (T : Fr) : putD (some p73) v T = sN T 73 v := rfl
@[go_sem] theorem ev_x74 (T : Fr) : ev T x74 = gN T 74 := rfl
@[go_sem] theorem at_p74 (T : Fr) : Fr.at_ T p74 = gN T 74 := rfl
@[go_sem] theorem put_p74 (v : AV) (T : Fr) : putD (some p74) v T = sN T 74 v := rfl
@[go_sem] theorem ev_x75 (T : Fr) : ev T x75 = gN T 75 := rfl
@[go_sem] theorem at_p75 (T : Fr) : Fr.at_ T p75 = gN T 75 := rfl
@[go_sem] theorem put_p75 (v : AV) (T : Fr) : putD (some p75) v T = sN T 75 v := rfl
@[go_sem] theorem ev_x76 (T : Fr) : ev T x76 = gN T 76 := rfl
@[go_sem] theorem at_p76 (T : Fr) : Fr.at_ T p76 = gN T 76 := rfl
@[go_sem] theorem put_p76 (v : AV) (T : Fr) : putD (some p76) v T = sN T 76 v := rfl
@[go_sem] theorem ev_x77 (T : Fr) : ev T x77 = gN T 77 := rfl
@[go_sem] theorem at_p77 (T : Fr) : Fr.at_ T p77 = gN T 77 := rfl
@[go_sem] theorem put_p77 (v : AV) (T : Fr) : putD (some p77) v T = sN T 77 v := rfl
@[go_sem] theorem ev_x78 (T : Fr) : ev T x78 = gN T 78 := rfl
@[go_sem] theorem at_p78 (T : Fr) : Fr.at_ T p78 = gN T 78 := rfl
@[go_sem] theorem put_p78 (v : AV) (T : Fr) : putD (some p78) v T = sN T 78 v := rfl
@[go_sem] theorem ev_x79 (T : Fr) : ev T x79 = gN T 79 := rfl
@[go_sem] theorem at_p79 (T : Fr) : Fr.at_ T p79 = gN T 79 := rfl
@[go_sem] theorem put_p79 (v : AV) (T : Fr) : putD (some p79) v T = sN T 79 v := rfl
@[go_sem] theorem ev_x80 (T : Fr) : ev T x80 = gN T 80 := rfl
@[go_sem] theorem at_p80 (T : Fr) : Fr.at_ T p80 = gN T 80 := rfl
@[go_sem] theorem put_p80 (v : AV) (T : Fr) : putD (some p80) v T = sN T 80 v := rfl
@[go_sem] theorem ev_x81 (T : Fr) : ev T x81 = gN T 81 := rfl
@[go_sem] theorem at_p81 (T : Fr) : Fr.at_ T p81 = gN T 81 := rfl
@[go_sem] theorem put_p81 (v : AV) (T : Fr) : putD (some p81) v T = sN T 81 v := rfl
@[go_sem] theorem ev_x82 (T : Fr) : ev T x82 = gN T 82 := rfl
@[go_sem] theorem at_p82 (T : Fr) : Fr.at_ T p82 = gN T 82 := rfl
@[go_sem] theorem put_p82 (v : AV) (T : Fr) : putD (some p82) v T = sN T 82 v := rfl
@[go_sem] theorem ev_x83 (T : Fr) : ev T x83 = gN T 83 := rfl
@[go_sem] theorem at_p83 (T : Fr) : Fr.at_ T p83 = gN T 83 := rfl
@[go_sem] theorem put_p83 (v : AV) (T : Fr) : putD (some p83) v T = sN T 83 v := rfl
@[go_sem] theorem ev_x84 (T : Fr) : ev T x84 = gN T 84 := rfl
@[go_sem] theorem at_p84 (T : Fr) : Fr.at_ T p84 = gN T 84 := rfl
@[go_sem] theorem put_p84 (v : AV) (T : Fr) : putD (some p84) v T = sN T 84 v := rfl
@[go_sem] theorem ev_x85 (T : Fr) : ev T x85 = gN T 85 := rfl
@[go_sem] theorem at_p85 (T : Fr) : Fr.at_ T p85 = gN T 85 := rfl
@[go_sem] theorem put_p85 (v : AV) (T : Fr) : putD (some p85) v T = sN T 85 v := rfl
@[go_sem] theorem ev_x86 (T : Fr) : ev T x86 = gN T 86 := rfl
@[go_sem] theorem at_p86 (T : Fr) : Fr.at_ T p86 = gN T 86 := rfl
@[go_sem] theorem put_p86 (v : AV) (T : Fr) : putD (some p86) v T = sN T 86 v := rfl
@[go_sem] theorem ev_x87 (T : Fr) : ev T x87 = gN T 87 := rfl
@[go_sem] theorem at_p87 (T : Fr) : Fr.at_ T p87 = gN T 87 := rfl
@[go_sem] theorem put_p87 (v : AV) (T : Fr) : putD (some p87) v T = sN T 87 v := rfl
@[go_sem] theorem ev_x88 (T : Fr) : ev T x88 = gN T 88 := rfl
@[go_sem] theorem at_p88 (T : Fr) : Fr.at_ T p88 = gN T 88 := rfl
@[go_sem] theorem put_p88 (v : AV) (T : Fr) : putD (some p88) v T = sN T 88 v := rfl
@[go_sem] theorem ev_x89 (T : Fr) : ev T x89 = gN T 89 := rfl
@[go_sem] theorem at_p89 (T : Fr) : Fr.at_ T p89 = gN T 89 := rfl
@[go_sem] theorem put_p89 (v : AV) (T : Fr) : putD (some p89) v T = sN T 89 v := rfl
@[go_sem] theorem ev_x90 (T : Fr) : ev T x90 = gN T 90 := rfl
@[go_sem] theorem at_p90 (T : Fr) : Fr.at_ T p90 = gN T 90 := rfl
@[go_sem] theorem put_p90 (v : AV) (T : Fr) : putD (some p90) v T = sN T 90 v := rfl
@[go_sem] theorem ev_x91 (T : Fr) : ev T x91 = gN T 91 := rfl
@[go_sem] theorem at_p91 (T : Fr) : Fr.at_ T p91 = gN T 91 := rfl
@[go_sem] theorem put_p91 (v : AV) (T : Fr) : putD (some p91) v T = sN T 91 v := rfl
@[go_sem] theorem ev_x92 (T : Fr) : ev T x92 = gN T 92 := rfl
@[go_sem] theorem at_p92 (T : Fr) : Fr.at_ T p92 = gN T 92 := rfl
@[go_sem] theorem put_p92 (v : AV) (T : Fr) : putD (some p92) v T = sN T 92 v := rfl
@[go_sem] theorem ev_x93 (T : Fr) : ev T x93 = gN T 93 := rfl
@[go_sem] theorem at_p93 (T : Fr) : Fr.at_ T p93 = gN T 93 := rfl
@[go_sem] theorem put_p93 (v : AV) (T : Fr) : putD (some p93) v T = sN T 93 v := rfl
@[go_sem] theorem ev_x94 (T : Fr) : ev T x94 = gN T 94 := rfl
@[go_sem] theorem at_p94 (T : Fr) : Fr.at_ T p94 = gN T 94 := rfl
@[go_sem] theorem put_p94 (v : AV) (T : Fr) : putD (some p94) v T = sN T 94 v := rfl
@[go_sem] theorem ev_x95 (T : Fr) : ev T x95 = gN T 95 := rfl
@[go_sem] theorem at_p95 (T : Fr) : Fr.at_ T p95 = gN T 95 := rfl
@[go_sem] theorem put_p95 (v : AV) (T : Fr) : putD (some p95) v T = sN T 95 v := rfl
@[go_sem] theorem ev_x96 (T : Fr) : ev T x96 = gN T 96 := rfl
@[go_sem] theorem at_p96 (T : Fr) : Fr.at_ T p96 = gN T 96 := rfl
@[go_sem] theorem put_p96 (v : AV) (T : Fr) : putD (some p96) v T = sN T 96 v := rfl
@[go_sem] theorem ev_x97 (T : Fr) : ev T x97 = gN T 97 := rfl
@[go_sem] theorem at_p97 (T : Fr) : Fr.at_ T p97 = gN T 97 := rfl
@[go_sem] theorem put_p97 (v : AV) (T : Fr) : putD (some p97) v T = sN T 97 v := rfl
@[go_sem] theorem ev_x98 (T : Fr) : ev T x98 = gN T 98 := rfl
@[go_sem] theorem at_p98 (T : Fr) : Fr.at_ T p98 = gN T 98 := rfl
@[go_sem] theorem put_p98 (v : AV) (T : Fr) : putD (some p98) v T = sN T 98 v := rfl
@[go_sem] theorem ev_x99 (T : Fr) : ev T x99 = gN T 99 := rfl
@[go_sem] theorem at_p99 (T : Fr) : Fr.at_ T p99 = gN T 99 := rfl
@[go_sem] theorem put_p99 (v : AV) (T : Fr) : putD (some p99) v T = sN T 99 v := rfl
@[go_sem] theorem ev_x100 (T : Fr) : ev T x100 = gN T 100 := rfl
@[go_sem] theorem at_p100 (T : Fr) : Fr.at_ T p100 = gN T 100 := rfl
@[go_sem] theorem put_p100 (v : AV) (T : Fr) : putD (some p100) v T = sN T 100 v := rfl
@[go_sem] theorem ev_x101 (T : Fr) : ev T x101 = gN T 101 := rfl
@[go_sem] theorem at_p101 (T : Fr) : Fr.at_ T p101 = gN T 101 := rfl
@[go_sem] theorem put_p101 (v : AV) (T : Fr) : putD (some p101) v T = sN T 101 v := rfl
@[go_sem] theorem ev_x102 (T : Fr) : ev T x102 = gN T 102 := rfl
@[go_sem] theorem at_p102 (T : Fr) : Fr.at_ T p102 = gN T 102 := rfl
@[go_sem] theorem put_p102 (v : AV) (T : Fr) : putD (some p102) v T = sN T 102 v := rfl
@[go_sem] theorem ev_x103 (T : Fr) : ev T x103 = gN T 103 := rfl
@[go_sem] theorem at_p103 (T : Fr) : Fr.at_ T p103 = gN T 103 := rfl
@[go_sem] theorem put_p103 (v : AV) (T : Fr) : putD (some p103) v T = sN T 103 v := rfl
@[go_sem] theorem ev_x104 (T : Fr) : ev T x104 = gN T 104 := rfl
@[go_sem] theorem at_p104 (T : Fr) : Fr.at_ T p104 = gN T 104 := rfl
@[go_sem] theorem put_p104 (v : AV) (T : Fr) : putD (some p104) v T = sN T 104 v := rfl
@[go_sem] theorem ev_x105 (T : Fr) : ev T x105 = gN T 105 := rfl
@[go_sem] theorem at_p105 (T : Fr) : Fr.at_ T p105 = gN T 105 := rfl
@[go_sem] theorem put_p105 (v : AV) (T : Fr) : putD (some p105) v T = sN T 105 v := rfl
@[go_sem] theorem ev_x106 (T : Fr) : ev T x106 = gN T 106 := rfl
@[go_sem] theorem at_p106 (T : Fr) : Fr.at_ T p106 = gN T 106 := rfl
@[go_sem] theorem put_p106 (v : AV) (T : Fr) : putD (some p106) v T = sN T 106 v := rfl
@[go_sem] theorem ev_x107 (T : Fr) : ev T x107 = gN T 107 := rfl
@[go_sem] theorem at_p107 (T : Fr) : Fr.at_ T p107 = gN T 107 := rfl
@[go_sem] theorem put_p107 (v : AV) (T : Fr) : putD (some p107) v T = sN T 107 v := rfl
@[go_sem] theorem ev_x108 (T : Fr) : ev T x108 = gN T 108 := rfl
@[go_sem] theorem at_p108 (T : Fr) : Fr.at_ T p108 = gN T 108 := rfl
@[go_sem] theorem put_p108 (v : AV) (T : Fr) : putD (some p108) v T = sN T 108 v := rfl
@[go_sem] theorem ev_x109 (T : Fr) : ev T x109 = gN T 109 := rfl
@[go_sem] theorem at_p109 (T : Fr) : Fr.at_ T p109 = gN T 109 := rfl
@[go_sem] theorem put_p109 (v : AV) (T : Fr) : putD (some p109) v T = sN T 109 v := rfl
@[go_sem] theorem ev_x110 (T : Fr) : ev T x110 = gN T 110 := rfl
@[go_sem] theorem at_p110 (T : Fr) : Fr.at_ T p110 = gN T 110 := rfl
@[go_sem] theorem put_p110 (v : AV) (T : Fr) : putD (some p110) v T = sN T 110 v := rfl
@[go_sem] theorem ev_x111 (T : Fr) : ev T x111 = gN T 111 := rfl
@[go_sem] theorem at_p111 (T : Fr) : Fr.at_ T p111 = gN T 111 := rfl
@[go_sem] theorem put_p111 (v : AV) (T : Fr) : putD (some p111) v T = sN T 111 v := rfl
@[go_sem] theorem ev_x112 (T : Fr) : ev T x112 = gN T 112 := rfl
@[go_sem] theorem at_p112 (T : Fr) : Fr.at_ T p112 = gN T 112 := rfl
@[go_sem] theorem put_p112 (v : AV) (T : Fr) : putD (some p112) v T = sN T 112 v := rfl
@[go_sem] theorem ev_x113 (T : Fr) : ev T x113 = gN T 113 := rfl
@[go_sem] theorem at_p113 (T : Fr) : Fr.at_ T p113 = gN T 113 := rfl
@[go_sem] theorem put_p113 (v : AV) (T : Fr) : putD (some p113) v T = sN T 113 v := rfl
@[go_sem] theorem ev_x114 (T : Fr) : ev T x114 = gN T 114 := rfl
@[go_sem] theorem at_p114 (T : Fr) : Fr.at_ T p114 = gN T 114 := rfl
@[go_sem] theorem put_p114 (v : AV) (T : Fr) : putD (some p114) v T = sN T 114 v := rfl
@[go_sem] theorem ev_x115 (T : Fr) : ev T x115 = gN T 115 := rfl
@[go_sem] theorem at_p115 (T : Fr) : Fr.at_ T p115 = gN T 115 := rfl
@[go_sem] theorem put_p115 (v : AV) (T : Fr) : putD (some p115) v T = sN T 115 v := rfl
@[go_sem] theorem ev_x116 (T : Fr) : ev T x116 = gN T 116 := rfl
@[go_sem] theorem at_p116 (T : Fr) : Fr.at_ T p116 = gN T 116 := rfl
@[go_sem] theorem put_p116 (v : AV) (T : Fr) : putD (some p116) v T = sN T 116 v := rfl
@[go_sem] theorem ev_x117 (T : Fr) : ev T x117 = gN T 117 := rfl
@[go_sem] theorem at_p117 (T : Fr) : Fr.at_ T p117 = gN T 117 := rfl
@[go_sem] theorem put_p117 (v : AV) (T : Fr) : putD (some p117) v T = sN T 117 v := rfl
@[go_sem] theorem ev_x118 (T : Fr) : ev T x118 = gN T 118 := rfl
@[go_sem] theorem at_p118 (T : Fr) : Fr.at_ T p118 = gN T 118 := rfl
@[go_sem] theorem put_p118 (v : AV) (T : Fr) : putD (some p118) v T = sN T 118 v := rfl
@[go_sem] theorem ev_x119 (T : Fr) : ev T x119 = gN T 119 := rfl
@[go_sem] theorem at_p119 (T : Fr) : Fr.at_ T p119 = gN T 119 := rfl
@[go_sem] theorem put_p119 (v : AV) (T : Fr) : putD (some p119) v T = sN T 119 v := rfl
@[go_sem] theorem ev_x120 (T : Fr) : ev T x120 = gN T 120 := rfl
@[go_sem] theorem at_p120 (T : Fr) : Fr.at_ T p120 = gN T 120 := rfl
@[go_sem] theorem put_p120 (v : AV) (T : Fr) : putD (some p120) v T = sN T 120 v := rfl
@[go_sem] theorem ev_x121 (T : Fr) : ev T x121 = gN T 121 := rfl
@[go_sem] theorem at_p121 (T : Fr) : Fr.at_ T p121 = gN T 121 := rfl
@[go_sem] theorem put_p121 (v : AV) (T : Fr) : putD (some p121) v T = sN T 121 v := rfl
@[go_sem] theorem ev_x122 (T : Fr) : ev T x122 = gN T 122 := rfl
@[go_sem] theorem at_p122 (T : Fr) : Fr.at_ T p122 = gN T 122 := rfl
@[go_sem] theorem put_p122 (v : AV) (T : Fr) : putD (some p122) v T = sN T 122 v := rfl
@[go_sem] theorem ev_x123 (T : Fr) : ev T x123 = gN T 123 := rfl
@[go_sem] theorem at_p123 (T : Fr) : Fr.at_ T p123 = gN T 123 := rfl
@[go_sem] theorem put_p123 (v : AV) (T : Fr) : putD (some p123) v T = sN T 123 v := rfl
@[go_sem] theorem ev_x124 (T : Fr) : ev T x124 = gN T 124 := rfl
@[go_sem] theorem at_p124 (T : Fr) : Fr.at_ T p124 = gN T 124 := rfl
@[go_sem] theorem put_p124 (v : AV) (T : Fr) : putD (some p124) v T = sN T 124 v := rfl
@[go_sem] theorem ev_x125 (T : Fr) : ev T x125 = gN T 125 := rfl
@[go_sem] theorem at_p125 (T : Fr) : Fr.at_ T p125 = gN T 125 := rfl
@[go_sem] theorem put_p125 (v : AV) (T : Fr) : putD (some p125) v T = sN T 125 v := rfl
@[go_sem] theorem ev_x126 (T : Fr) : ev T x126 = gN T 126 := rfl
@[go_sem] theorem at_p126 (T : Fr) : Fr.at_ T p126 = gN T 126 := rfl
@[go_sem] theorem put_p126 (v : AV) (T : Fr) : putD (some p126) v T = sN T 126 v := rfl
@[go_sem] theorem ev_x127 (T : Fr) : ev T x127 = gN T 127 := rfl
@[go_sem] theorem at_p127 (T : Fr) : Fr.at_ T p127 = gN T 127 := rfl
@[go_sem] theorem put_p127 (v : AV) (T : Fr) : putD (some p127) v T = sN T 127 v := rfl
@[go_sem] theorem ev_x128 (T : Fr) : ev T x128 = gN T 128 := rfl
@[go_sem] theorem at_p128 (T : Fr) : Fr.at_ T p128 = gN T 128 := rfl
@[go_sem] theorem put_p128 (v : AV) (T : Fr) : putD (some p128) v T = sN T 128 v := rfl
@[go_sem] theorem ev_x129 (T : Fr) : ev T x129 = gN T 129 := rfl
@[go_sem] theorem at_p129 (T : Fr) : Fr.at_ T p129 = gN T 129 := rfl
@[go_sem] theorem put_p129 (v : AV) (T : Fr) : putD (some p129) v T = sN T 129 v := rfl
@[go_sem] theorem ev_x130 (T : Fr) : ev T x130 = gN T 130 := rfl
@[go_sem] theorem at_p130 (T : Fr) : Fr.at_ T p130 = gN T 130 := rfl
@[go_sem] theorem put_p130 (v : AV) (T : Fr) : putD (some p130) v T = sN T 130 v := rfl
@[go_sem] theorem ev_x131 (T : Fr) : ev T x131 = gN T 131 := rfl
@[go_sem] theorem at_p131 (T : Fr) : Fr.at_ T p131 = gN T 131 := rfl
@[go_sem] theorem put_p131 (v : AV) (T : Fr) : putD (some p131) v T = sN T 131 v := rfl
@[go_sem] theorem ev_x132 (T : Fr) : ev T x132 = gN T 132 := rfl
@[go_sem] theorem at_p132 (T : Fr) : Fr.at_ T p132 = gN T 132 := rfl
@[go_sem] theorem put_p132 (v : AV) (T : Fr) : putD (some p132) v T = sN T 132 v := rfl
@[go_sem] theorem ev_x133 (T : Fr) : ev T x133 = gN T 133 := rfl
@[go_sem] theorem at_p133 (T : Fr) : Fr.at_ T p133 = gN T 133 := rfl
@[go_sem] theorem put_p133 (v : AV) (T : Fr) : putD (some p133) v T = sN T 133 v := rfl
@[go_sem] theorem ev_x134 (T : Fr) : ev T x134 = gN T 134 := rfl
@[go_sem] theorem at_p134 (T : Fr) : Fr.at_ T p134 = gN T 134 := rfl
@[go_sem] theorem put_p134 (v : AV) (T : Fr) : putD (some p134) v T = sN T 134 v := rfl
@[go_sem] theorem ev_x135 (T : Fr) : ev T x135 = gN T 135 := rfl
@[go_sem] theorem at_p135 (T : Fr) : Fr.at_ T p135 = gN T 135 := rfl
@[go_sem] theorem put_p135 (v : AV) (T : Fr) : putD (some p135) v T = sN T 135 v := rfl
@[go_sem] theorem ev_x136 (T : Fr) : ev T x136 = gN T 136 := rfl
@[go_sem] theorem at_p136 (T : Fr) : Fr.at_ T p136 = gN T 136 := rfl
@[go_sem] theorem put_p136 (v : AV) (T : Fr) : putD (some p136) v T = sN T 136 v := rfl
@[go_sem] theorem ev_x137 (T : Fr) : ev T x137 = gN T 137 := rfl
@[go_sem] theorem at_p137 (T : Fr) : Fr.at_ T p137 = gN T 137 := rfl
@[go_sem] theorem put_p137 (v : AV) (T : Fr) : putD (some p137) v T = sN T 137 v := rfl
@[go_sem] theorem ev_x138 (T : Fr) : ev T x138 = gN T 138 := rfl
@[go_sem] theorem at_p138 (T : Fr) : Fr.at_ T p138 = gN T 138 := rfl
@[go_sem] theorem put_p138 (v : AV) (T : Fr) : putD (some p138) v T = sN T 138 v := rfl
@[go_sem] theorem ev_x139 (T : Fr) : ev T x139 = gN T 139 := rfl
@[go_sem] theorem at_p139 (T : Fr) : Fr.at_ T p139 = gN T 139 := rfl
@[go_sem] theorem put_p139 (v : AV) (T : Fr) : putD (some p139) v T = sN T 139 v := rfl
@[go_sem] theorem ev_x140 (T : Fr) : ev T x140 = gN T 140 := rfl
@[go_sem] theorem at_p140 (T : Fr) : Fr.at_ T p140 = gN T 140 := rfl
@[go_sem] theorem put_p140 (v : AV) (T : Fr) : putD (some p140) v T = sN T 140 v := rfl
@[go_sem] theorem ev_x141 (T : Fr) : ev T x141 = gN T 141 := rfl
@[go_sem] theorem at_p141 (T : Fr) : Fr.at_ T p141 = gN T 141 := rfl
@[go_sem] theorem put_p141 (v : AV) (T : Fr) : putD (some p141) v T = sN T 141 v := rfl
@[go_sem] theorem ev_x142 (T : Fr) : ev T x142 = gN T 142 := rfl
@[go_sem] theorem at_p142 (T : Fr) : Fr.at_ T p142 = gN T 142 := rfl
@[go_sem] theorem put_p142 (v : AV) (T : Fr) : putD (some p142) v T = sN T 142 v := rfl
@[go_sem] theorem ev_x143 (T : Fr) : ev T x143 = gN T 143 := rfl
@[go_sem] theorem at_p143 (T : Fr) : Fr.at_ T p143 = gN T 143 := rfl
@[go_sem] theorem put_p143 (v : AV) (T : Fr) : putD (some p143) v T = sN T 143 v := rfl
@[go_sem] theorem ev_x144 (T : Fr) : ev T x144 = gN T 144 := rfl
@[go_sem] theorem at_p144 (T : Fr) : Fr.at_ T p144 = gN T 144 := rfl
@[go_sem] theorem put_p144 (v : AV) (T : Fr) : putD (some p144) v T = sN T 144 v := rfl
@[go_sem] theorem ev_x145 (T : Fr) : ev T x145 = gN T 145 := rfl
@[go_sem] theorem at_p145 (T : Fr) : Fr.at_ T p145 = gN T 145 := rfl
@[go_sem] theorem put_p145 (v : AV) (T : Fr) : putD (some p145) v T = sN T 145 v := rfl
@[go_sem] theorem ev_x146 (T : Fr) : ev T x146 = gN T 146 := rfl
@[go_sem] theorem at_p146 (T : Fr) : Fr.at_ T p146 = gN T 146 := rfl
@[go_sem] theorem put_p146 (v : AV) (T : Fr) : putD (some p146) v T = sN T 146 v := rfl
@[go_sem] theorem ev_x147 (T : Fr) : ev T x147 = gN T 147 := rfl
@[go_sem] theorem at_p147 (T : Fr) : Fr.at_ T p147 = gN T 147 := rfl
@[go_sem] theorem put_p147 (v : AV) (T : Fr) : putD (some p147) v T = sN T 147 v := rfl
@[go_sem] theorem ev_x148 (T : Fr) : ev T x148 = gN T 148 := rfl
@[go_sem] theorem at_p148 (T : Fr) : Fr.at_ T p148 = gN T 148 := rfl
@[go_sem] theorem put_p148 (v : AV) (T : Fr) : putD (some p148) v T = sN T 148 v := rfl
@[go_sem] theorem ev_x149 (T : Fr) : ev T x149 = gN T 149 := rfl
@[go_sem] theorem at_p149 (T : Fr) : Fr.at_ T p149 = gN T 149 := rfl
@[go_sem] theorem put_p149 (v : AV) (T : Fr) : putD (some p149) v T = sN T 149 v := rfl
@[go_sem] theorem ev_x150 (T : Fr) : ev T x150 = gN T 150 := rfl
@[go_sem] theorem at_p150 (T : Fr) : Fr.at_ T p150 = gN T 150 := rfl
@[go_sem] theorem put_p150 (v : AV) (T : Fr) : putD (some p150) v T = sN T 150 v := rfl
@[go_sem] theorem ev_x151 (T : Fr) : ev T x151 = gN T 151 := rfl
@[go_sem] theorem at_p151 (T : Fr) : Fr.at_ T p151 = gN T 151 := rfl
@[go_sem] theorem put_p151 (v : AV) (T : Fr) : putD (some p151) v T = sN T 151 v := rfl
@[go_sem] theorem ev_x152 (T : Fr) : ev T x152 = gN T 152 := rfl
@[go_sem] theorem at_p152 (T : Fr) : Fr.at_ T p152 = gN T 152 := rfl
@[go_sem] theorem put_p152 (v : AV) (T : Fr) : putD (some p152) v T = sN T 152 v := rfl
@[go_sem] theorem ev_x153 (T : Fr) : ev T x153 = gN T 153 := rfl
@[go_sem] theorem at_p153 (T : Fr) : Fr.at_ T p153 = gN T 153 := rfl
@[go_sem] theorem put_p153 (v : AV) (T : Fr) : putD (some p153) v T = sN T 153 v := rfl
@[go_sem] theorem ev_x154 (T : Fr) : ev T x154 = gN T 154 := rfl
@[go_sem] theorem at_p154 (T : Fr) : Fr.at_ T p154 = gN T 154 := rfl
@[go_sem] theorem put_p154 (v : AV) (T : Fr) : putD (some p154) v T = sN T 154 v := rfl
@[go_sem] theorem ev_x155 (T : Fr) : ev T x155 = gN T 155 := rfl
@[go_sem] theorem at_p155 (T : Fr) : Fr.at_ T p155 = gN T 155 := rfl
@[go_sem] theorem put_p155 (v : AV) (T : Fr) : putD (some p155) v T = sN T 155 v := rfl
@[go_sem] theorem ev_x156 (T : Fr) : ev T x156 = gN T 156 := rfl
@[go_sem] theorem at_p156 (T : Fr) : Fr.at_ T p156 = gN T 156 := rfl
@[go_sem] theorem put_p156 (v : AV) (T : Fr) : putD (some p156) v T = sN T 156 v := rfl
@[go_sem] theorem ev_x157 (T : Fr) : ev T x157 = gN T 157 := rfl
@[go_sem] theorem at_p157 (T : Fr) : Fr.at_ T p157 = gN T 157 := rfl
@[go_sem] theorem put_p157 (v : AV) (T : Fr) : putD (some p157) v T = sN T 157 v := rfl
@[go_sem] theorem ev_x158 (T : Fr) : ev T x158 = gN T 158 := rfl
@[go_sem] theorem at_p158 (T : Fr) : Fr.at_ T p158 = gN T 158 := rfl
@[go_sem] theorem put_p158 (v : AV) (T : Fr) : putD (some p158) v T = sN T 158 v := rfl
@[go_sem] theorem ev_x159 (T : Fr) : ev T x159 = gN T 159 := rfl
@[go_sem] theorem at_p159 (T : Fr) : Fr.at_ T p159 = gN T 159 := rfl
@[go_sem] theorem put_p159 (v : AV) (T : Fr) : putD (some p159) v T = sN T 159 v := rfl
@[go_sem] theorem ev_x160 (T : Fr) : ev T x160 = gN T 160 := rfl
@[go_sem] theorem at_p160 (T : Fr) : Fr.at_ T p160 = gN T 160 := rfl
@[go_sem] theorem put_p160 (v : AV) (T : Fr) : putD (some p160) v T = sN T 160 v := rfl
@[go_sem] theorem ev_x161 (T : Fr) : ev T x161 = gN T 161 := rfl
@[go_sem] theorem at_p161 (T : Fr) : Fr.at_ T p161 = gN T 161 := rfl
@[go_sem] theorem put_p161 (v : AV) (T : Fr) : putD (some p161) v T = sN T 161 v := rfl
@[go_sem] theorem ev_x162 (T : Fr) : ev T x162 = gN T 162 := rfl
@[go_sem] theorem at_p162 (T : Fr) : Fr.at_ T p162 = gN T 162 := rfl
@[go_sem] theorem put_p162 (v : AV) (T : Fr) : putD (some p162) v T = sN T 162 v := rfl
@[go_sem] theorem ev_x163 (T : Fr) : ev T x163 = gN T 163 := rfl
@[go_sem] theorem at_p163 (T : Fr) : Fr.at_ T p163 = gN T 163 := rfl
@[go_sem] theorem put_p163 (v : AV) (T : Fr) : putD (some p163) v T = sN T 163 v := rfl
@[go_sem] theorem ev_x164 (T : Fr) : ev T x164 = gN T 164 := rfl
@[go_sem] theorem at_p164 (T : Fr) : Fr.at_ T p164 = gN T 164 := rfl
@[go_sem] theorem put_p164 (v : AV) (T : Fr) : putD (some p164) v T = sN T 164 v := rfl
@[go_sem] theorem ev_x165 (T : Fr) : ev T x165 = gN T 165 := rfl
@[go_sem] theorem at_p165 (T : Fr) : Fr.at_ T p165 = gN T 165 := rfl
@[go_sem] theorem put_p165 (v : AV) (T : Fr) : putD (some p165) v T = sN T 165 v := rfl
@[go_sem] theorem ev_x166 (T : Fr) : ev T x166 = gN T 166 := rfl
@[go_sem] theorem at_p166 (T : Fr) : Fr.at_ T p166 = gN T 166 := rfl
@[go_sem] theorem put_p166 (v : AV) (T : Fr) : putD (some p166) v T = sN T 166 v := rfl
@[go_sem] theorem ev_x167 (T : Fr) : ev T x167 = gN T 167 := rfl
@[go_sem] theorem at_p167 (T : Fr) : Fr.at_ T p167 = gN T 167 := rfl
@[go_sem] theorem put_p167 (v : AV) (T : Fr) : putD (some p167) v T = sN T 167 v := rfl
@[go_sem] theorem ev_x168 (T : Fr) : ev T x168 = gN T 168 := rfl
@[go_sem] theorem at_p168 (T : Fr) : Fr.at_ T p168 = gN T 168 := rfl
@[go_sem] theorem put_p168 (v : AV) (T : Fr) : putD (some p168) v T = sN T 168 v := rfl
@[go_sem] theorem ev_x169 (T : Fr) : ev T x169 = gN T 169 := rfl
@[go_sem] theorem at_p169 (T : Fr) : Fr.at_ T p169 = gN T 169 := rfl
@[go_sem] theorem put_p169 (v : AV) (T : Fr) : putD (some p169) v T = sN T 169 v := rfl
@[go_sem] theorem ev_x170 (T : Fr) : ev T x170 = gN T 170 := rfl
@[go_sem] theorem at_p170 (T : Fr) : Fr.at_ T p170 = gN T 170 := rfl
@[go_sem] theorem put_p170 (v : AV) (T : Fr) : putD (some p170) v T = sN T 170 v := rfl
@[go_sem] theorem ev_x171 (T : Fr) : ev T x171 = gN T 171 := rfl
@[go_sem] theorem at_p171 (T : Fr) : Fr.at_ T p171 = gN T 171 := rfl
@[go_sem] theorem put_p171 (v : AV) (T : Fr) : putD (some p171) v T = sN T 171 v := rfl
@[go_sem] theorem ev_x172 (T : Fr) : ev T x172 = gN T 172 := rfl
@[go_sem] theorem at_p172 (T : Fr) : Fr.at_ T p172 = gN T 172 := rfl
@[go_sem] theorem put_p172 (v : AV) (T : Fr) : putD (some p172) v T = sN T 172 v := rfl
@[go_sem] theorem ev_x173 (T : Fr) : ev T x173 = gN T 173 := rfl
@[go_sem] theorem at_p173 (T : Fr) : Fr.at_ T p173 = gN T 173 := rfl
@[go_sem] theorem put_p173 (v : AV) (T : Fr) : putD (some p173) v T = sN T 173 v := rfl
@[go_sem] theorem ev_x174 (T : Fr) : ev T x174 = gN T 174 := rfl
@[go_sem] theorem at_p174 (T : Fr) : Fr.at_ T p174 = gN T 174 := rfl
@[go_sem] theorem put_p174 (v : AV) (T : Fr) : putD (some p174) v T = sN T 174 v := rfl
@[go_sem] theorem ev_x175 (T : Fr) : ev T x175 = gN T 175 := rfl
@[go_sem] theorem at_p175 (T : Fr) : Fr.at_ T p175 = gN T 175 := rfl
@[go_sem] theorem put_p175 (v : AV) (T : Fr) : putD (some p175) v T = sN T 175 v := rfl
@[go_sem] theorem ev_x176 (T : Fr) : ev T x176 = gN T 176 := rfl
@[go_sem] theorem at_p176 (T : Fr) : Fr.at_ T p176 = gN T 176 := rfl
@[go_sem] theorem put_p176 (v : AV) (T : Fr) : putD (some p176) v T = sN T 176 v := rfl
@[go_sem] theorem ev_x177 (T : Fr) : ev T x177 = gN T 177 := rfl
@[go_sem] theorem at_p177 (T : Fr) : Fr.at_ T p177 = gN T 177 := rfl
@[go_sem] theorem put_p177 (v : AV) (T : Fr) : putD (some p177) v T = sN T 177 v := rfl
@[go_sem] theorem ev_x178 (T : Fr) : ev T x178 = gN T 178 := rfl
@[go_sem] theorem at_p178 (T : Fr) : Fr.at_ T p178 = gN T 178 := rfl
@[go_sem] theorem put_p178 (v : AV) (T : Fr) : putD (some p178) v T = sN T 178 v := rfl
@[go_sem] theorem ev_x179 (T : Fr) : ev T x179 = gN T 179 := rfl
@[go_sem] theorem at_p179 (T : Fr) : Fr.at_ T p179 = gN T 179 := rfl
@[go_sem] theorem put_p179 (v : AV) (T : Fr) : putD (some p179) v T = sN T 179 v := rfl
@[go_sem] theorem ev_x180 (T : Fr) : ev T x180 = gN T 180 := rfl
@[go_sem] theorem at_p180 (T : Fr) : Fr.at_ T p180 = gN T 180 := rfl
@[go_sem] theorem put_p180 (v : AV) (T : Fr) : putD (some p180) v T = sN T 180 v := rfl
@[go_sem] theorem ev_x181 (T : Fr) : ev T x181 = gN T 181 := rfl
@[go_sem] theorem at_p181 (T : Fr) : Fr.at_ T p181 = gN T 181 := rfl
@[go_sem] theorem put_p181 (v : AV) (T : Fr) : putD (some p181) v T = sN T 181 v := rfl
@[go_sem] theorem ev_x182 (T : Fr) : ev T x182 = gN T 182 := rfl
@[go_sem] theorem at_p182 (T : Fr) : Fr.at_ T p182 = gN T 182 := rfl
@[go_sem] theorem put_p182 (v : AV) (T : Fr) : putD (some p182) v T = sN T 182 v := rfl
@[go_sem] theorem ev_x183 (T : Fr) : ev T x183 = gN T 183 := rfl
@[go_sem] theorem at_p183 (T : Fr) : Fr.at_ T p183 = gN T 183 := rfl
@[go_sem] theorem put_p183 (v : AV) (T : Fr) : putD (some p183) v T = sN T 183 v := rfl
@[go_sem] theorem ev_x184 (T : Fr) : ev T x184 = gN T 184 := rfl
@[go_sem] theorem at_p184 (T : Fr) : Fr.at_ T p184 = gN T 184 := rfl
@[go_sem] theorem put_p184 (v : AV) (T : Fr) : putD (some p184) v T = sN T 184 v := rfl
@[go_sem] theorem ev_x185 (T : Fr) : ev T x185 = gN T 185 := rfl
@[go_sem] theorem at_p185 (T : Fr) : Fr.at_ T p185 = gN T 185 := rfl
@[go_sem] theorem put_p185 (v : AV) (T : Fr) : putD (some p185) v T = sN T 185 v := rfl
@[go_sem] theorem ev_x186 (T : Fr) : ev T x186 = gN T 186 := rfl
@[go_sem] theorem at_p186 (T : Fr) : Fr.at_ T p186 = gN T 186 := rfl
@[go_sem] theorem put_p186 (v : AV) (T : Fr) : putD (some p186) v T = sN T 186 v := rfl
@[go_sem] theorem ev_x187 (T : Fr) : ev T x187 = gN T 187 := rfl
@[go_sem] theorem at_p187 (T : Fr) : Fr.at_ T p187 = gN T 187 := rfl
@[go_sem] theorem put_p187 (v : AV) (T : Fr) : putD (some p187) v T = sN T 187 v := rfl
@[go_sem] theorem ev_x188 (T : Fr) : ev T x188 = gN T 188 := rfl
@[go_sem] theorem at_p188 (T : Fr) : Fr.at_ T p188 = gN T 188 := rfl
@[go_sem] theorem put_p188 (v : AV) (T : Fr) : putD (some p188) v T = sN T 188 v := rfl
@[go_sem] theorem ev_x189 (T : Fr) : ev T x189 = gN T 189 := rfl
@[go_sem] theorem at_p189 (T : Fr) : Fr.at_ T p189 = gN T 189 := rfl
@[go_sem] theorem put_p189 (v : AV) (T : Fr) : putD (some p189) v T = sN T 189 v := rfl
@[go_sem] theorem ev_x190 (T : Fr) : ev T x190 = gN T 190 := rfl
@[go_sem] theorem at_p190 (T : Fr) : Fr.at_ T p190 = gN T 190 := rfl
@[go_sem] theorem put_p190 (v : AV) (T : Fr) : putD (some p190) v T = sN T 190 v := rfl
@[go_sem] theorem ev_x191 (T : Fr) : ev T x191 = gN T 191 := rfl
@[go_sem] theorem at_p191 (T : Fr) : Fr.at_ T p191 = gN T 191 := rfl
@[go_sem] theorem put_p191 (v : AV) (T : Fr) : putD (some p191) v T = sN T 191 v := rfl
@[go_sem] theorem ev_x192 (T : Fr) : ev T x192 = gN T 192 := rfl
@[go_sem] theorem at_p192 (T : Fr) : Fr.at_ T p192 = gN T 192 := rfl
@[go_sem] theorem put_p192 (v : AV) (T : Fr) : putD (some p192) v T = sN T 192 v := rfl
@[go_sem] theorem ev_x193 (T : Fr) : ev T x193 = gN T 193 := rfl
@[go_sem] theorem at_p193 (T : Fr) : Fr.at_ T p193 = gN T 193 := rfl
@[go_sem] theorem put_p193 (v : AV) (T : Fr) : putD (some p193) v T = sN T 193 v := rfl
@[go_sem] theorem ev_x194 (T : Fr) : ev T x194 = gN T 194 := rfl
@[go_sem] theorem at_p194 (T : Fr) : Fr.at_ T p194 = gN T 194 := rfl
@[go_sem] theorem put_p194 (v : AV) (T : Fr) : putD (some p194) v T = sN T 194 v := rfl
@[go_sem] theorem ev_x195 (T : Fr) : ev T x195 = gN T 195 := rfl
@[go_sem] theorem at_p195 (T : Fr) : Fr.at_ T p195 = gN T 195 := rfl
@[go_sem] theorem put_p195 (v : AV) (T : Fr) : putD (some p195) v T = sN T 195 v := rfl
@[go_sem] theorem ev_x196 (T : Fr) : ev T x196 = gN T 196 := rfl
@[go_sem] theorem at_p196 (T : Fr) : Fr.at_ T p196 = gN T 196 := rfl
@[go_sem] theorem put_p196 (v : AV) (T : Fr) : putD (some p196) v T = sN T 196 v := rfl
@[go_sem] theorem ev_x197 (T : Fr) : ev T x197 = gN T 197 := rfl
@[go_sem] theorem at_p197 (T : Fr) : Fr.at_ T p197 = gN T 197 := rfl
@[go_sem] theorem put_p197 (v : AV) (T : Fr) : putD (some p197) v T = sN T 197 v := rfl
@[go_sem] theorem ev_x198 (T : Fr) : ev T x198 = gN T 198 := rfl
@[go_sem] theorem at_p198 (T : Fr) : Fr.at_ T p198 = gN T 198 := rfl
@[go_sem] theorem put_p198 (v : AV) (T : Fr) : putD (some p198) v T = sN T 198 v := rfl
@[go_sem] theorem ev_x199 (T : Fr) : ev T x199 = gN T 199 := rfl
@[go_sem] theorem at_p199 (T : Fr) : Fr.at_ T p199 = gN T 199 := rfl
@[go_sem] theorem put_p199 (v : AV) (T : Fr) : putD (some p199) v T = sN T 199 v := rfl
@[go_sem] theorem ev_x200 (T : Fr) : ev T x200 = gN T 200 := rfl
@[go_sem] theorem at_p200 (T : Fr) : Fr.at_ T p200 = gN T 200 := rfl
@[go_sem] theorem put_p200 (v : AV) (T : Fr) : putD (some p200) v T = sN T 200 v := rfl
@[go_sem] theorem ev_x201 (T : Fr) : ev T x201 = gN T 201 := rfl
@[go_sem] theorem at_p201 (T : Fr) : Fr.at_ T p201 = gN T 201 := rfl
@[go_sem] theorem put_p201 (v : AV) (T : Fr) : putD (some p201) v T = sN T 201 v := rfl
@[go_sem] theorem ev_x202 (T : Fr) : ev T x202 = gN T 202 := rfl
@[go_sem] theorem at_p202 (T : Fr) : Fr.at_ T p202 = gN T 202 := rfl
@[go_sem] theorem put_p202 (v : AV) (T : Fr) : putD (some p202) v T = sN T 202 v := rfl
@[go_sem] theorem ev_x203 (T : Fr) : ev T x203 = gN T 203 := rfl
@[go_sem] theorem at_p203 (T : Fr) : Fr.at_ T p203 = gN T 203 := rfl
@[go_sem] theorem put_p203 (v : AV) (T : Fr) : putD (some p203) v T = sN T 203 v := rfl
@[go_sem] theorem ev_x204 (T : Fr) : ev T x204 = gN T 204 := rfl
@[go_sem] theorem at_p204 (T : Fr) : Fr.at_ T p204 = gN T 204 := rfl
@[go_sem] theorem put_p204 (v : AV) (T : Fr) : putD (some p204) v T = sN T 204 v := rfl
@[go_sem] theorem ev_x205 (T : Fr) : ev T x205 = gN T 205 := rfl
@[go_sem] theorem at_p205 (T : Fr) : Fr.at_ T p205 = gN T 205 := rfl
@[go_sem] theorem put_p205 (v : AV) (T : Fr) : putD (some p205) v T = sN T 205 v := rfl
@[go_sem] theorem ev_x206 (T : Fr) : ev T x206 = gN T 206 := rfl
@[go_sem] theorem at_p206 (T : Fr) : Fr.at_ T p206 = gN T 206 := rfl
@[go_sem] theorem put_p206 (v : AV) (T : Fr) : putD (some p206) v T = sN T 206 v := rfl
@[go_sem] theorem ev_x207 (T : Fr) : ev T x207 = gN T 207 := rfl
@[go_sem] theorem at_p207 (T : Fr) : Fr.at_ T p207 = gN T 207 := rfl
@[go_sem] theorem put_p207 (v : AV) (T : Fr) : putD (some p207) v T = sN T 207 v := rfl
@[go_sem] theorem ev_x208 (T : Fr) : ev T x208 = gN T 208 := rfl
@[go_sem] theorem at_p208 (T : Fr) : Fr.at_ T p208 = gN T 208 := rfl
@[go_sem] theorem put_p208 (v : AV) (T : Fr) : putD (some p208) v T = sN T 208 v := rfl
@[go_sem] theorem ev_x209 (T : Fr) : ev T x209 = gN T 209 := rfl
@[go_sem] theorem at_p209 (T : Fr) : Fr.at_ T p209 = gN T 209 := rfl
@[go_sem] theorem put_p209 (v : AV) (T : Fr) : putD (some p209) v T = sN T 209 v := rfl
@[go_sem] theorem ev_x210 (T : Fr) : ev T x210 = gN T 210 := rfl
@[go_sem] theorem at_p210 (T : Fr) : Fr.at_ T p210 = gN T 210 := rfl
@[go_sem] theorem put_p210 (v : AV) (T : Fr) : putD (some p210) v T = sN T 210 v := rfl
@[go_sem] theorem ev_x211 (T : Fr) : ev T x211 = gN T 211 := rfl
@[go_sem] theorem at_p211 (T : Fr) : Fr.at_ T p211 = gN T 211 := rfl
@[go_sem] theorem put_p211 (v : AV) (T : Fr) : putD (some p211) v T = sN T 211 v := rfl
@[go_sem] theorem ev_x212 (T : Fr) : ev T x212 = gN T 212 := rfl
@[go_sem] theorem at_p212 (T : Fr) : Fr.at_ T p212 = gN T 212 := rfl
@[go_sem] theorem put_p212 (v : AV) (T : Fr) : putD (some p212) v T = sN T 212 v := rfl
@[go_sem] theorem ev_x213 (T : Fr) : ev T x213 = gN T 213 := rfl
@[go_sem] theorem at_p213 (T : Fr) : Fr.at_ T p213 = gN T 213 := rfl
@[go_sem] theorem put_p213 (v : AV) (T : Fr) : putD (some p213) v T = sN T 213 v := rfl
@[go_sem] theorem ev_x214 (T : Fr) : ev T x214 = gN T 214 := rfl
@[go_sem] theorem at_p214 (T : Fr) : Fr.at_ T p214 = gN T 214 := rfl
@[go_sem] theorem put_p214 (v : AV) (T : Fr) : putD (some p214) v T = sN T 214 v := rfl
@[go_sem] theorem ev_x215 (T : Fr) : ev T x215 = gN T 215 := rfl
@[go_sem] theorem at_p215 (T : Fr) : Fr.at_ T p215 = gN T 215 := rfl
@[go_sem] theorem put_p215 (v : AV) (T : Fr) : putD (some p215) v T = sN T 215 v := rfl
@[go_sem] theorem ev_x216 (T : Fr) : ev T x216 = gN T 216 := rfl
@[go_sem] theorem at_p216 (T : Fr) : Fr.at_ T p216 = gN T 216 := rfl
@[go_sem] theorem put_p216 (v : AV) (T : Fr) : putD (some p216) v T = sN T 216 v := rfl
@[go_sem] theorem ev_x217 (T : Fr) : ev T x217 = gN T 217 := rfl
@[go_sem] theorem at_p217 (T : Fr) : Fr.at_ T p217 = gN T 217 := rfl
@[go_sem] theorem put_p217 (v : AV) (T : Fr) : putD (some p217) v T = sN T 217 v := rfl
@[go_sem] theorem ev_x218 (T : Fr) : ev T x218 = gN T 218 := rfl
@[go_sem] theorem at_p218 (T : Fr) : Fr.at_ T p218 = gN T 218 := rfl
@[go_sem] theorem put_p218 (v : AV) (T : Fr) : putD (some p218) v T = sN T 218 v := rfl
@[go_sem] theorem ev_x219 (T : Fr) : ev T x219 = gN T 219 := rfl
@[go_sem] theorem at_p219 (T : Fr) : Fr.at_ T p219 = gN T 219 := rfl
@[go_sem] theorem put_p219 (v : AV) (T : Fr) : putD (some p219) v T = sN T 219 v := rfl
def trAll (q : AFn → Bool) : Tr AFn → Bool
  | .leaf => true
  | .node l v r => trAll q l && ((match v with | some x => q x | none => true) && trAll q r)
theorem trAll_get {q : AFn → Bool} : ∀ {t : Tr AFn} {p : List Bool} {x : AFn}, trAll q t = true → t.get p = some x → q x = true := by
  intro t p
  induction p generalizing t with
  | nil =>
    intro x h e
    cases t with
    | leaf => cases e
    | node l v r => simp only [trAll, Bool.and_eq_true] at h; simp only [Tr.get, Tr.val] at e; subst e; exact h.2.1
  | cons c p ih =>
    intro x h e
    cases t with
    | leaf => simp [Tr.get, Tr.kid, Tr.get_leaf] at e
    | node l v r =>
      simp only [trAll, Bool.and_eq_true] at h
      cases c with
      | false => exact ih h.1 e
      | true => exact ih h.2.2 e
theorem trC : trAll (fun x => okC x.body) tr = true := by kernel_rfl
theorem tokC {f : Nat} {fn : AFn} (h : tbl f = some fn) : okC fn.body = true := trAll_get (q := fun x => okC x.body) trC h
end Go.AM.T
/- The rules of the executor, by one word; lists that are frozen. -/
namespace Go.AM
open Go
section
variable {H : AHeap}
/-- a frozen list of things of es cells each -/
def lstE {α : Type} (es : Nat) (enc : α → List AV) (l : List α) : AV := .lst es l.length (l.flatMap enc)
/-- where its element k lies -/
def fpE {α : Type} (es : Nat) (enc : α → List AV) (l : List α) (k : Nat) : AV := .fp (k * es) (l.flatMap enc)
def encI (n : Int) : List AV := [.int .i64 n]
theorem len_lstE {α : Type} (es : Nat) (enc : α → List AV) (l : List α) : opLen false (lstE es enc l) = some (.int .i64 (l.length : Int)) := rfl
theorem idx_lstE {α : Type} {es : Nat} {enc : α → List AV} {l : List α} {i : Int} (h0 : 0 ≤ i) (h1 : i < l.length) : opIaddrS es (lstE es enc l) (.int .i64 i) = some (fpE es enc l i.toNat) := by
  have : Nat.ble (i.toNat + 1) l.length = true := Nat.ble_eq_true_of_le (by omega)
  simp [opIaddrS, lstE, asN_of h0, this, fpE]
theorem flat_get {α : Type} {es : Nat} {enc : α → List AV} (hE : ∀ x, (enc x).length = es) : ∀ {l : List α} {k : Nat} {x : α}, l[k]? = some x → rangeOf (k * es) es (l.flatMap enc) = some (enc x) := by
  intro l
  induction l with
  | nil => intro k x e; simp at e
  | cons y l ih =>
    intro k x e
    have hy := hE y
    cases k with
    | zero =>
      simp at e; subst e
      rw [rangeOf_iff]
      refine ⟨by simp; omega, ?_⟩
      simp [← hy]
    | succ k =>
      simp at e
      have := ih e
      rw [rangeOf_iff] at this ⊢
      obtain ⟨h1, h2⟩ := this
      refine ⟨by simp only [List.flatMap_cons, List.length_append, Nat.add_mul, hy]; omega, ?_⟩
      rw [h2, List.flatMap_cons, Nat.add_mul, Nat.one_mul, List.drop_append, hy]
      have : List.drop (k * es + es) (enc y) = [] := List.drop_eq_nil_of_le (by omega)
      rw [this, List.nil_append, Nat.add_sub_cancel]
theorem load_fpE {α : Type} {es : Nat} {enc : α → List AV} (hE : ∀ x, (enc x).length = es) {l : List α} {k : Nat} {x : α} (e : l[k]? = some x) (ag : Bool) : opLoad (fpE es enc l k) ag es H = ret H (mkVal ag (enc x)) := by
  simp only [opLoad, fpE, flat_get hE e, mkValO]
theorem load_fpI {l : List Int} {k : Nat} {x : Int} (e : l[k]? = some x) : opLoad (fpE 1 encI l k) false 1 H = some (.int .i64 x, H) := by
  rw [load_fpE (enc := encI) (fun _ => rfl) e]; rfl
end
theorem GoS.loopD {tbl : Nat → Option AFn} {k : List KI} {T : Fr} {H : AHeap} {Q : AExit → Fr → AHeap → Prop} {a a' : ACode} (e : a = a') (h : GoS tbl (.code a' :: .code (.loop a) :: k) .normal T H Q) : GoS tbl (.code (.loop a) :: k) .normal T H Q := by
  subst e; exact GoS.loop h
def nth {α : Type} [Inhabited α] (l : List α) (k : Nat) : α := l.getD k default
theorem nth_get {α : Type} [Inhabited α] {l : List α} {k : Nat} (h : k < l.length) : l[k]? = some (nth l k) := by
  unfold nth; rw [List.getD_eq_getElem?_getD, List.getElem?_eq_getElem h]; rfl
theorem loadI {H : AHeap} {l : List Int} {k : Nat} (h : k < l.length) : opLoad (fpE 1 encI l k) false 1 H = some (.int .i64 (nth l k), H) := load_fpI (nth_get h)
theorem dT {p : Prop} [Decidable p] (h : p) : decide p = true := decide_eq_true h
theorem dF {p : Prop} [Decidable p] (h : ¬p) : decide p = false := decide_eq_false h
theorem drop_nth {α : Type} [Inhabited α] {l : List α} {k : Nat} (h : k < l.length) : l.drop k = nth l k :: l.drop (k + 1) := by
  rw [List.drop_eq_getElem_cons h]
  congr 1
  have := nth_get h
  rw [List.getElem?_eq_getElem h] at this
  exact Option.some.inj this
/-- what is asked at a function's end -/
def Res (rs : List ARes) (H : AHeap) (P : AV → AHeap → Prop) (e : AExit) (T : Fr) (H' : AHeap) : Prop := (∀ i, e ≠ .exit i) ∧ ∃ vs, resRun rs T H' = some vs ∧ Fin H (oneOrTup vs) H' P
theorem res_ret {rs : List ARes} {H : AHeap} {P : AV → AHeap → Prop} {T : Fr} {H' : AHeap} : Res rs H P .ret T H' ↔ (match resRun rs T H' with | some vs => Fin H (oneOrTup vs) H' P | none => False) := by
  unfold Res
  cases resRun rs T H' <;> simp
theorem res_normal {rs : List ARes} {H : AHeap} {P : AV → AHeap → Prop} {T : Fr} {H' : AHeap} : Res rs H P .normal T H' ↔ (match resRun rs T H' with | some vs => Fin H (oneOrTup vs) H' P | none => False) := by
  unfold Res
  cases resRun rs T H' <;> simp
theorem oneOrTup_one (v : AV) : oneOrTup [v] = v := rfl
theorem oneOrTup_two (v w : AV) (r : List AV) : oneOrTup (v :: w :: r) = .tup (v :: w :: r) := rfl
theorem Fin.same {H0 H : AHeap} {r : AV} {P : AV → AHeap → Prop} (h : P r H) : Fin H0 r H P := .inl h
theorem T.callW {f : Nat} {fn : AFn} {args : List AV} {H : AHeap} {P : AV → AHeap → Prop} (hf : T.tbl f = some fn) (h : GoW T.tbl (Res fn.results H P) [.code fn.body] .normal (frameOf 0 args .leaf) H) : CallV T.tbl f args H P :=
  call_ofV hf (T.tokC hf) h.sound
attribute [go_sem] bump_code bump_ops bump_blk bump_drw bump_nil gl_nil gl_cons
attribute [go_sem] idx_lstE loadI Int.toNat_natCast bin_add bin_sub bin_mul Int.natCast_nonneg
attribute [go_sem] res_ret res_normal oneOrTup_one oneOrTup_two
attribute [go_sem] frameOf_cons frameOf_nil w_seq w_skip w_region w_mov w_mkfn w_bin w_eqv w_un w_convI w_mkif w_slice w_slstr w_faddr w_field w_iaddrS w_iaddrA w_idxA w_idxS w_extract w_len w_mx w_mn w_pick w_alloc w_box w_build w_bslice w_load w_store w_nilchk w_mkmap w_mkslice w_slarr w_lookup w_mapset w_append w_copy w_clear w_ops_nil w_guard w_block w_blk w_blk_ret w_blk_exit w_exit w_ret w_code_exit w_code_ret w_cond w_nil w_draw w_drw_nil w_drw_p w_drw_l w_drw_e w_drw_e2 w_drw_pre w_call w_callv w_loop w_rangef lOk_same preRun rcdsOk recD_same List.append_nil storeId opPick ev_c put_none evs_nil evs_cons optE_none optE_some parts_nil parts_cons asB_bool asW_bool asW_tupT asW_tupF match_asB gN_sN gN_leaf bin_lss bin_leq bin_gtr bin_geq bin_eql bin_neq decide_eq_true_eq unop_not Nat.zero_add resRun len_lstE
end Go.AM
namespace Go.AM.T
open Go Go.AM
theorem has_loop {k : List KI} {Q : AExit → Fr → AHeap → Prop} {H : AHeap} {l : List Int} {n : Int} (hl : l.length ≤ 1000000) : ∀ (d i : Nat) (T : Fr), i + d = l.length → gN T 0 = lstE 1 encI l → gN T 1 = iv n → gN T 5 = iv i →
    (∀ T', gN T' 4 = .bool true → n ∈ l.drop i → GoW tbl Q k .ret T' H) → (∀ T', n ∉ l.drop i → GoW tbl Q k (.exit 0) T' H) → GoS tbl (.code (.loop kc_ref33_has_l0) :: k) .normal T H Q := by
  intro d
  induction d with
  | zero =>
    intro i T hi t0 t1 t5 h1 h2
    refine GoS.loopD (a' := c_ref33_has_l0) rfl (GoW.sound ?_)
    simp (disch := (first | omega | (unfold InR; omega))) only [c_ref33_has_l0, go_sem, ↓reduceIte, Nat.reduceEqDiff, t0, t1, t5, dT, dF, Bool.false_eq_true]
    exact h2 _ (by rw [List.drop_eq_nil_of_le (by omega)]; simp)
  | succ d ih =>
    intro i T hi t0 t1 t5 h1 h2
    refine GoS.loopD (a' := c_ref33_has_l0) rfl (GoW.sound ?_)
    simp (disch := (first | omega | (unfold InR; omega))) only [c_ref33_has_l0, go_sem, ↓reduceIte, Nat.reduceEqDiff, t0, t1, t5, dT, dF, Bool.false_eq_true]
    have hd := drop_nth (l := l) (k := i) (by omega)
    split
    · rename_i e
      exact h1 _ (by simp only [go_sem, ↓reduceIte]) (by rw [hd, e]; simp)
    · rename_i e
      refine ih (i + 1) _ (by omega) ?_ ?_ ?_ (fun T' h h' => h1 T' h (by rw [hd]; simp [h'])) fun T' h => h2 T' (by rw [hd]; simp [h, Ne.symm e])
      all_goals simp only [go_sem, ↓reduceIte, Nat.reduceEqDiff, t0, t1, Int.natCast_add, Int.natCast_one]
theorem has_does {H : AHeap} {l : List Int} {n : Int} (hl : l.length ≤ 1000000) {P : AV → AHeap → Prop} (h : P (.bool (decide (n ∈ l))) H) : CallV tbl f_ref33_has [lstE 1 encI l, iv n] H P := by
  refine T.callW rfl ?_
  simp only [c_ref33_has, a25, go_sem, ↓reduceIte, Nat.reduceEqDiff]
  refine has_loop (n := n) hl l.length 0 _ (by omega) ?_ ?_ ?_ (fun T' h1 h2 => ?_) fun T' h2 => ?_
  · simp only [go_sem, ↓reduceIte, Nat.reduceEqDiff]
  · simp only [go_sem, ↓reduceIte, Nat.reduceEqDiff]
  · simp only [go_sem, ↓reduceIte, Nat.reduceEqDiff]; rfl
  · rw [List.drop_zero] at h2
    simp only [go_sem, h1]
    exact .same (by simpa [h2] using h)
  · rw [List.drop_zero] at h2
    simp only [go_sem, ↓reduceIte, Nat.reduceEqDiff]
    exact .same (by simpa [h2] using h)
end Go.AM.T
