/- The stable sort of the library, told for elements of any size (made by mktpl.py). -/
import Derived.Test.YtgdceghclckfhaaGreatA04
set_option linter.unusedVariables false
set_option linter.unusedSimpArgs false
namespace Go.AM.T
open Go Go.AM
def tSwap_l0 (es fS fR fM fI : Nat) (ag : Bool) : ACode := .seq (.seq (.region [o (some p11) (.mov x10),
  o (some p12) (.mov x3),
  o (some p13) (.bin .lss x11 x12)]) (.cond x13 (.skip) (.exit 0))) (.seq (.block 1 (.draw [(.p, o (some p16) (.mov x0)),
  (.p, o (some p17) (.mov x1)),
  (.p, o (some p18) (.mov x10)),
  (.p, o (some p19) (.bin .add x17 x18)),
  (.p, o (some p20) (.mov x0)),
  (.p, o (some p21) (.mov x2)),
  (.p, o (some p22) (.mov x10)),
  (.p, o (some p23) (.bin .add x21 x22)),
  (.p, o (some p24) (.mov x0)),
  (.p, o (some p25) (.mov x2)),
  (.p, o (some p26) (.mov x10)),
  (.p, o (some p27) (.bin .add x25 x26)),
  (.p, o (some p28) (.iaddrS es x24 x27)),
  (.l 0 0, o (some p29) (.load x28 ag es)),
  (.p, o (some p30) (.mov x0)),
  (.p, o (some p31) (.mov x1)),
  (.p, o (some p32) (.mov x10)),
  (.p, o (some p33) (.bin .add x31 x32)),
  (.p, o (some p34) (.iaddrS es x30 x33)),
  (.l 0 0, o (some p35) (.load x34 ag es)),
  (.p, o (some p36) (.iaddrS es x16 x19)),
  (.e, o none (.store x36 x29 es)),
  (.p, o (some p37) (.iaddrS es x20 x23)),
  (.e, o none (.store x37 x35 es))])) (.region [o (some p14) (.mov x10),
  o (some p15) (.bin .add x14 (.c (iv 1))),
  o (some p10) (.mov x15)]))
def ktSwap_l0 (es fS fR fM fI : Nat) (ag : Bool) : ACode := tSwap_l0 es fS fR fM fI ag
def tSwap (es fS fR fM fI : Nat) (ag : Bool) : ACode := .seq (.region [o (some p10) (.mov (.c (iv 0)))]) (.block 0 (.loop (ktSwap_l0 es fS fR fM fI ag)))
def tRot_l0 (es fS fR fM fI : Nat) (ag : Bool) : ACode := .seq (.seq (.region [o (some p18) (.mov x10),
  o (some p19) (.mov x11),
  o (some p20) (.bin .neq x18 x19)]) (.cond x20 (.skip) (.exit 0))) (.block 1 (.seq (.region [o (some p21) (.mov x10),
  o (some p22) (.mov x11),
  o (some p23) (.bin .gtr x21 x22)]) (.cond x23 (.seq (.region [o (some p24) (.mov x0),
  o (some p25) (.mov x2),
  o (some p26) (.mov x10),
  o (some p27) (.bin .sub x25 x26),
  o (some p28) (.mov x2),
  o (some p29) (.mov x11),
  o (some p30) (.mov x4),
  o (some p31) (.call fS [x24, x27, x28, x29, x30])]) (.region [o (some p32) (.mov x10),
  o (some p33) (.mov x11),
  o (some p34) (.bin .sub x32 x33),
  o (some p10) (.mov x34)])) (.seq (.region [o (some p35) (.mov x0),
  o (some p36) (.mov x2),
  o (some p37) (.mov x10),
  o (some p38) (.bin .sub x36 x37),
  o (some p39) (.mov x2),
  o (some p40) (.mov x11),
  o (some p41) (.bin .add x39 x40),
  o (some p42) (.mov x10),
  o (some p43) (.bin .sub x41 x42),
  o (some p44) (.mov x10),
  o (some p45) (.mov x4),
  o (some p46) (.call fS [x35, x38, x43, x44, x45])]) (.region [o (some p47) (.mov x11),
  o (some p48) (.mov x10),
  o (some p49) (.bin .sub x47 x48),
  o (some p11) (.mov x49)])))))
def ktRot_l0 (es fS fR fM fI : Nat) (ag : Bool) : ACode := tRot_l0 es fS fR fM fI ag
def tRot (es fS fR fM fI : Nat) (ag : Bool) : ACode := .seq (.region [o (some p12) (.mov x2),
  o (some p13) (.mov x1),
  o (some p14) (.bin .sub x12 x13),
  o (some p10) (.mov x14)]) (.seq (.region [o (some p15) (.mov x3),
  o (some p16) (.mov x2),
  o (some p17) (.bin .sub x15 x16),
  o (some p11) (.mov x17)]) (.seq (.block 0 (.loop (ktRot_l0 es fS fR fM fI ag))) (.region [o (some p50) (.mov x0),
  o (some p51) (.mov x2),
  o (some p52) (.mov x10),
  o (some p53) (.bin .sub x51 x52),
  o (some p54) (.mov x2),
  o (some p55) (.mov x10),
  o (some p56) (.mov x4),
  o (some p57) (.call fS [x50, x53, x54, x55, x56])])))
def tSym_l0 (es fS fR fM fI : Nat) (ag : Bool) : ACode := .seq (.seq (.region [o (some p31) (.mov x10),
  o (some p32) (.mov x11),
  o (some p33) (.bin .lss x31 x32)]) (.cond x33 (.skip) (.exit 0))) (.block 1 (.seq (.region [o (some p34) (.mov x10),
  o (some p35) (.mov x11),
  o (some p36) (.bin .add x34 x35),
  o (some p37) (.convI .u64 x36),
  o (some p38) (.bin .shr x37 (.c (.int .u64 1))),
  o (some p39) (.convI .i64 x38),
  o (some p12) (.mov x39)]) (.seq (.draw [(.p, o (some p40) (.mov x4)),
  (.p, o (some p41) (.mov x0)),
  (.p, o (some p42) (.mov x12)),
  (.p, o (some p43) (.iaddrS es x41 x42)),
  (.l 0 0, o (some p44) (.load x43 ag es)),
  (.p, o (some p45) (.mov x0)),
  (.p, o (some p46) (.mov x1)),
  (.p, o (some p47) (.iaddrS es x45 x46)),
  (.l 0 0, o (some p48) (.load x47 ag es)),
  (.e, o (some p49) (.callv x40 [x44, x48])),
  (.p, o (some p50) (.bin .lss x49 (.c (iv 0))))]) (.cond x50 (.region [o (some p51) (.mov x12),
  o (some p52) (.bin .add x51 (.c (iv 1))),
  o (some p10) (.mov x52)]) (.region [o (some p53) (.mov x12),
  o (some p11) (.mov x53)])))))
def ktSym_l0 (es fS fR fM fI : Nat) (ag : Bool) : ACode := tSym_l0 es fS fR fM fI ag
def tSym_l1 (es fS fR fM fI : Nat) (ag : Bool) : ACode := .seq (.seq (.region [o (some p55) (.mov x13),
  o (some p56) (.mov x10),
  o (some p57) (.bin .sub x56 (.c (iv 1))),
  o (some p58) (.bin .lss x55 x57)]) (.cond x58 (.skip) (.exit 2))) (.seq (.block 3 (.draw [(.p, o (some p61) (.mov x0)),
  (.p, o (some p62) (.mov x13)),
  (.p, o (some p63) (.mov x0)),
  (.p, o (some p64) (.mov x13)),
  (.p, o (some p65) (.bin .add x64 (.c (iv 1)))),
  (.p, o (some p66) (.mov x0)),
  (.p, o (some p67) (.mov x13)),
  (.p, o (some p68) (.bin .add x67 (.c (iv 1)))),
  (.p, o (some p69) (.iaddrS es x66 x68)),
  (.l 0 0, o (some p70) (.load x69 ag es)),
  (.p, o (some p71) (.mov x0)),
  (.p, o (some p72) (.mov x13)),
  (.p, o (some p73) (.iaddrS es x71 x72)),
  (.l 0 0, o (some p74) (.load x73 ag es)),
  (.p, o (some p75) (.iaddrS es x61 x62)),
  (.e, o none (.store x75 x70 es)),
  (.p, o (some p76) (.iaddrS es x63 x65)),
  (.e, o none (.store x76 x74 es))])) (.region [o (some p59) (.mov x13),
  o (some p60) (.bin .add x59 (.c (iv 1))),
  o (some p13) (.mov x60)]))
def ktSym_l1 (es fS fR fM fI : Nat) (ag : Bool) : ACode := tSym_l1 es fS fR fM fI ag
def tSym_l2 (es fS fR fM fI : Nat) (ag : Bool) : ACode := .seq (.seq (.region [o (some p83) (.mov x14),
  o (some p84) (.mov x15),
  o (some p85) (.bin .lss x83 x84)]) (.cond x85 (.skip) (.exit 4))) (.block 5 (.seq (.region [o (some p86) (.mov x14),
  o (some p87) (.mov x15),
  o (some p88) (.bin .add x86 x87),
  o (some p89) (.convI .u64 x88),
  o (some p90) (.bin .shr x89 (.c (.int .u64 1))),
  o (some p91) (.convI .i64 x90),
  o (some p16) (.mov x91)]) (.seq (.draw [(.p, o (some p92) (.mov x4)),
  (.p, o (some p93) (.mov x0)),
  (.p, o (some p94) (.mov x2)),
  (.p, o (some p95) (.iaddrS es x93 x94)),
  (.l 0 0, o (some p96) (.load x95 ag es)),
  (.p, o (some p97) (.mov x0)),
  (.p, o (some p98) (.mov x16)),
  (.p, o (some p99) (.iaddrS es x97 x98)),
  (.l 0 0, o (some p100) (.load x99 ag es)),
  (.e, o (some p101) (.callv x92 [x96, x100])),
  (.p, o (some p102) (.bin .lss x101 (.c (iv 0)))),
  (.p, o (some p103) (.un .not x102))]) (.cond x103 (.region [o (some p104) (.mov x16),
  o (some p105) (.bin .add x104 (.c (iv 1))),
  o (some p14) (.mov x105)]) (.region [o (some p106) (.mov x16),
  o (some p15) (.mov x106)])))))
def ktSym_l2 (es fS fR fM fI : Nat) (ag : Bool) : ACode := tSym_l2 es fS fR fM fI ag
def tSym_l3 (es fS fR fM fI : Nat) (ag : Bool) : ACode := .seq (.seq (.region [o (some p108) (.mov x17),
  o (some p109) (.mov x14),
  o (some p110) (.bin .gtr x108 x109)]) (.cond x110 (.skip) (.exit 6))) (.seq (.block 7 (.draw [(.p, o (some p113) (.mov x0)),
  (.p, o (some p114) (.mov x17)),
  (.p, o (some p115) (.mov x0)),
  (.p, o (some p116) (.mov x17)),
  (.p, o (some p117) (.bin .sub x116 (.c (iv 1)))),
  (.p, o (some p118) (.mov x0)),
  (.p, o (some p119) (.mov x17)),
  (.p, o (some p120) (.bin .sub x119 (.c (iv 1)))),
  (.p, o (some p121) (.iaddrS es x118 x120)),
  (.l 0 0, o (some p122) (.load x121 ag es)),
  (.p, o (some p123) (.mov x0)),
  (.p, o (some p124) (.mov x17)),
  (.p, o (some p125) (.iaddrS es x123 x124)),
  (.l 0 0, o (some p126) (.load x125 ag es)),
  (.p, o (some p127) (.iaddrS es x113 x114)),
  (.e, o none (.store x127 x122 es)),
  (.p, o (some p128) (.iaddrS es x115 x117)),
  (.e, o none (.store x128 x126 es))])) (.region [o (some p111) (.mov x17),
  o (some p112) (.bin .sub x111 (.c (iv 1))),
  o (some p17) (.mov x112)]))
def ktSym_l3 (es fS fR fM fI : Nat) (ag : Bool) : ACode := tSym_l3 es fS fR fM fI ag
def tSym_l4 (es fS fR fM fI : Nat) (ag : Bool) : ACode := .seq (.seq (.region [o (some p149) (.mov x20),
  o (some p150) (.mov x21),
  o (some p151) (.bin .lss x149 x150)]) (.cond x151 (.skip) (.exit 8))) (.block 9 (.seq (.region [o (some p152) (.mov x20),
  o (some p153) (.mov x21),
  o (some p154) (.bin .add x152 x153),
  o (some p155) (.convI .u64 x154),
  o (some p156) (.bin .shr x155 (.c (.int .u64 1))),
  o (some p157) (.convI .i64 x156),
  o (some p23) (.mov x157)]) (.seq (.draw [(.p, o (some p158) (.mov x4)),
  (.p, o (some p159) (.mov x0)),
  (.p, o (some p160) (.mov x22)),
  (.p, o (some p161) (.mov x23)),
  (.p, o (some p162) (.bin .sub x160 x161)),
  (.p, o (some p163) (.iaddrS es x159 x162)),
  (.l 0 0, o (some p164) (.load x163 ag es)),
  (.p, o (some p165) (.mov x0)),
  (.p, o (some p166) (.mov x23)),
  (.p, o (some p167) (.iaddrS es x165 x166)),
  (.l 0 0, o (some p168) (.load x167 ag es)),
  (.e, o (some p169) (.callv x158 [x164, x168])),
  (.p, o (some p170) (.bin .lss x169 (.c (iv 0)))),
  (.p, o (some p171) (.un .not x170))]) (.cond x171 (.region [o (some p172) (.mov x23),
  o (some p173) (.bin .add x172 (.c (iv 1))),
  o (some p20) (.mov x173)]) (.region [o (some p174) (.mov x23),
  o (some p21) (.mov x174)])))))
def ktSym_l4 (es fS fR fM fI : Nat) (ag : Bool) : ACode := tSym_l4 es fS fR fM fI ag
def tSym_c (es fS fR fM fI : Nat) (ag : Bool) : ACode := .seq (.region [o (some p206) (.mov x18),
  o (some p207) (.mov x24),
  o (some p208) (.bin .lss x206 x207),
  o (some p209) (.mov x208),
  og (some p210) (.mov x24) p209 true,
  og (some p211) (.mov x3) p209 true,
  og (some p212) (.bin .lss x210 x211) p209 true,
  o (some p213) (.pick x209 x212 (.c (.bool false)))]) (.cond x213 (.region [o (some p214) (.mov x0),
  o (some p215) (.mov x18),
  o (some p216) (.mov x24),
  o (some p217) (.mov x3),
  o (some p218) (.mov x4),
  o (some p219) (.call fM [x214, x215, x216, x217, x218])]) (.skip))
def tSym_b (es fS fR fM fI : Nat) (ag : Bool) : ACode := .seq (.seq (.region [o (some p192) (.mov x1),
  o (some p193) (.mov x20),
  o (some p194) (.bin .lss x192 x193),
  o (some p195) (.mov x194),
  og (some p196) (.mov x20) p195 true,
  og (some p197) (.mov x18) p195 true,
  og (some p198) (.bin .lss x196 x197) p195 true,
  o (some p199) (.pick x195 x198 (.c (.bool false)))]) (.cond x199 (.region [o (some p200) (.mov x0),
  o (some p201) (.mov x1),
  o (some p202) (.mov x20),
  o (some p203) (.mov x18),
  o (some p204) (.mov x4),
  o (some p205) (.call fM [x200, x201, x202, x203, x204])]) (.skip))) (tSym_c es fS fR fM fI ag)
def tSym_a (es fS fR fM fI : Nat) (ag : Bool) : ACode := .seq (.seq (.region [o (some p178) (.mov x20),
  o (some p179) (.mov x2),
  o (some p180) (.bin .lss x178 x179),
  o (some p181) (.mov x180),
  og (some p182) (.mov x2) p181 true,
  og (some p183) (.mov x24) p181 true,
  og (some p184) (.bin .lss x182 x183) p181 true,
  o (some p185) (.pick x181 x184 (.c (.bool false)))]) (.cond x185 (.region [o (some p186) (.mov x0),
  o (some p187) (.mov x20),
  o (some p188) (.mov x2),
  o (some p189) (.mov x24),
  o (some p190) (.mov x4),
  o (some p191) (.call fR [x186, x187, x188, x189, x190])]) (.skip))) (tSym_b es fS fR fM fI ag)
def tSym_h (es fS fR fM fI : Nat) (ag : Bool) : ACode := .seq (.region [o (some p175) (.mov x19),
  o (some p176) (.mov x20),
  o (some p177) (.bin .sub x175 x176),
  o (some p24) (.mov x177)]) (tSym_a es fS fR fM fI ag)
def tSym_g (es fS fR fM fI : Nat) (ag : Bool) : ACode := .seq (.region [o (some p129) (.mov x1),
  o (some p130) (.mov x3),
  o (some p131) (.bin .add x129 x130),
  o (some p132) (.convI .u64 x131),
  o (some p133) (.bin .shr x132 (.c (.int .u64 1))),
  o (some p134) (.convI .i64 x133),
  o (some p18) (.mov x134)]) (.seq (.region [o (some p135) (.mov x18),
  o (some p136) (.mov x2),
  o (some p137) (.bin .add x135 x136),
  o (some p19) (.mov x137)]) (.seq (.region [o (some p20) (.mov (.c (iv 0))),
  o (some p21) (.mov (.c (iv 0)))]) (.seq (.seq (.region [o (some p138) (.mov x2),
  o (some p139) (.mov x18),
  o (some p140) (.bin .gtr x138 x139)]) (.cond x140 (.seq (.region [o (some p141) (.mov x19),
  o (some p142) (.mov x3),
  o (some p143) (.bin .sub x141 x142),
  o (some p20) (.mov x143)]) (.region [o (some p144) (.mov x18),
  o (some p21) (.mov x144)])) (.seq (.region [o (some p145) (.mov x1),
  o (some p20) (.mov x145)]) (.region [o (some p146) (.mov x2),
  o (some p21) (.mov x146)])))) (.seq (.region [o (some p147) (.mov x19),
  o (some p148) (.bin .sub x147 (.c (iv 1))),
  o (some p22) (.mov x148)]) (.seq (.block 8 (.loop (ktSym_l4 es fS fR fM fI ag))) (tSym_h es fS fR fM fI ag))))))
def tSym (es fS fR fM fI : Nat) (ag : Bool) : ACode := .seq (.seq (.region [o (some p25) (.mov x2),
  o (some p26) (.mov x1),
  o (some p27) (.bin .sub x25 x26),
  o (some p28) (.bin .eql x27 (.c (iv 1)))]) (.cond x28 (.seq (.region [o (some p29) (.mov x2),
  o (some p10) (.mov x29)]) (.seq (.region [o (some p30) (.mov x3),
  o (some p11) (.mov x30)]) (.seq (.block 0 (.loop (ktSym_l0 es fS fR fM fI ag))) (.seq (.seq (.region [o (some p54) (.mov x1),
  o (some p13) (.mov x54)]) (.block 2 (.loop (ktSym_l1 es fS fR fM fI ag)))) (.ret))))) (.skip))) (.seq (.seq (.region [o (some p77) (.mov x3),
  o (some p78) (.mov x2),
  o (some p79) (.bin .sub x77 x78),
  o (some p80) (.bin .eql x79 (.c (iv 1)))]) (.cond x80 (.seq (.region [o (some p81) (.mov x1),
  o (some p14) (.mov x81)]) (.seq (.region [o (some p82) (.mov x2),
  o (some p15) (.mov x82)]) (.seq (.block 4 (.loop (ktSym_l2 es fS fR fM fI ag))) (.seq (.seq (.region [o (some p107) (.mov x2),
  o (some p17) (.mov x107)]) (.block 6 (.loop (ktSym_l3 es fS fR fM fI ag)))) (.ret))))) (.skip))) (tSym_g es fS fR fM fI ag))
def tIns_l1 (es fS fR fM fI : Nat) (ag : Bool) : ACode := .seq (.seq (.draw [(.p, o (some p18) (.mov x9)),
  (.p, o (some p19) (.mov x1)),
  (.p, o (some p20) (.bin .gtr x18 x19)),
  (.p, o (some p21) (.mov x20)),
  (.p, og (some p22) (.mov x3) p21 true),
  (.p, og (some p23) (.mov x0) p21 true),
  (.p, og (some p24) (.mov x9) p21 true),
  (.p, og (some p25) (.iaddrS es x23 x24) p21 true),
  (.l 0 0, og (some p26) (.load x25 ag es) p21 true),
  (.p, og (some p27) (.mov x0) p21 true),
  (.p, og (some p28) (.mov x9) p21 true),
  (.p, og (some p29) (.bin .sub x28 (.c (iv 1))) p21 true),
  (.p, og (some p30) (.iaddrS es x27 x29) p21 true),
  (.l 0 0, og (some p31) (.load x30 ag es) p21 true),
  (.e, og (some p32) (.callv x22 [x26, x31]) p21 true),
  (.p, og (some p33) (.bin .lss x32 (.c (iv 0))) p21 true),
  (.p, o (some p34) (.pick x21 x33 (.c (.bool false))))]) (.cond x34 (.skip) (.exit 2))) (.seq (.block 3 (.draw [(.p, o (some p37) (.mov x0)),
  (.p, o (some p38) (.mov x9)),
  (.p, o (some p39) (.mov x0)),
  (.p, o (some p40) (.mov x9)),
  (.p, o (some p41) (.bin .sub x40 (.c (iv 1)))),
  (.p, o (some p42) (.mov x0)),
  (.p, o (some p43) (.mov x9)),
  (.p, o (some p44) (.bin .sub x43 (.c (iv 1)))),
  (.p, o (some p45) (.iaddrS es x42 x44)),
  (.l 0 0, o (some p46) (.load x45 ag es)),
  (.p, o (some p47) (.mov x0)),
  (.p, o (some p48) (.mov x9)),
  (.p, o (some p49) (.iaddrS es x47 x48)),
  (.l 0 0, o (some p50) (.load x49 ag es)),
  (.p, o (some p51) (.iaddrS es x37 x38)),
  (.e, o none (.store x51 x46 es)),
  (.p, o (some p52) (.iaddrS es x39 x41)),
  (.e, o none (.store x52 x50 es))])) (.region [o (some p35) (.mov x9),
  o (some p36) (.bin .sub x35 (.c (iv 1))),
  o (some p9) (.mov x36)]))
def ktIns_l1 (es fS fR fM fI : Nat) (ag : Bool) : ACode := tIns_l1 es fS fR fM fI ag
def tIns_l0 (es fS fR fM fI : Nat) (ag : Bool) : ACode := .seq (.seq (.region [o (some p12) (.mov x8),
  o (some p13) (.mov x2),
  o (some p14) (.bin .lss x12 x13)]) (.cond x14 (.skip) (.exit 0))) (.seq (.block 1 (.seq (.region [o (some p17) (.mov x8),
  o (some p9) (.mov x17)]) (.block 2 (.loop (ktIns_l1 es fS fR fM fI ag))))) (.region [o (some p15) (.mov x8),
  o (some p16) (.bin .add x15 (.c (iv 1))),
  o (some p8) (.mov x16)]))
def ktIns_l0 (es fS fR fM fI : Nat) (ag : Bool) : ACode := tIns_l0 es fS fR fM fI ag
def tIns (es fS fR fM fI : Nat) (ag : Bool) : ACode := .seq (.region [o (some p10) (.mov x1),
  o (some p11) (.bin .add x10 (.c (iv 1))),
  o (some p8) (.mov x11)]) (.block 0 (.loop (ktIns_l0 es fS fR fM fI ag)))
def tStab_l0 (es fS fR fM fI : Nat) (ag : Bool) : ACode := .seq (.seq (.region [o (some p11) (.mov x8),
  o (some p12) (.mov x1),
  o (some p13) (.bin .leq x11 x12)]) (.cond x13 (.skip) (.exit 0))) (.block 1 (.seq (.region [o (some p14) (.mov x0),
  o (some p15) (.mov x7),
  o (some p16) (.mov x8),
  o (some p17) (.mov x2),
  o (some p18) (.call fI [x14, x15, x16, x17])]) (.seq (.region [o (some p19) (.mov x8),
  o (some p7) (.mov x19)]) (.region [o (some p20) (.mov x8),
  o (some p21) (.mov x6),
  o (some p22) (.bin .add x20 x21),
  o (some p8) (.mov x22)]))))
def ktStab_l0 (es fS fR fM fI : Nat) (ag : Bool) : ACode := tStab_l0 es fS fR fM fI ag
def tStab_l2 (es fS fR fM fI : Nat) (ag : Bool) : ACode := .seq (.seq (.region [o (some p33) (.mov x8),
  o (some p34) (.mov x1),
  o (some p35) (.bin .leq x33 x34)]) (.cond x35 (.skip) (.exit 4))) (.block 5 (.seq (.region [o (some p36) (.mov x0),
  o (some p37) (.mov x7),
  o (some p38) (.mov x7),
  o (some p39) (.mov x6),
  o (some p40) (.bin .add x38 x39),
  o (some p41) (.mov x8),
  o (some p42) (.mov x2),
  o (some p43) (.call fM [x36, x37, x40, x41, x42])]) (.seq (.region [o (some p44) (.mov x8),
  o (some p7) (.mov x44)]) (.region [o (some p45) (.mov x8),
  o (some p46) (.mov x6),
  o (some p47) (.bin .mul (.c (iv 2)) x46),
  o (some p48) (.bin .add x45 x47),
  o (some p8) (.mov x48)]))))
def ktStab_l2 (es fS fR fM fI : Nat) (ag : Bool) : ACode := tStab_l2 es fS fR fM fI ag
def tStab_l1 (es fS fR fM fI : Nat) (ag : Bool) : ACode := .seq (.seq (.region [o (some p28) (.mov x6),
  o (some p29) (.mov x1),
  o (some p30) (.bin .lss x28 x29)]) (.cond x30 (.skip) (.exit 2))) (.block 3 (.seq (.region [o (some p31) (.mov x6),
  o (some p32) (.bin .mul (.c (iv 2)) x31),
  o (some p7) (.mov (.c (iv 0))),
  o (some p8) (.mov x32)]) (.seq (.block 4 (.loop (ktStab_l2 es fS fR fM fI ag))) (.seq (.seq (.region [o (some p49) (.mov x7),
  o (some p50) (.mov x6),
  o (some p51) (.bin .add x49 x50),
  o (some p9) (.mov x51)]) (.seq (.region [o (some p52) (.mov x9),
  o (some p53) (.mov x1),
  o (some p54) (.bin .lss x52 x53)]) (.cond x54 (.region [o (some p55) (.mov x0),
  o (some p56) (.mov x7),
  o (some p57) (.mov x9),
  o (some p58) (.mov x1),
  o (some p59) (.mov x2),
  o (some p60) (.call fM [x55, x56, x57, x58, x59])]) (.skip)))) (.region [o (some p61) (.mov x6),
  o (some p62) (.bin .mul x61 (.c (iv 2))),
  o (some p6) (.mov x62)])))))
def ktStab_l1 (es fS fR fM fI : Nat) (ag : Bool) : ACode := tStab_l1 es fS fR fM fI ag
def tStab (es fS fR fM fI : Nat) (ag : Bool) : ACode := .seq (.region [o (some p6) (.mov (.c (iv 20)))]) (.seq (.region [o (some p10) (.mov x6),
  o (some p7) (.mov (.c (iv 0))),
  o (some p8) (.mov x10)]) (.seq (.block 0 (.loop (ktStab_l0 es fS fR fM fI ag))) (.seq (.region [o (some p23) (.mov x0),
  o (some p24) (.mov x7),
  o (some p25) (.mov x1),
  o (some p26) (.mov x2),
  o (some p27) (.call fI [x23, x24, x25, x26])]) (.block 2 (.loop (ktStab_l1 es fS fR fM fI ag))))))
end Go.AM.T
/- The stable sort of the library: the data, one swap, ranges swapped, rotation. -/
namespace Go.AM.T
open Go Go.AM

/-- things of es cells each -/
structure Elt {α : Type} (es : Nat) (ag : Bool) (enc : α → List AV) (val : α → AV) : Prop where
  len : ∀ x, (enc x).length = es
  toV : ∀ x, mkVal ag (enc x) = some (val x)
  cells : ∀ x, cellsOf (val x) = some (enc x)
  ok : ∀ x, allCells (enc x) = true

/-- a list in a block amid others; all else is as it was -/
def Dat {α : Type} (enc : α → List AV) (H0 : AHeap) (i : Nat) (pre post : List AV) (l : List α) (H : AHeap) : Prop :=
  H.nx = H0.nx ∧ (∀ j, j ≠ i → H.get j = H0.get j) ∧ H.get i = some (.cells (pre ++ (l.flatMap enc ++ post)) .own)

theorem ge_mid {α : Type} (p : List α) (x : α) (s : List α) : (p ++ x :: s)[p.length]? = some x := by simp
theorem set_mid {α : Type} (p : List α) (x y : α) (s : List α) : (p ++ x :: s).set p.length y = p ++ y :: s := by simp
theorem flat_len {α : Type} {es : Nat} {enc : α → List AV} (hE : ∀ x, (enc x).length = es) (l : List α) : (l.flatMap enc).length = l.length * es := by
  induction l with
  | nil => simp
  | cons x l ih => simp only [List.flatMap_cons, List.length_append, hE, ih, List.length_cons, Nat.add_mul]; omega
theorem flat_set {α : Type} {es : Nat} {enc : α → List AV} (hE : ∀ x, (enc x).length = es) {l : List α} {k : Nat} (hk : k < l.length) (x : α) :
    (l.set k x).flatMap enc = (l.flatMap enc).take (k * es) ++ enc x ++ (l.flatMap enc).drop (k * es + es) := by
  induction l generalizing k with
  | nil => simp at hk
  | cons y l ih =>
    cases k with
    | zero => simp [← hE y]
    | succ k =>
      have h1 : (k + 1) * es = es + k * es := by rw [Nat.add_mul, Nat.one_mul, Nat.add_comm]
      simp only [List.set_cons_succ, List.flatMap_cons]
      have t1 : (enc y ++ l.flatMap enc).take (es + k * es) = enc y ++ (l.flatMap enc).take (k * es) := by rw [← hE y]; exact List.take_length_add_append _
      have t2 : (enc y ++ l.flatMap enc).drop (es + (k * es + es)) = (l.flatMap enc).drop (k * es + es) := by
        have := List.drop_length_add_append (l₁ := enc y) (l₂ := l.flatMap enc) (k * es + es)
        rwa [hE y] at this
      rw [ih (by simpa using hk), h1, t1, Nat.add_assoc es, t2]
      simp

section
variable {α : Type} {es : Nat} {ag : Bool} {enc : α → List AV} {val : α → AV} (E : Elt es ag enc val) {H0 H : AHeap} {i : Nat} {pre post : List AV} {l : List α}
theorem idx_sl {i off len cap : Nat} {ex : Bool} {n : Int} (h0 : 0 ≤ n) (h : n < len) : opIaddrS es (.sl i off len cap es ex) (.int .i64 n) = some (.ptr i (off + n.toNat * es)) := by
  have : Nat.ble (n.toNat + 1) len = true := Nat.ble_eq_true_of_le (by omega)
  simp [opIaddrS, asN_of h0, this]
include E
theorem dat_range {k : Nat} {x : α} (e : l[k]? = some x) : rangeOf (pre.length + k * es) es (pre ++ (l.flatMap enc ++ post)) = some (enc x) := by
  have h := flat_get E.len e
  rw [rangeOf_iff] at h ⊢
  obtain ⟨h1, h2⟩ := h
  refine ⟨by simp only [List.length_append]; omega, ?_⟩
  rw [h2, List.drop_length_add_append, List.drop_append_of_le_length (by omega), List.take_append_of_le_length (by rw [List.length_drop]; omega)]
theorem dat_load (h : Dat enc H0 i pre post l H) {k : Nat} {x : α} (e : l[k]? = some x) : opLoad (.ptr i (pre.length + k * es)) ag es H = some (val x, H) := by
  simp only [opLoad, load_eq h.2.2 (dat_range E e), mkValO, E.toV, ret]
theorem dat_store (h : Dat enc H0 i pre post l H) {k : Nat} (hk : k < l.length) (x : α) :
    ∃ H', opStore (.ptr i (pre.length + k * es)) (val x) es H = some (.undef, H') ∧ Dat enc H0 i pre post (l.set k x) H' := by
  refine ⟨H.put i (.cells (pre ++ ((l.set k x).flatMap enc ++ post)) .own), ?_, h.1, fun j hj => (get_put_ne _ _ _ _ (Ne.symm hj)).trans (h.2.1 j hj), get_put_same ..⟩
  have hf := flat_len E.len l
  have hle : k * es + es ≤ l.length * es := by
    have := Nat.mul_le_mul_right es (show k + 1 ≤ l.length by omega)
    rwa [Nat.add_mul, Nat.one_mul] at this
  have hw : write (pre.length + k * es) (enc x) (pre ++ (l.flatMap enc ++ post)) = some (pre ++ ((l.set k x).flatMap enc ++ post)) := by
    rw [write_some _ _ _ (by simp only [List.length_append, E.len]; omega), flat_set E.len hk, E.len]
    congr 1
    rw [Nat.add_assoc, List.take_length_add_append, List.drop_length_add_append, List.take_append_of_le_length (by omega), List.drop_append_of_le_length (by omega)]
    simp
  simp only [opStore, asP, E.cells, storeCs, E.len, E.ok, Nat.beq_refl, Bool.and_self, if_true, store_eq h.2.2 hw, retH]
/-- two elements change places -/
theorem dat_swap (h : Dat enc H0 i pre post l H) {p q : Nat} {x y : α} (hp : l[p]? = some x) (hq : l[q]? = some y) :
    ∃ H1 H2, opStore (.ptr i (pre.length + p * es)) (val y) es H = some (.undef, H1) ∧ opStore (.ptr i (pre.length + q * es)) (val x) es H1 = some (.undef, H2) ∧ Dat enc H0 i pre post ((l.set p y).set q x) H2 := by
  obtain ⟨H1, h1, h2⟩ := dat_store E h (List.getElem?_eq_some_iff.1 hp).1 y
  obtain ⟨H2, h3, h4⟩ := dat_store E h2 (k := q) (by simpa using (List.getElem?_eq_some_iff.1 hq).1) x
  exact ⟨H1, H2, h1, h3, h4⟩
end

section
variable {α : Type} {es : Nat} {ag : Bool} {enc : α → List AV} {val : α → AV} (E : Elt es ag enc val) {H0 : AHeap} {i : Nat} {pre post : List AV} {fS fR fM fI : Nat}
include E
theorem swap_loop {k : List KI} {Q : AExit → Fr → AHeap → Prop} {n cap : Nat} {ex : Bool} (hn : n ≤ 1000000) {P M S : List α} : ∀ (X2 Y2 X1 Y1 : List α) (T : Fr) (H : AHeap), X2.length = Y2.length → X1.length = Y1.length →
    Dat enc H0 i pre post (P ++ (Y1 ++ (X2 ++ (M ++ (X1 ++ (Y2 ++ S)))))) H → (P ++ (Y1 ++ (X2 ++ (M ++ (X1 ++ (Y2 ++ S)))))).length = n →
    gN T 0 = .sl i pre.length n cap es ex → gN T 1 = iv P.length → gN T 2 = iv ((P.length + (X1.length + X2.length) + M.length : Nat) : Int) → gN T 3 = iv ((X1.length + X2.length : Nat) : Int) → gN T 10 = iv X1.length →
    (∀ T' H', Dat enc H0 i pre post (P ++ (Y1 ++ (Y2 ++ (M ++ (X1 ++ (X2 ++ S)))))) H' → GoW tbl Q k (.exit 0) T' H') → GoS tbl (.code (.loop (ktSwap_l0 es fS fR fM fI ag)) :: k) .normal T H Q := by
  intro X2
  induction X2 with
  | nil =>
    intro Y2 X1 Y1 T H h1 h2 hD hl t0 t1 t2 t3 t10 hk
    have : Y2 = [] := List.length_eq_zero_iff.1 (by simpa using h1.symm)
    subst this
    simp only [List.length_nil, Nat.add_zero] at t2 t3
    refine GoS.loopD (a' := tSwap_l0 es fS fR fM fI ag) rfl (GoW.sound ?_)
    simp (disch := omega) only [tSwap_l0, go_sem, ↓reduceIte, Nat.reduceEqDiff, Nat.reduceAdd, t0, t1, t2, t3, t10, dT, dF, Bool.false_eq_true]
    exact hk _ _ hD
  | cons x X2 ih =>
    intro Y2 X1 Y1 T H h1 h2 hD hl t0 t1 t2 t3 t10 hk
    cases Y2 with
    | nil => simp at h1
    | cons y Y2 =>
      have hl2 := hl
      simp only [List.length_append, List.length_cons] at hl2 h1
      have ep : (P ++ (Y1 ++ (x :: X2 ++ (M ++ (X1 ++ (y :: Y2 ++ S))))))[(P ++ Y1).length]? = some x := by
        simp
      have eq : (P ++ (Y1 ++ (x :: X2 ++ (M ++ (X1 ++ (y :: Y2 ++ S))))))[(P ++ (Y1 ++ (x :: X2 ++ (M ++ X1)))).length]? = some y := by
        have := ge_mid (P ++ (Y1 ++ (x :: X2 ++ (M ++ X1)))) y (Y2 ++ S)
        simpa only [List.append_assoc, List.cons_append] using this
      obtain ⟨H1, H2, s1, s2, hD2⟩ := dat_swap E hD ep eq
      have l1 := dat_load E hD ep
      have l2 := dat_load E hD eq
      have np : ((P.length : Int) + (X1.length : Int)).toNat = (P ++ Y1).length := by simp only [List.length_append]; omega
      have nq : (((P.length + (X1.length + (x :: X2).length) + M.length : Nat) : Int) + (X1.length : Int)).toNat = (P ++ (Y1 ++ (x :: X2 ++ (M ++ X1)))).length := by simp only [List.length_append, List.length_cons]; omega
      refine GoS.loopD (a' := tSwap_l0 es fS fR fM fI ag) rfl (GoW.sound ?_)
      simp (disch := (first | omega | (unfold InR; omega) | (simp only [List.length_cons]; omega) | (unfold InR; simp only [List.length_cons]; omega))) only [tSwap_l0, go_sem, ↓reduceIte, Nat.reduceEqDiff, Nat.reduceAdd, t0, t1, t2, t3, t10, dT, dF, idx_sl, np, nq, l1, l2, s1, s2, true_and]
      refine ih Y2 (X1 ++ [x]) (Y1 ++ [y]) _ _ (by omega) (by simp [h2]) ?_ ?_ ?_ ?_ ?_ ?_ ?_ fun T' H' hd => hk T' H' (by simpa using hd)
      · have e1 : (P ++ (Y1 ++ (x :: X2 ++ (M ++ (X1 ++ (y :: Y2 ++ S)))))).set (P ++ Y1).length y = P ++ (Y1 ++ (y :: X2 ++ (M ++ (X1 ++ (y :: Y2 ++ S))))) := by
          have := set_mid (P ++ Y1) x y (X2 ++ (M ++ (X1 ++ (y :: Y2 ++ S))))
          simpa only [List.append_assoc, List.cons_append] using this
        have e2 : (P ++ (Y1 ++ (y :: X2 ++ (M ++ (X1 ++ (y :: Y2 ++ S)))))).set (P ++ (Y1 ++ (x :: X2 ++ (M ++ X1)))).length x = P ++ (Y1 ++ (y :: X2 ++ (M ++ (X1 ++ (x :: Y2 ++ S))))) := by
          have := set_mid (P ++ (Y1 ++ (y :: X2 ++ (M ++ X1)))) y x (Y2 ++ S)
          simpa only [List.append_assoc, List.cons_append, List.length_append, List.length_cons] using this
        rw [e1, e2] at hD2
        simpa only [List.append_assoc, List.cons_append, List.nil_append] using hD2
      · simp only [List.length_append, List.length_cons, List.length_nil]; omega
      · simp only [go_sem, ↓reduceIte, Nat.reduceEqDiff, Nat.reduceAdd, t0]
      · simp only [go_sem, ↓reduceIte, Nat.reduceEqDiff, Nat.reduceAdd, t1]
      · simp only [go_sem, ↓reduceIte, Nat.reduceEqDiff, Nat.reduceAdd, t2]; congr 2; simp only [List.length_append, List.length_cons, List.length_nil]; omega
      · simp only [go_sem, ↓reduceIte, Nat.reduceEqDiff, Nat.reduceAdd, t3]; congr 2; simp only [List.length_append, List.length_cons, List.length_nil]; omega
      · simp only [go_sem, ↓reduceIte]; congr 1; simp only [List.length_append, List.length_cons, List.length_nil]; omega
theorem swap_does (hS : tbl fS = some ⟨tSwap es fS fR fM fI ag, []⟩) {n cap : Nat} {ex : Bool} (hn : n ≤ 1000000) {P X M Y S : List α} {cv : AV} {H : AHeap} {a b c : Int} {R : AV → AHeap → Prop} (hXY : X.length = Y.length)
    (hD : Dat enc H0 i pre post (P ++ (X ++ (M ++ (Y ++ S)))) H) (hl : (P ++ (X ++ (M ++ (Y ++ S)))).length = n) (ha : a = P.length) (hb : b = (P.length + X.length + M.length : Nat)) (hc : c = X.length)
    (h : ∀ H', Dat enc H0 i pre post (P ++ (Y ++ (M ++ (X ++ S)))) H' → R (.tup []) H') : CallV tbl fS [.sl i pre.length n cap es ex, iv a, iv b, iv c, cv] H R := by
  subst ha; subst hb; subst hc
  refine T.callW hS ?_
  simp only [tSwap, go_sem, ↓reduceIte, Nat.reduceEqDiff, Nat.reduceAdd]
  refine swap_loop E (P := P) (M := M) (S := S) (cap := cap) (ex := ex) hn X Y [] [] _ _ hXY rfl hD hl ?_ ?_ ?_ ?_ ?_ fun T' H' hd => ?_
  · simp only [go_sem, ↓reduceIte, Nat.reduceEqDiff, Nat.reduceAdd]
  · simp only [go_sem, ↓reduceIte, Nat.reduceEqDiff, Nat.reduceAdd]
  · simp only [go_sem, ↓reduceIte, Nat.reduceEqDiff, Nat.reduceAdd, List.length_nil]
  · simp only [go_sem, ↓reduceIte, Nat.reduceEqDiff, Nat.reduceAdd, List.length_nil]
  · simp only [go_sem, ↓reduceIte, Nat.reduceEqDiff, Nat.reduceAdd, List.length_nil]; rfl
  · simp only [go_sem, ↓reduceIte]
    exact .same (h H' hd)
end
end Go.AM.T
/- The stable sort of the library: rotation. -/
namespace Go.AM.T
open Go Go.AM
section
variable {α : Type} {es : Nat} {ag : Bool} {enc : α → List AV} {val : α → AV} (E : Elt es ag enc val) {H0 : AHeap} {i : Nat} {pre post : List AV} {fS fR fM fI : Nat} (hS : tbl fS = some ⟨tSwap es fS fR fM fI ag, []⟩) {n cap : Nat} {ex : Bool} (hn : n ≤ 1000000) {cv : AV}
include E hS hn
theorem rot_loop {k : List KI} {Q : AExit → Fr → AHeap → Prop} : ∀ (N : Nat) (P U V S : List α) (T : Fr) (H : AHeap), U.length + V.length ≤ N → U ≠ [] → V ≠ [] →
    Dat enc H0 i pre post (P ++ (U ++ (V ++ S))) H → (P ++ (U ++ (V ++ S))).length = n →
    gN T 0 = .sl i pre.length n cap es ex → gN T 2 = iv ((P.length + U.length : Nat) : Int) → gN T 4 = cv → gN T 10 = iv U.length → gN T 11 = iv V.length →
    (∀ P' U' V' S' T' H', U'.length = V'.length → P' ++ (V' ++ (U' ++ S')) = P ++ (V ++ (U ++ S)) → (P' ++ (U' ++ (V' ++ S'))).length = n → Dat enc H0 i pre post (P' ++ (U' ++ (V' ++ S'))) H' →
      gN T' 0 = .sl i pre.length n cap es ex → gN T' 2 = iv ((P'.length + U'.length : Nat) : Int) → gN T' 4 = cv → gN T' 10 = iv U'.length → GoW tbl Q k (.exit 0) T' H') →
    GoS tbl (.code (.loop (ktRot_l0 es fS fR fM fI ag)) :: k) .normal T H Q := by
  intro N
  induction N with
  | zero => intro P U V S T H h hU; exact absurd (List.length_eq_zero_iff.1 (by omega)) hU
  | succ N ih =>
    intro P U V S T H h hU hV hD hl t0 t2 t4 t10 t11 hk
    have hu : 0 < U.length := List.length_pos_iff.2 hU
    have hv : 0 < V.length := List.length_pos_iff.2 hV
    have hl2 := hl
    simp only [List.length_append] at hl2
    refine GoS.loopD (a' := tRot_l0 es fS fR fM fI ag) rfl (GoW.sound ?_)
    rcases Nat.lt_trichotomy U.length V.length with hlt | heq | hgt
    · simp (disch := (first | omega | (unfold InR; omega))) only [tRot_l0, go_sem, ↓reduceIte, Nat.reduceEqDiff, t0, t2, t4, t10, t11, dT, dF, Bool.false_eq_true]
      refine GoS.call ?_
      simp only [go_sem, ↓reduceIte, Nat.reduceEqDiff, t0, t2, t4, t10, t11]
      -- V = V1 ++ V2
      have hvv : V.take (V.length - U.length) ++ V.drop (V.length - U.length) = V := List.take_append_drop ..
      generalize hV1 : V.take (V.length - U.length) = V1 at hvv
      generalize hV2 : V.drop (V.length - U.length) = V2 at hvv
      have l1 : V1.length = V.length - U.length := by rw [← hV1, List.length_take]; omega
      have l2 : V2.length = U.length := by rw [← hV2, List.length_drop]; omega
      subst hvv
      have hva : (V1 ++ V2).length = V1.length + V2.length := List.length_append
      refine swap_does E hS hn (P := P) (X := U) (M := V1) (Y := V2) (S := S) l2.symm (by simpa using hD) (by simpa using hl) (by omega) (by omega) rfl fun H' hD' => GoW.sound ?_
      simp (disch := (first | omega | (unfold InR; omega))) only [go_sem, ↓reduceIte, Nat.reduceEqDiff, t0, t2, t4, t10, t11]
      refine ih P V2 V1 (U ++ S) _ H' (by omega) (fun e => by have := congrArg List.length e; simp only [List.length_nil] at this; omega) (fun e => by have := congrArg List.length e; simp only [List.length_nil] at this; omega) hD' (by simp only [List.length_append] at hl2 ⊢; omega) ?_ ?_ ?_ ?_ ?_ ?_
      · simp only [go_sem, ↓reduceIte, Nat.reduceEqDiff, t0]
      · simp only [go_sem, ↓reduceIte, Nat.reduceEqDiff, t2, l2]
      · simp only [go_sem, ↓reduceIte, Nat.reduceEqDiff, t4]
      · simp only [go_sem, ↓reduceIte, Nat.reduceEqDiff, t10, l2]
      · simp only [go_sem, ↓reduceIte]; congr 1; omega
      · intro P' U' V' S' T' H'' e1 e2
        exact hk P' U' V' S' T' H'' e1 (e2.trans (by simp))
    · simp (disch := (first | omega | (unfold InR; omega))) only [tRot_l0, go_sem, ↓reduceIte, Nat.reduceEqDiff, t0, t2, t4, t10, t11, dT, dF, Bool.false_eq_true]
      refine hk P U V S _ H heq rfl hl hD ?_ ?_ ?_ ?_
      · simp only [go_sem, ↓reduceIte, Nat.reduceEqDiff, t0]
      · simp only [go_sem, ↓reduceIte, Nat.reduceEqDiff, t2]
      · simp only [go_sem, ↓reduceIte, Nat.reduceEqDiff, t4]
      · simp only [go_sem, ↓reduceIte, Nat.reduceEqDiff, t10]
    · simp (disch := (first | omega | (unfold InR; omega))) only [tRot_l0, go_sem, ↓reduceIte, Nat.reduceEqDiff, t0, t2, t4, t10, t11, dT, dF, Bool.false_eq_true]
      refine GoS.call ?_
      simp only [go_sem, ↓reduceIte, Nat.reduceEqDiff, t0, t2, t4, t10, t11]
      have huu : U.take V.length ++ U.drop V.length = U := List.take_append_drop ..
      generalize hU1 : U.take V.length = U1 at huu
      generalize hU2 : U.drop V.length = U2 at huu
      have l1 : U1.length = V.length := by rw [← hU1, List.length_take]; omega
      have l2 : U2.length = U.length - V.length := by rw [← hU2, List.length_drop]
      subst huu
      have hua : (U1 ++ U2).length = U1.length + U2.length := List.length_append
      refine swap_does E hS hn (P := P) (X := U1) (M := U2) (Y := V) (S := S) l1 (by simpa using hD) (by simpa using hl) (by omega) (by omega) (by omega) fun H' hD' => GoW.sound ?_
      simp (disch := (first | omega | (unfold InR; omega))) only [go_sem, ↓reduceIte, Nat.reduceEqDiff, t0, t2, t4, t10, t11]
      refine ih (P ++ V) U2 U1 S _ H' (by omega) (fun e => by have := congrArg List.length e; simp only [List.length_nil] at this; omega) (fun e => by have := congrArg List.length e; simp only [List.length_nil] at this; omega) (by simpa using hD') (by simp only [List.length_append] at hl2 ⊢; omega) ?_ ?_ ?_ ?_ ?_ ?_
      · simp only [go_sem, ↓reduceIte, Nat.reduceEqDiff, t0]
      · simp only [go_sem, ↓reduceIte, Nat.reduceEqDiff, t2]; congr 2; have hpv : (P ++ V).length = P.length + V.length := List.length_append; omega
      · simp only [go_sem, ↓reduceIte, Nat.reduceEqDiff, t4]
      · simp only [go_sem, ↓reduceIte]; congr 1; omega
      · simp only [go_sem, ↓reduceIte, Nat.reduceEqDiff, t11, l1]
      · intro P' U' V' S' T' H'' e1 e2
        exact hk P' U' V' S' T' H'' e1 (e2.trans (by simp))
theorem rot_does (hR : tbl fR = some ⟨tRot es fS fR fM fI ag, []⟩) {P U V S : List α} {H : AHeap} {a m b : Int} {R : AV → AHeap → Prop} (hU : U ≠ []) (hV : V ≠ [])
    (hD : Dat enc H0 i pre post (P ++ (U ++ (V ++ S))) H) (hl : (P ++ (U ++ (V ++ S))).length = n) (ha : a = P.length) (hm : m = (P.length + U.length : Nat)) (hb : b = (P.length + U.length + V.length : Nat))
    (h : ∀ H', Dat enc H0 i pre post (P ++ (V ++ (U ++ S))) H' → R (.tup []) H') : CallV tbl fR [.sl i pre.length n cap es ex, iv a, iv m, iv b, cv] H R := by
  subst ha; subst hm; subst hb
  have hl2 := hl
  simp only [List.length_append] at hl2
  refine T.callW hR ?_
  simp (disch := (first | omega | (unfold InR; omega))) only [tRot, go_sem, ↓reduceIte, Nat.reduceEqDiff, Nat.reduceAdd]
  refine rot_loop E hS hn (cv := cv) (cap := cap) (ex := ex) (U.length + V.length) P U V S _ _ (Nat.le_refl _) hU hV hD hl ?_ ?_ ?_ ?_ ?_ fun P' U' V' S' T' H' e1 e2 e3 hd t0 t2 t4 t10 => ?_
  · simp only [go_sem, ↓reduceIte, Nat.reduceEqDiff]
  · simp only [go_sem, ↓reduceIte, Nat.reduceEqDiff]
  · simp only [go_sem, ↓reduceIte, Nat.reduceEqDiff]
  · simp only [go_sem, ↓reduceIte, Nat.reduceEqDiff]; congr 1; omega
  · simp only [go_sem, ↓reduceIte, Nat.reduceEqDiff]; congr 1; omega
  · have hl3 := e3
    simp only [List.length_append] at hl3
    simp (disch := (first | omega | (unfold InR; omega))) only [go_sem, ↓reduceIte, Nat.reduceEqDiff, t0, t2, t4, t10]
    refine GoS.call ?_
    simp only [go_sem, ↓reduceIte, Nat.reduceEqDiff, t0, t2, t4, t10]
    refine swap_does E hS hn (P := P') (X := U') (M := []) (Y := V') (S := S') e1 (by simpa using hd) (by simpa using e3) (by omega) (by simp) rfl fun H'' hd' => GoW.sound ?_
    simp only [go_sem, ↓reduceIte]
    refine .same (h H'' ?_)
    have : P' ++ (V' ++ ([] ++ (U' ++ S'))) = P ++ (V ++ (U ++ S)) := by rw [List.nil_append]; exact e2
    rwa [this] at hd'
end
end Go.AM.T
/- Plain law: what a stable sort is; it is one alone. -/
namespace Go.AM.T
section
variable {α : Type} {lt : α → α → Bool}

/-- a strict order up to equivalents -/
structure Swo (lt : α → α → Bool) : Prop where
  irr : ∀ a, lt a a = false
  tr : ∀ {a b c}, lt a b = true → lt b c = true → lt a c = true
  ntr : ∀ {a b c}, lt a b = false → lt b c = false → lt a c = false
def eqv (lt : α → α → Bool) (a x : α) : Bool := !lt a x && !lt x a
def Srt (lt : α → α → Bool) (l : List α) : Prop := l.Pairwise fun x y => lt y x = false
/-- the same elements; equivalents in the same order -/
structure Fil (lt : α → α → Bool) (l l' : List α) : Prop where
  perm : l'.Perm l
  fil : ∀ a, l'.filter (eqv lt a) = l.filter (eqv lt a)
structure Stab (lt : α → α → Bool) (l l' : List α) : Prop where
  srt : Srt lt l'
  fil : Fil lt l l'
theorem Fil.refl (l : List α) : Fil lt l l := ⟨.refl _, fun _ => rfl⟩
theorem Fil.trans {a b c : List α} (h : Fil lt a b) (k : Fil lt b c) : Fil lt a c := ⟨k.perm.trans h.perm, fun x => (k.fil x).trans (h.fil x)⟩
theorem Fil.append {a b c d : List α} (h : Fil lt a b) (k : Fil lt c d) : Fil lt (a ++ c) (b ++ d) := ⟨h.perm.append k.perm, fun x => by rw [List.filter_append, List.filter_append, h.fil, k.fil]⟩
theorem Fil.len {a b : List α} (h : Fil lt a b) : b.length = a.length := h.perm.length_eq
theorem Fil.mem {a b : List α} (h : Fil lt a b) {x : α} : x ∈ b ↔ x ∈ a := h.perm.mem_iff
theorem Swo.asym (o : Swo lt) {a b : α} (h : lt a b = true) : lt b a = false := by
  cases e : lt b a with
  | false => rfl
  | true => have := o.tr h e; rw [o.irr] at this; cases this
/-- a ≤ b < c -/
theorem Swo.le_lt (o : Swo lt) {a b c : α} (h : lt b a = false) (k : lt b c = true) : lt a c = true := by
  cases e : lt a c with
  | true => rfl
  | false => have := o.ntr h e; rw [k] at this; cases this
theorem Swo.lt_le (o : Swo lt) {a b c : α} (h : lt a b = true) (k : lt c b = false) : lt a c = true := by
  cases e : lt a c with
  | true => rfl
  | false => have := o.ntr e k; rw [h] at this; cases this
theorem eqv_self (o : Swo lt) (a : α) : eqv lt a a = true := by simp [eqv, o.irr]
theorem eqv_lt (o : Swo lt) {a x y : α} (hx : eqv lt a x = true) (hy : eqv lt a y = true) : lt y x = false := by
  simp only [eqv, Bool.and_eq_true, Bool.not_eq_true'] at hx hy
  exact o.ntr hy.2 hx.1
/-- a block goes past another whose elements are all less -/
theorem Fil.past (o : Swo lt) {X Y : List α} (h : ∀ x, x ∈ X → ∀ y, y ∈ Y → lt y x = true) : Fil lt (X ++ Y) (Y ++ X) := by
  refine ⟨List.perm_append_comm, fun a => ?_⟩
  rw [List.filter_append, List.filter_append]
  cases hx : X.filter (eqv lt a) with
  | nil => simp
  | cons x r =>
    have hxm : x ∈ X.filter (eqv lt a) := by rw [hx]; simp
    have hy : Y.filter (eqv lt a) = [] := by
      rw [List.filter_eq_nil_iff]
      intro y hy e
      have := h x (List.mem_filter.1 hxm).1 y hy
      rw [eqv_lt o (List.mem_filter.1 hxm).2 e] at this
      cases this
    rw [hy]; simp
theorem srt_unique (o : Swo lt) : ∀ {a b : List α}, Srt lt a → Srt lt b → (∀ x, a.filter (eqv lt x) = b.filter (eqv lt x)) → a = b := by
  have mem : ∀ {a b : List α}, (∀ x, a.filter (eqv lt x) = b.filter (eqv lt x)) → ∀ {x}, x ∈ a → x ∈ b := fun {a b} h {x} hx => by
    have : x ∈ b.filter (eqv lt x) := by rw [← h]; exact List.mem_filter.2 ⟨hx, eqv_self o x⟩
    exact (List.mem_filter.1 this).1
  intro a
  induction a with
  | nil =>
    intro b _ _ h
    cases b with
    | nil => rfl
    | cons y s => have := mem (fun x => (h x).symm) (x := y) (by simp); simp at this
  | cons x r ih =>
    intro b ha hb h
    cases b with
    | nil => have := mem h (x := x) (by simp); simp at this
    | cons y s =>
      have h1 : lt x y = false := by
        rcases List.mem_cons.1 (mem h (x := x) (by simp)) with e | e
        · rw [e]; exact o.irr _
        · exact (List.pairwise_cons.1 hb).1 x e
      have h2 : lt y x = false := by
        rcases List.mem_cons.1 (mem (fun x => (h x).symm) (x := y) (by simp)) with e | e
        · rw [e]; exact o.irr _
        · exact (List.pairwise_cons.1 ha).1 y e
      have e := h x
      rw [List.filter_cons_of_pos (eqv_self o x), List.filter_cons_of_pos (by simp [eqv, h1, h2])] at e
      have exy : x = y := by injection e
      subst exy
      congr 1
      refine ih (List.pairwise_cons.1 ha).2 (List.pairwise_cons.1 hb).2 fun z => ?_
      have := h z
      by_cases hz : eqv lt z x = true
      · rw [List.filter_cons_of_pos hz, List.filter_cons_of_pos hz] at this
        injection this
      · rw [List.filter_cons_of_neg hz, List.filter_cons_of_neg hz] at this
        exact this
theorem Stab.unique (o : Swo lt) {l a b : List α} (h : Stab lt l a) (k : Stab lt l b) : a = b := srt_unique o h.srt k.srt fun x => (h.fil.fil x).trans (k.fil.fil x).symm

/-! sorted lists -/
theorem srt_append {a b : List α} : Srt lt (a ++ b) ↔ Srt lt a ∧ Srt lt b ∧ ∀ x, x ∈ a → ∀ y, y ∈ b → lt y x = false := List.pairwise_append
/-- in chunks -/
inductive Chk (lt : α → α → Bool) (n : Nat) : List α → Prop where
  | last (l : List α) (h : l.length ≤ n) (s : Srt lt l) : Chk lt n l
  | cons (a l : List α) (h : a.length = n) (s : Srt lt a) (c : Chk lt n l) : Chk lt n (a ++ l)
inductive Full (lt : α → α → Bool) (n : Nat) : List α → Prop where
  | nil : Full lt n []
  | cons (a l : List α) (h : a.length = n) (s : Srt lt a) (c : Full lt n l) : Full lt n (a ++ l)
theorem Full.snoc {n : Nat} {l a : List α} (h : Full lt n l) (ha : a.length = n) (s : Srt lt a) : Full lt n (l ++ a) := by
  induction h with
  | nil => simpa using Full.cons a [] ha s .nil
  | cons b l hb sb _ ih => rw [List.append_assoc]; exact .cons _ _ hb sb ih
theorem Full.chk {n : Nat} {l r : List α} (h : Full lt n l) (c : Chk lt n r) : Chk lt n (l ++ r) := by
  induction h with
  | nil => exact c
  | cons b l hb sb _ ih => rw [List.append_assoc]; exact .cons _ _ hb sb ih
theorem Chk.short {n : Nat} {l : List α} (h : Chk lt n l) (hl : l.length ≤ n) (hn : 0 < n) : Srt lt l := by
  cases h with
  | last _ _ s => exact s
  | cons a r ha s c =>
    have : r = [] := List.length_eq_zero_iff.1 (by rw [List.length_append] at hl; omega)
    subst this
    simpa using s
theorem Chk.split {n : Nat} {l : List α} (h : Chk lt n l) (hl : n < l.length) : ∃ a r, l = a ++ r ∧ a.length = n ∧ Srt lt a ∧ Chk lt n r := by
  cases h with
  | last _ h => omega
  | cons a r ha s c => exact ⟨a, r, rfl, ha, s, c⟩

/-- x goes down behind what is not greater -/
theorem ins_stab (o : Swo lt) {A X Y : List α} {x : α} (h : Stab lt A (X ++ Y)) (h1 : ∀ y, y ∈ Y → lt x y = true) (h2 : ∀ z, X.getLast? = some z → lt x z = false) : Stab lt (A ++ [x]) (X ++ (x :: Y)) := by
  obtain ⟨hs, hf⟩ := h
  rw [srt_append] at hs
  obtain ⟨s1, s2, s3⟩ := hs
  have hX : ∀ w, w ∈ X → lt x w = false := by
    intro w hw
    rcases List.eq_nil_or_concat X with e | ⟨X', z, e⟩
    · subst e; simp at hw
    · rw [List.concat_eq_append] at e
      subst e
      have hz := h2 z (by simp)
      rcases List.mem_append.1 hw with h | h
      · have := (srt_append.1 s1).2.2 w h z (by simp)
        exact o.ntr hz this
      · simp at h; subst h; exact hz
  constructor
  · rw [srt_append]
    refine ⟨s1, List.pairwise_cons.2 ⟨fun y hy => o.asym (h1 y hy), s2⟩, fun w hw y hy => ?_⟩
    rcases List.mem_cons.1 hy with rfl | hy
    · exact hX w hw
    · exact s3 w hw y hy
  · have p : Fil lt ((X ++ Y) ++ [x]) (X ++ (x :: Y)) := by
      rw [List.append_assoc]
      exact (Fil.refl X).append (Fil.past o (X := Y) (Y := [x]) fun y hy z hz => by simp at hz; subst hz; exact h1 y hy)
    exact (hf.append (Fil.refl [x])).trans p
end
end Go.AM.T
namespace Go.AM.T
section
variable {α : Type} {lt : α → α → Bool}
/-- the stable sort, as a function -/
def insS (lt : α → α → Bool) (x : α) : List α → List α
  | [] => [x]
  | y :: r => if lt y x then y :: insS lt x r else x :: y :: r
def sortS (lt : α → α → Bool) : List α → List α
  | [] => []
  | x :: l => insS lt x (sortS lt l)
theorem insS_stab (o : Swo lt) (x : α) : ∀ {l : List α}, Srt lt l → Srt lt (insS lt x l) ∧ Fil lt (x :: l) (insS lt x l) := by
  intro l
  induction l with
  | nil => intro _; exact ⟨List.pairwise_singleton .., Fil.refl _⟩
  | cons y r ih =>
    intro h
    obtain ⟨h1, h2⟩ := List.pairwise_cons.1 h
    unfold insS
    split
    · rename_i hyx
      obtain ⟨k1, k2⟩ := ih h2
      refine ⟨List.pairwise_cons.2 ⟨fun z hz => ?_, k1⟩, ?_⟩
      · rcases List.mem_cons.1 (k2.mem.1 hz) with rfl | hz
        · exact o.asym hyx
        · exact h1 z hz
      · have p1 : Fil lt ([x] ++ [y] ++ r) ([y] ++ [x] ++ r) := (Fil.past o (X := [x]) (Y := [y]) fun a ha b hb => by simp at ha hb; subst ha; subst hb; exact hyx).append (Fil.refl r)
        have p2 : Fil lt ([y] ++ (x :: r)) ([y] ++ insS lt x r) := (Fil.refl [y]).append k2
        exact Fil.trans (b := y :: x :: r) (by simpa using p1) (by simpa using p2)
    · rename_i hyx
      have hyx : lt y x = false := by simpa using hyx
      refine ⟨List.pairwise_cons.2 ⟨fun z hz => ?_, h⟩, Fil.refl _⟩
      rcases List.mem_cons.1 hz with rfl | hz
      · exact hyx
      · exact o.ntr (h1 z hz) hyx
theorem sortS_stab (o : Swo lt) : ∀ l : List α, Stab lt l (sortS lt l)
  | [] => ⟨List.Pairwise.nil, Fil.refl _⟩
  | x :: l => by
    have ih := sortS_stab o l
    obtain ⟨h1, h2⟩ := insS_stab o x ih.srt
    exact ⟨h1, Fil.trans ((Fil.refl [x]).append ih.fil) h2⟩
theorem Stab.eq (o : Swo lt) {l l' : List α} (h : Stab lt l l') : l' = sortS lt l := h.unique o (sortS_stab o l)
theorem sortS_len (o : Swo lt) (l : List α) : (sortS lt l).length = l.length := (sortS_stab o l).fil.len
/-- by a number -/
theorem swo_key (κ : α → Int) : Swo fun a b => decide (κ a < κ b) where
  irr := fun a => by simp
  tr := fun {a b c} h k => by simp at *; omega
  ntr := fun {a b c} h k => by simp at *; omega
end
end Go.AM.T
/- The stable sort of the library: insertion. -/
namespace Go.AM.T
open Go Go.AM

/-- a comparison: less than nought where the first is less -/
def CmpV {α : Type} (cf : Nat) (first cap : List AV) (val : α → AV) (lt : α → α → Bool) (S : α → Prop) : Prop :=
  ∀ x y, S x → S y → ∀ H (R : AV → AHeap → Prop), (∀ c : Int, (c < 0 ↔ lt x y = true) → R (.int .i64 c) H) → CallV tbl cf (first ++ ([val x, val y] ++ cap)) H R

section
variable {α : Type} {es : Nat} {ag : Bool} {enc : α → List AV} {val : α → AV} (E : Elt es ag enc val) {H0 : AHeap} {i : Nat} {pre post : List AV} {fS fR fM fI : Nat} {n cap : Nat} {ex : Bool} (hn : n ≤ 1000000)
  {cf : Nat} {first ccap : List AV} {lt : α → α → Bool} {W : α → Prop} (hc : CmpV cf first ccap val lt W)
include E hn hc
theorem ins_inner {k : List KI} {Q : AExit → Fr → AHeap → Prop} {P S : List α} {x : α} (hx : W x) : ∀ (m : Nat) (X Y : List α) (T : Fr) (H : AHeap), X.length = m → (∀ z, z ∈ X → W z) → (∀ y, y ∈ Y → lt x y = true) →
    Dat enc H0 i pre post (P ++ (X ++ (x :: (Y ++ S)))) H → (P ++ (X ++ (x :: (Y ++ S)))).length = n →
    gN T 0 = .sl i pre.length n cap es ex → gN T 1 = iv P.length → gN T 3 = .fn cf first ccap → gN T 9 = iv ((P.length + X.length : Nat) : Int) →
    (∀ X' Y' T' H', X' ++ Y' = X ++ Y → (∀ y, y ∈ Y' → lt x y = true) → (∀ z, X'.getLast? = some z → lt x z = false) → Dat enc H0 i pre post (P ++ (X' ++ (x :: (Y' ++ S)))) H' → (∀ s, s ≤ 8 → gN T' s = gN T s) → GoW tbl Q k (.exit 2) T' H') →
    GoS tbl (.code (.loop (ktIns_l1 es fS fR fM fI ag)) :: k) .normal T H Q := by
  intro m
  induction m with
  | zero =>
    intro X Y T H hm hX hY hD hl t0 t1 t3 t9 hk
    have : X = [] := List.length_eq_zero_iff.1 hm
    subst this
    simp only [List.length_nil, Nat.add_zero] at t9
    refine GoS.loopD (a' := tIns_l1 es fS fR fM fI ag) rfl (GoW.sound ?_)
    simp (disch := omega) only [tIns_l1, go_sem, ↓reduceIte, Nat.reduceEqDiff, Nat.reduceAdd, t0, t1, t3, t9, dT, dF, Bool.false_eq_true, true_and]
    refine hk [] Y _ H rfl hY (fun z e => by simp at e) hD fun s hs => ?_
    simp (disch := omega) only [go_sem, if_neg]
  | succ m ih =>
    intro X Y T H hm hX hY hD hl t0 t1 t3 t9 hk
    rcases List.eq_nil_or_concat X with e | ⟨X', z, e⟩
    · subst e; simp at hm
    rw [List.concat_eq_append] at e
    subst e
    have hl2 := hl
    simp only [List.length_append, List.length_cons, List.length_nil] at hl2 t9 hm
    have ep : (P ++ ((X' ++ [z]) ++ (x :: (Y ++ S))))[(P ++ (X' ++ [z])).length]? = some x := by
      have := ge_mid (P ++ (X' ++ [z])) x (Y ++ S)
      simpa only [List.append_assoc, List.cons_append] using this
    have eq : (P ++ ((X' ++ [z]) ++ (x :: (Y ++ S))))[(P ++ X').length]? = some z := by
      have := ge_mid (P ++ X') z (x :: (Y ++ S))
      simpa only [List.append_assoc, List.cons_append, List.nil_append] using this
    obtain ⟨H1, H2, s1, s2, hD2⟩ := dat_swap E hD ep eq
    have l1 := dat_load E hD ep
    have l2 := dat_load E hD eq
    have np : (((P.length + (X'.length + (0 + 1)) : Nat) : Int)).toNat = (P ++ (X' ++ [z])).length := by simp only [List.length_append, List.length_cons, List.length_nil]; omega
    have nq : (((P.length + (X'.length + (0 + 1)) : Nat) : Int) - 1).toNat = (P ++ X').length := by simp only [List.length_append]; omega
    refine GoS.loopD (a' := tIns_l1 es fS fR fM fI ag) rfl (GoW.sound ?_)
    simp (disch := (first | omega | (unfold InR; omega))) only [tIns_l1, go_sem, ↓reduceIte, Nat.reduceEqDiff, Nat.reduceAdd, t0, t1, t3, t9, dT, dF, idx_sl, np, nq, l1, l2, true_and]
    refine GoS.callv (f := cf) (first := first) (cap := ccap) (by simp only [go_sem, ↓reduceIte, Nat.reduceEqDiff]) ?_
    simp only [go_sem, ↓reduceIte, Nat.reduceEqDiff]
    refine hc x z hx (hX z (by simp)) H _ fun c hlt => GoW.sound ?_
    cases hb : lt x z with
    | true =>
      have hneg : c < 0 := hlt.2 hb
      simp (disch := (first | omega | (unfold InR; omega))) only [go_sem, ↓reduceIte, Nat.reduceEqDiff, Nat.reduceAdd, t0, t1, t3, t9, dT, dF, idx_sl, np, nq, l1, l2, s1, s2, true_and]
      have e1 : (P ++ ((X' ++ [z]) ++ (x :: (Y ++ S)))).set (P ++ (X' ++ [z])).length z = P ++ ((X' ++ [z]) ++ (z :: (Y ++ S))) := by
        have := set_mid (P ++ (X' ++ [z])) x z (Y ++ S)
        simpa only [List.append_assoc, List.cons_append] using this
      have e2 : (P ++ ((X' ++ [z]) ++ (z :: (Y ++ S)))).set (P ++ X').length x = P ++ (X' ++ (x :: (z :: (Y ++ S)))) := by
        have := set_mid (P ++ X') z x (z :: (Y ++ S))
        simpa only [List.append_assoc, List.cons_append, List.nil_append] using this
      rw [e1, e2] at hD2
      refine ih X' (z :: Y) _ H2 (by omega) (fun w hw => hX w (by simp [hw])) (fun y hy => ?_) hD2 (by simp only [List.length_append, List.length_cons]; omega) ?_ ?_ ?_ ?_ ?_
      · rcases List.mem_cons.1 hy with rfl | hy
        · exact hb
        · exact hY y hy
      · simp only [go_sem, ↓reduceIte, Nat.reduceEqDiff, t0]
      · simp only [go_sem, ↓reduceIte, Nat.reduceEqDiff, t1]
      · simp only [go_sem, ↓reduceIte, Nat.reduceEqDiff, t3]
      · simp only [go_sem, ↓reduceIte]; congr 1; omega
      · intro X2 Y2 T' H' g1 g2 g3 g4 g5
        refine hk X2 Y2 T' H' (by rw [g1]; simp) g2 g3 g4 fun s hs => (g5 s hs).trans ?_
        simp (disch := omega) only [go_sem, if_neg]
    | false =>
      have hneg : ¬ c < 0 := fun h => by rw [hlt.1 h] at hb; cases hb
      simp (disch := (first | omega | (unfold InR; omega))) only [go_sem, ↓reduceIte, Nat.reduceEqDiff, Nat.reduceAdd, t0, t1, t3, t9, dT, dF, true_and, Bool.false_eq_true]
      refine hk (X' ++ [z]) Y _ H rfl hY (fun w e => ?_) hD fun s hs => ?_
      · rw [List.getLast?_append] at e; simp at e; subst e; exact hb
      · simp (disch := omega) only [go_sem, if_neg]
theorem ins_outer (o : Swo lt) {k : List KI} {Q : AExit → Fr → AHeap → Prop} {P S : List α} : ∀ (R A M : List α) (T : Fr) (H : AHeap), Stab lt A M → (∀ z, z ∈ A ++ R → W z) → Dat enc H0 i pre post (P ++ (M ++ (R ++ S))) H → (P ++ (M ++ (R ++ S))).length = n →
    gN T 0 = .sl i pre.length n cap es ex → gN T 1 = iv P.length → gN T 2 = iv ((P.length + A.length + R.length : Nat) : Int) → gN T 3 = .fn cf first ccap → gN T 8 = iv ((P.length + A.length : Nat) : Int) →
    (∀ M' T' H', Stab lt (A ++ R) M' → Dat enc H0 i pre post (P ++ (M' ++ S)) H' → GoW tbl Q k (.exit 0) T' H') →
    GoS tbl (.code (.loop (ktIns_l0 es fS fR fM fI ag)) :: k) .normal T H Q := by
  intro R
  induction R with
  | nil =>
    intro A M T H hS hW hD hl t0 t1 t2 t3 t8 hk
    simp only [List.length_nil, Nat.add_zero] at t2
    refine GoS.loopD (a' := tIns_l0 es fS fR fM fI ag) rfl (GoW.sound ?_)
    simp (disch := omega) only [tIns_l0, go_sem, ↓reduceIte, Nat.reduceEqDiff, Nat.reduceAdd, t0, t1, t2, t3, t8, dT, dF, Bool.false_eq_true]
    exact hk M _ H (by simpa using hS) hD
  | cons x R ih =>
    intro A M T H hS hW hD hl t0 t1 t2 t3 t8 hk
    have hl2 := hl
    simp only [List.length_append, List.length_cons] at hl2 t2
    have hM := hS.fil.len
    refine GoS.loopD (a' := tIns_l0 es fS fR fM fI ag) rfl (GoW.sound ?_)
    simp (disch := omega) only [tIns_l0, go_sem, ↓reduceIte, Nat.reduceEqDiff, Nat.reduceAdd, t0, t1, t2, t3, t8, dT, dF]
    refine ins_inner E hn hc (P := P) (S := R ++ S) (x := x) (cap := cap) (ex := ex) (hW x (by simp)) M.length M [] _ H rfl (fun z hz => hW z (by rw [List.mem_append]; exact .inl (hS.fil.mem.1 hz))) (fun y hy => by simp at hy) hD (by simpa using hl) ?_ ?_ ?_ ?_ ?_
    · simp only [go_sem, ↓reduceIte, Nat.reduceEqDiff, t0]
    · simp only [go_sem, ↓reduceIte, Nat.reduceEqDiff, t1]
    · simp only [go_sem, ↓reduceIte, Nat.reduceEqDiff, t3]
    · simp only [go_sem, ↓reduceIte, Nat.reduceEqDiff, hM]
    · intro X' Y' T' H' g1 g2 g3 g4 g5
      rw [List.append_nil] at g1
      have f0 := g5 0 (by omega)
      have f1 := g5 1 (by omega)
      have f2 := g5 2 (by omega)
      have f3 := g5 3 (by omega)
      have f8 := g5 8 (by omega)
      simp only [go_sem, ↓reduceIte, Nat.reduceEqDiff, t0, t1, t2, t3, t8] at f0 f1 f2 f3 f8
      have hS2 := ins_stab o (g1 ▸ hS) g2 g3
      simp (disch := (first | omega | (unfold InR; omega))) only [go_sem, ↓reduceIte, Nat.reduceEqDiff, Nat.reduceAdd, f0, f1, f2, f3, f8]
      refine ih (A ++ [x]) (X' ++ x :: Y') _ H' hS2 (fun z hz => hW z (by simpa using hz)) (by simpa only [List.append_assoc, List.cons_append] using g4) ?_ ?_ ?_ ?_ ?_ ?_ ?_
      · have e1 := congrArg List.length g1
        simp only [List.length_append, List.length_cons] at e1 ⊢
        omega
      · simp only [go_sem, ↓reduceIte, Nat.reduceEqDiff, f0]
      · simp only [go_sem, ↓reduceIte, Nat.reduceEqDiff, f1]
      · simp only [go_sem, ↓reduceIte, Nat.reduceEqDiff, f2]; congr 2; simp only [List.length_append, List.length_cons, List.length_nil]; omega
      · simp only [go_sem, ↓reduceIte, Nat.reduceEqDiff, f3]
      · simp only [go_sem, ↓reduceIte]; congr 1; simp only [List.length_append, List.length_cons, List.length_nil]; omega
      · intro M' T'' H'' q1 q2
        exact hk M' T'' H'' (by simpa using q1) q2
theorem ins_does (o : Swo lt) (hI : tbl fI = some ⟨tIns es fS fR fM fI ag, []⟩) {P X S : List α} {H : AHeap} {a b : Int} {R : AV → AHeap → Prop} (hW : ∀ z, z ∈ X → W z)
    (hD : Dat enc H0 i pre post (P ++ (X ++ S)) H) (hl : (P ++ (X ++ S)).length = n) (ha : a = P.length) (hb : b = (P.length + X.length : Nat))
    (h : ∀ M H', Stab lt X M → Dat enc H0 i pre post (P ++ (M ++ S)) H' → R (.tup []) H') : CallV tbl fI [.sl i pre.length n cap es ex, iv a, iv b, .fn cf first ccap] H R := by
  subst ha; subst hb
  have hl2 := hl
  simp only [List.length_append] at hl2
  refine T.callW hI ?_
  simp (disch := (first | omega | (unfold InR; omega))) only [tIns, go_sem, ↓reduceIte, Nat.reduceEqDiff, Nat.reduceAdd]
  cases X with
  | nil =>
    refine GoS.loopD (a' := tIns_l0 es fS fR fM fI ag) rfl (GoW.sound ?_)
    simp (disch := (simp only [List.length_nil]; omega)) only [tIns_l0, go_sem, ↓reduceIte, Nat.reduceEqDiff, Nat.reduceAdd, dF, Bool.false_eq_true]
    exact .same (h [] H ⟨List.Pairwise.nil, Fil.refl _⟩ hD)
  | cons x X =>
    refine ins_outer E hn hc o (P := P) (S := S) (cap := cap) (ex := ex) X [x] [x] _ H ⟨List.pairwise_singleton .., Fil.refl _⟩ hW hD hl ?_ ?_ ?_ ?_ ?_ fun M' T' H' q1 q2 => ?_
    · simp only [go_sem, ↓reduceIte, Nat.reduceEqDiff]
    · simp only [go_sem, ↓reduceIte, Nat.reduceEqDiff]
    · simp only [go_sem, ↓reduceIte, Nat.reduceEqDiff]; congr 2; simp only [List.length_cons, List.length_nil]; omega
    · simp only [go_sem, ↓reduceIte, Nat.reduceEqDiff]
    · simp only [go_sem, ↓reduceIte, Nat.reduceEqDiff]; congr 1
    · simp only [go_sem, ↓reduceIte]
      exact .same (h M' H' q1 q2)
end
end Go.AM.T
/- The stable sort of the library: the searches (made by mks4.py). -/
namespace Go.AM.T
open Go Go.AM
theorem half_shr (v : Nat) : bin .shr (.int .u64 (v : Int)) (.int .u64 1) = some (.int .u64 ((v / 2 : Nat) : Int)) := by
  show some (AV.int .u64 ((v : Int).fdiv (2 ^ (min 1 IntKind.u64.bits)))) = _
  congr 2
  show (v : Int).fdiv 2 = _
  rw [Int.fdiv_eq_ediv_of_nonneg _ (by decide)]
  omega
theorem conv_u {n : Int} (h0 : 0 ≤ n) (h1 : n ≤ 1000000000) : opConvI .u64 (.int .i64 n) = some (.int .u64 n) := by
  simp only [opConvI, asI]
  congr 2
  unfold wrapK
  rw [if_pos]
  simp only [Bool.and_eq_true, intLe_iff, kMin, kMax]; omega
section
variable {α : Type} {es : Nat} {ag : Bool} {enc : α → List AV} {val : α → AV} (E : Elt es ag enc val) {H0 : AHeap} {i : Nat} {pre post : List AV} {fS fR fM fI : Nat} {n cap : Nat} {ex : Bool} (hn : n ≤ 1000000)
  {cf : Nat} {first ccap : List AV} {lt : α → α → Bool} {W : α → Prop} (hc : CmpV cf first ccap val lt W)
include E hn hc
theorem bs0 {k : List KI} {Q : AExit → Fr → AHeap → Prop} {L : List α} {H : AHeap} (hD : Dat enc H0 i pre post L H) (hl : L.length = n) {a : Nat} {x : α} (hx : L[a]? = some x) (Wx : W x) {lo0 hi0 : Nat} (hh : hi0 ≤ n) {q : Nat → Bool} (hq : ∀ h, lo0 ≤ h → h < hi0 → ∃ y, W y ∧ L[h]? = some y ∧ q h = lt y x)
    (mono : ∀ h t, lo0 ≤ t → t ≤ h → h < hi0 → q h = true → q t = true) : ∀ (d lo hi : Nat) (T : Fr), hi - lo ≤ d → lo0 ≤ lo → lo ≤ hi → hi ≤ hi0 → (∀ t, lo0 ≤ t → t < lo → q t = true) → (∀ t, hi ≤ t → t < hi0 → q t = false) →
    gN T 0 = .sl i pre.length n cap es ex → gN T 1 = iv a → gN T 4 = .fn cf first ccap → gN T 10 = iv lo → gN T 11 = iv hi →
    (∀ e T', lo0 ≤ e → e ≤ hi0 → (∀ t, lo0 ≤ t → t < e → q t = true) → (∀ t, e ≤ t → t < hi0 → q t = false) → gN T' 10 = iv e → (∀ s, s ≤ 9 → gN T' s = gN T s) → GoW tbl Q k (.exit 0) T' H) →
    GoS tbl (.code (.loop (ktSym_l0 es fS fR fM fI ag)) :: k) .normal T H Q := by
  intro d
  induction d with
  | zero =>
    intro lo hi T hd h1 h2 h3 q1 q2 t0 t1 t4 tl th hk
    have : lo = hi := by omega
    subst this
    refine GoS.loopD (a' := tSym_l0 es fS fR fM fI ag) rfl (GoW.sound ?_)
    simp (disch := omega) only [tSym_l0, go_sem, ↓reduceIte, Nat.reduceEqDiff, Nat.reduceAdd, t0, t1, t4, tl, th, dT, dF, Bool.false_eq_true]
    refine hk lo _ h1 h3 q1 q2 ?_ fun s hs => ?_
    · simp only [go_sem, ↓reduceIte, Nat.reduceEqDiff, tl]
    · simp (disch := omega) only [go_sem, if_neg]
  | succ d ih =>
    intro lo hi T hd h1 h2 h3 q1 q2 t0 t1 t4 tl th hk
    by_cases hlt : lo < hi
    · have hm1 : lo ≤ (lo + hi) / 2 := by omega
      have hm2 : (lo + hi) / 2 < hi := by omega
      generalize hh' : (lo + hi) / 2 = mid at hm1 hm2
      have c1 : bin .add (iv lo) (iv hi) = some (iv ((lo + hi : Nat) : Int)) := by rw [bin_add (by unfold InR; omega)]; congr 2
      have c2 : bin .shr (.int .u64 ((lo + hi : Nat) : Int)) (.int .u64 1) = some (.int .u64 (mid : Int)) := by rw [half_shr, hh']
      have c3 : opConvI .u64 (iv ((lo + hi : Nat) : Int)) = some (.int .u64 ((lo + hi : Nat) : Int)) := conv_u (by omega) (by omega)
      have c4 : opConvI .i64 (.int .u64 (mid : Int)) = some (iv mid) := convI_in (by unfold InR; omega)
      obtain ⟨y, Wy, hy, hqm⟩ := hq mid (by omega) (by omega)
      have l1 := dat_load E hD hx
      have l2 := dat_load E hD hy
      have ha : a < L.length := (List.getElem?_eq_some_iff.1 hx).1
      refine GoS.loopD (a' := tSym_l0 es fS fR fM fI ag) rfl (GoW.sound ?_)
      simp (disch := (first | omega | (unfold InR; omega))) only [tSym_l0, go_sem, ↓reduceIte, Nat.reduceEqDiff, Nat.reduceAdd, t0, t1, t4, tl, th, dT, dF, idx_sl, c1, c2, c3, c4, l1, l2, true_and]
      refine GoS.callv (f := cf) (first := first) (cap := ccap) (by simp only [go_sem, ↓reduceIte, Nat.reduceEqDiff]) ?_
      simp only [go_sem, ↓reduceIte, Nat.reduceEqDiff]
      refine hc _ _ Wy Wx H _ fun c hcl => GoW.sound ?_
      cases hb : q mid with
      | true =>
        have hneg : c < 0 := hcl.2 (by rw [← hqm]; exact hb)
        simp (disch := (first | omega | (unfold InR; omega))) only [go_sem, ↓reduceIte, Nat.reduceEqDiff, Nat.reduceAdd, dT, dF, true_and, Bool.not_false, Bool.not_true]
        refine ih (mid + 1) hi _ (by omega) (by omega) (by omega) h3 (fun t ht ht' => mono mid t ht (by omega) (by omega) hb) q2 ?_ ?_ ?_ ?_ ?_ fun e T' g1 g2 g3 g4 g5 g6 => hk e T' g1 g2 g3 g4 g5 fun s hs => (g6 s hs).trans ?_
        · simp only [go_sem, ↓reduceIte, Nat.reduceEqDiff, t0]
        · simp only [go_sem, ↓reduceIte, Nat.reduceEqDiff, t1, and_self]
        · simp only [go_sem, ↓reduceIte, Nat.reduceEqDiff, t4]
        · simp only [go_sem, ↓reduceIte, Nat.reduceEqDiff]; congr 1
        · simp only [go_sem, ↓reduceIte, Nat.reduceEqDiff, th]
        · simp (disch := omega) only [go_sem, if_neg]
      | false =>
        have hneg : ¬ c < 0 := fun h => by rw [hqm, hcl.1 h] at hb; cases hb
        simp (disch := (first | omega | (unfold InR; omega))) only [go_sem, ↓reduceIte, Nat.reduceEqDiff, Nat.reduceAdd, dT, dF, true_and, Bool.not_false, Bool.not_true, Bool.false_eq_true]
        refine ih lo mid _ (by omega) h1 hm1 (by omega) q1 (fun t ht ht' => ?_) ?_ ?_ ?_ ?_ ?_ fun e T' g1 g2 g3 g4 g5 g6 => hk e T' g1 g2 g3 g4 g5 fun s hs => (g6 s hs).trans ?_
        · cases ht2 : q t with
          | false => rfl
          | true => rw [mono t mid (by omega) ht ht' ht2] at hb; cases hb
        · simp only [go_sem, ↓reduceIte, Nat.reduceEqDiff, t0]
        · simp only [go_sem, ↓reduceIte, Nat.reduceEqDiff, t1, and_self]
        · simp only [go_sem, ↓reduceIte, Nat.reduceEqDiff, t4]
        · simp only [go_sem, ↓reduceIte, Nat.reduceEqDiff, tl]
        · simp only [go_sem, ↓reduceIte, Nat.reduceEqDiff]
        · simp (disch := omega) only [go_sem, if_neg]
    · have : lo = hi := by omega
      subst this
      refine GoS.loopD (a' := tSym_l0 es fS fR fM fI ag) rfl (GoW.sound ?_)
      simp (disch := omega) only [tSym_l0, go_sem, ↓reduceIte, Nat.reduceEqDiff, Nat.reduceAdd, t0, t1, t4, tl, th, dT, dF, Bool.false_eq_true]
      refine hk lo _ h1 h3 q1 q2 ?_ fun s hs => ?_
      · simp only [go_sem, ↓reduceIte, Nat.reduceEqDiff, tl]
      · simp (disch := omega) only [go_sem, if_neg]
theorem bs2 {k : List KI} {Q : AExit → Fr → AHeap → Prop} {L : List α} {H : AHeap} (hD : Dat enc H0 i pre post L H) (hl : L.length = n) {m : Nat} {x : α} (hx : L[m]? = some x) (Wx : W x) {lo0 hi0 : Nat} (hh : hi0 ≤ n) {q : Nat → Bool} (hq : ∀ h, lo0 ≤ h → h < hi0 → ∃ y, W y ∧ L[h]? = some y ∧ q h = !lt x y)
    (mono : ∀ h t, lo0 ≤ t → t ≤ h → h < hi0 → q h = true → q t = true) : ∀ (d lo hi : Nat) (T : Fr), hi - lo ≤ d → lo0 ≤ lo → lo ≤ hi → hi ≤ hi0 → (∀ t, lo0 ≤ t → t < lo → q t = true) → (∀ t, hi ≤ t → t < hi0 → q t = false) →
    gN T 0 = .sl i pre.length n cap es ex → gN T 2 = iv m → gN T 4 = .fn cf first ccap → gN T 14 = iv lo → gN T 15 = iv hi →
    (∀ e T', lo0 ≤ e → e ≤ hi0 → (∀ t, lo0 ≤ t → t < e → q t = true) → (∀ t, e ≤ t → t < hi0 → q t = false) → gN T' 14 = iv e → (∀ s, s ≤ 13 → gN T' s = gN T s) → GoW tbl Q k (.exit 4) T' H) →
    GoS tbl (.code (.loop (ktSym_l2 es fS fR fM fI ag)) :: k) .normal T H Q := by
  intro d
  induction d with
  | zero =>
    intro lo hi T hd h1 h2 h3 q1 q2 t0 t1 t4 tl th hk
    have : lo = hi := by omega
    subst this
    refine GoS.loopD (a' := tSym_l2 es fS fR fM fI ag) rfl (GoW.sound ?_)
    simp (disch := omega) only [tSym_l2, go_sem, ↓reduceIte, Nat.reduceEqDiff, Nat.reduceAdd, t0, t1, t4, tl, th, dT, dF, Bool.false_eq_true]
    refine hk lo _ h1 h3 q1 q2 ?_ fun s hs => ?_
    · simp only [go_sem, ↓reduceIte, Nat.reduceEqDiff, tl]
    · simp (disch := omega) only [go_sem, if_neg]
  | succ d ih =>
    intro lo hi T hd h1 h2 h3 q1 q2 t0 t1 t4 tl th hk
    by_cases hlt : lo < hi
    · have hm1 : lo ≤ (lo + hi) / 2 := by omega
      have hm2 : (lo + hi) / 2 < hi := by omega
      generalize hh' : (lo + hi) / 2 = mid at hm1 hm2
      have c1 : bin .add (iv lo) (iv hi) = some (iv ((lo + hi : Nat) : Int)) := by rw [bin_add (by unfold InR; omega)]; congr 2
      have c2 : bin .shr (.int .u64 ((lo + hi : Nat) : Int)) (.int .u64 1) = some (.int .u64 (mid : Int)) := by rw [half_shr, hh']
      have c3 : opConvI .u64 (iv ((lo + hi : Nat) : Int)) = some (.int .u64 ((lo + hi : Nat) : Int)) := conv_u (by omega) (by omega)
      have c4 : opConvI .i64 (.int .u64 (mid : Int)) = some (iv mid) := convI_in (by unfold InR; omega)
      obtain ⟨y, Wy, hy, hqm⟩ := hq mid (by omega) (by omega)
      have l1 := dat_load E hD hx
      have l2 := dat_load E hD hy
      have ha : m < L.length := (List.getElem?_eq_some_iff.1 hx).1
      refine GoS.loopD (a' := tSym_l2 es fS fR fM fI ag) rfl (GoW.sound ?_)
      simp (disch := (first | omega | (unfold InR; omega))) only [tSym_l2, go_sem, ↓reduceIte, Nat.reduceEqDiff, Nat.reduceAdd, t0, t1, t4, tl, th, dT, dF, idx_sl, c1, c2, c3, c4, l1, l2, true_and]
      refine GoS.callv (f := cf) (first := first) (cap := ccap) (by simp only [go_sem, ↓reduceIte, Nat.reduceEqDiff]) ?_
      simp only [go_sem, ↓reduceIte, Nat.reduceEqDiff]
      refine hc _ _ Wx Wy H _ fun c hcl => GoW.sound ?_
      cases hb : q mid with
      | true =>
        have hneg : ¬ c < 0 := fun h => by rw [hqm, hcl.1 h] at hb; cases hb
        simp (disch := (first | omega | (unfold InR; omega))) only [go_sem, ↓reduceIte, Nat.reduceEqDiff, Nat.reduceAdd, dT, dF, true_and, Bool.not_false, Bool.not_true]
        refine ih (mid + 1) hi _ (by omega) (by omega) (by omega) h3 (fun t ht ht' => mono mid t ht (by omega) (by omega) hb) q2 ?_ ?_ ?_ ?_ ?_ fun e T' g1 g2 g3 g4 g5 g6 => hk e T' g1 g2 g3 g4 g5 fun s hs => (g6 s hs).trans ?_
        · simp only [go_sem, ↓reduceIte, Nat.reduceEqDiff, t0]
        · simp only [go_sem, ↓reduceIte, Nat.reduceEqDiff, t1, and_self]
        · simp only [go_sem, ↓reduceIte, Nat.reduceEqDiff, t4]
        · simp only [go_sem, ↓reduceIte, Nat.reduceEqDiff]; congr 1
        · simp only [go_sem, ↓reduceIte, Nat.reduceEqDiff, th]
        · simp (disch := omega) only [go_sem, if_neg]
      | false =>
        have hneg : c < 0 := hcl.2 (by have e := hqm.symm.trans hb; simpa using e)
        simp (disch := (first | omega | (unfold InR; omega))) only [go_sem, ↓reduceIte, Nat.reduceEqDiff, Nat.reduceAdd, dT, dF, true_and, Bool.not_false, Bool.not_true, Bool.false_eq_true]
        refine ih lo mid _ (by omega) h1 hm1 (by omega) q1 (fun t ht ht' => ?_) ?_ ?_ ?_ ?_ ?_ fun e T' g1 g2 g3 g4 g5 g6 => hk e T' g1 g2 g3 g4 g5 fun s hs => (g6 s hs).trans ?_
        · cases ht2 : q t with
          | false => rfl
          | true => rw [mono t mid (by omega) ht ht' ht2] at hb; cases hb
        · simp only [go_sem, ↓reduceIte, Nat.reduceEqDiff, t0]
        · simp only [go_sem, ↓reduceIte, Nat.reduceEqDiff, t1, and_self]
        · simp only [go_sem, ↓reduceIte, Nat.reduceEqDiff, t4]
        · simp only [go_sem, ↓reduceIte, Nat.reduceEqDiff, tl]
        · simp only [go_sem, ↓reduceIte, Nat.reduceEqDiff]
        · simp (disch := omega) only [go_sem, if_neg]
    · have : lo = hi := by omega
      subst this
      refine GoS.loopD (a' := tSym_l2 es fS fR fM fI ag) rfl (GoW.sound ?_)
      simp (disch := omega) only [tSym_l2, go_sem, ↓reduceIte, Nat.reduceEqDiff, Nat.reduceAdd, t0, t1, t4, tl, th, dT, dF, Bool.false_eq_true]
      refine hk lo _ h1 h3 q1 q2 ?_ fun s hs => ?_
      · simp only [go_sem, ↓reduceIte, Nat.reduceEqDiff, tl]
      · simp (disch := omega) only [go_sem, if_neg]
theorem bs4 {k : List KI} {Q : AExit → Fr → AHeap → Prop} {L : List α} {H : AHeap} (hD : Dat enc H0 i pre post L H) (hl : L.length = n) {p : Nat} {lo0 hi0 : Nat} (hh : hi0 ≤ n) {q : Nat → Bool} (hq : ∀ h, lo0 ≤ h → h < hi0 → h ≤ p ∧ p - h < n ∧ ∃ y z, W y ∧ W z ∧ L[p - h]? = some y ∧ L[h]? = some z ∧ q h = !lt y z)
    (mono : ∀ h t, lo0 ≤ t → t ≤ h → h < hi0 → q h = true → q t = true) : ∀ (d lo hi : Nat) (T : Fr), hi - lo ≤ d → lo0 ≤ lo → lo ≤ hi → hi ≤ hi0 → (∀ t, lo0 ≤ t → t < lo → q t = true) → (∀ t, hi ≤ t → t < hi0 → q t = false) →
    gN T 0 = .sl i pre.length n cap es ex → gN T 22 = iv p → gN T 4 = .fn cf first ccap → gN T 20 = iv lo → gN T 21 = iv hi →
    (∀ e T', lo0 ≤ e → e ≤ hi0 → (∀ t, lo0 ≤ t → t < e → q t = true) → (∀ t, e ≤ t → t < hi0 → q t = false) → gN T' 20 = iv e → (∀ s, s ≤ 19 → gN T' s = gN T s) → GoW tbl Q k (.exit 8) T' H) →
    GoS tbl (.code (.loop (ktSym_l4 es fS fR fM fI ag)) :: k) .normal T H Q := by
  intro d
  induction d with
  | zero =>
    intro lo hi T hd h1 h2 h3 q1 q2 t0 t1 t4 tl th hk
    have : lo = hi := by omega
    subst this
    refine GoS.loopD (a' := tSym_l4 es fS fR fM fI ag) rfl (GoW.sound ?_)
    simp (disch := omega) only [tSym_l4, go_sem, ↓reduceIte, Nat.reduceEqDiff, Nat.reduceAdd, t0, t1, t4, tl, th, dT, dF, Bool.false_eq_true]
    refine hk lo _ h1 h3 q1 q2 ?_ fun s hs => ?_
    · simp only [go_sem, ↓reduceIte, Nat.reduceEqDiff, tl]
    · simp (disch := omega) only [go_sem, if_neg]
  | succ d ih =>
    intro lo hi T hd h1 h2 h3 q1 q2 t0 t1 t4 tl th hk
    by_cases hlt : lo < hi
    · have hm1 : lo ≤ (lo + hi) / 2 := by omega
      have hm2 : (lo + hi) / 2 < hi := by omega
      generalize hh' : (lo + hi) / 2 = mid at hm1 hm2
      have c1 : bin .add (iv lo) (iv hi) = some (iv ((lo + hi : Nat) : Int)) := by rw [bin_add (by unfold InR; omega)]; congr 2
      have c2 : bin .shr (.int .u64 ((lo + hi : Nat) : Int)) (.int .u64 1) = some (.int .u64 (mid : Int)) := by rw [half_shr, hh']
      have c3 : opConvI .u64 (iv ((lo + hi : Nat) : Int)) = some (.int .u64 ((lo + hi : Nat) : Int)) := conv_u (by omega) (by omega)
      have c4 : opConvI .i64 (.int .u64 (mid : Int)) = some (iv mid) := convI_in (by unfold InR; omega)
      obtain ⟨hp1, hp2, y, z, Wy, Wz, hy, hz, hqm⟩ := hq mid (by omega) (by omega)
      have l1 := dat_load E hD hy
      have l2 := dat_load E hD hz
      have np : ((p : Int) - (mid : Int)).toNat = p - mid := by omega
      refine GoS.loopD (a' := tSym_l4 es fS fR fM fI ag) rfl (GoW.sound ?_)
      simp (disch := (first | omega | (unfold InR; omega))) only [tSym_l4, go_sem, ↓reduceIte, Nat.reduceEqDiff, Nat.reduceAdd, t0, t1, t4, tl, th, dT, dF, idx_sl, c1, c2, c3, c4, np, l1, l2, true_and]
      refine GoS.callv (f := cf) (first := first) (cap := ccap) (by simp only [go_sem, ↓reduceIte, Nat.reduceEqDiff]) ?_
      simp only [go_sem, ↓reduceIte, Nat.reduceEqDiff]
      refine hc _ _ Wy Wz H _ fun c hcl => GoW.sound ?_
      cases hb : q mid with
      | true =>
        have hneg : ¬ c < 0 := fun h => by rw [hqm, hcl.1 h] at hb; cases hb
        simp (disch := (first | omega | (unfold InR; omega))) only [go_sem, ↓reduceIte, Nat.reduceEqDiff, Nat.reduceAdd, dT, dF, true_and, Bool.not_false, Bool.not_true]
        refine ih (mid + 1) hi _ (by omega) (by omega) (by omega) h3 (fun t ht ht' => mono mid t ht (by omega) (by omega) hb) q2 ?_ ?_ ?_ ?_ ?_ fun e T' g1 g2 g3 g4 g5 g6 => hk e T' g1 g2 g3 g4 g5 fun s hs => (g6 s hs).trans ?_
        · simp only [go_sem, ↓reduceIte, Nat.reduceEqDiff, t0]
        · simp only [go_sem, ↓reduceIte, Nat.reduceEqDiff, t1, and_self]
        · simp only [go_sem, ↓reduceIte, Nat.reduceEqDiff, t4]
        · simp only [go_sem, ↓reduceIte, Nat.reduceEqDiff]; congr 1
        · simp only [go_sem, ↓reduceIte, Nat.reduceEqDiff, th]
        · simp (disch := omega) only [go_sem, if_neg]
      | false =>
        have hneg : c < 0 := hcl.2 (by have e := hqm.symm.trans hb; simpa using e)
        simp (disch := (first | omega | (unfold InR; omega))) only [go_sem, ↓reduceIte, Nat.reduceEqDiff, Nat.reduceAdd, dT, dF, true_and, Bool.not_false, Bool.not_true, Bool.false_eq_true]
        refine ih lo mid _ (by omega) h1 hm1 (by omega) q1 (fun t ht ht' => ?_) ?_ ?_ ?_ ?_ ?_ fun e T' g1 g2 g3 g4 g5 g6 => hk e T' g1 g2 g3 g4 g5 fun s hs => (g6 s hs).trans ?_
        · cases ht2 : q t with
          | false => rfl
          | true => rw [mono t mid (by omega) ht ht' ht2] at hb; cases hb
        · simp only [go_sem, ↓reduceIte, Nat.reduceEqDiff, t0]
        · simp only [go_sem, ↓reduceIte, Nat.reduceEqDiff, t1, and_self]
        · simp only [go_sem, ↓reduceIte, Nat.reduceEqDiff, t4]
        · simp only [go_sem, ↓reduceIte, Nat.reduceEqDiff, tl]
        · simp only [go_sem, ↓reduceIte, Nat.reduceEqDiff]
        · simp (disch := omega) only [go_sem, if_neg]
    · have : lo = hi := by omega
      subst this
      refine GoS.loopD (a' := tSym_l4 es fS fR fM fI ag) rfl (GoW.sound ?_)
      simp (disch := omega) only [tSym_l4, go_sem, ↓reduceIte, Nat.reduceEqDiff, Nat.reduceAdd, t0, t1, t4, tl, th, dT, dF, Bool.false_eq_true]
      refine hk lo _ h1 h3 q1 q2 ?_ fun s hs => ?_
      · simp only [go_sem, ↓reduceIte, Nat.reduceEqDiff, tl]
      · simp (disch := omega) only [go_sem, if_neg]
end
end Go.AM.T
/- The stable sort of the library: the symmetric merge. -/
namespace Go.AM.T
open Go Go.AM
section
variable {α : Type} {es : Nat} {ag : Bool} {enc : α → List AV} {val : α → AV} (E : Elt es ag enc val) {H0 : AHeap} {i : Nat} {pre post : List AV} {fS fR fM fI : Nat} {n cap : Nat} {ex : Bool} (hn : n ≤ 1000000)
include E hn
theorem bub1 {k : List KI} {Q : AExit → Fr → AHeap → Prop} {P S : List α} {x : α} : ∀ (U D : List α) (T : Fr) (H : AHeap), Dat enc H0 i pre post (P ++ (D ++ (x :: (U ++ S)))) H → (P ++ (D ++ (x :: (U ++ S)))).length = n →
    gN T 0 = .sl i pre.length n cap es ex → gN T 13 = iv ((P.length + D.length : Nat) : Int) → gN T 10 = iv ((P.length + D.length + 1 + U.length : Nat) : Int) →
    (∀ T' H', Dat enc H0 i pre post (P ++ ((D ++ U) ++ (x :: S))) H' → GoW tbl Q k (.exit 2) T' H') → GoS tbl (.code (.loop (ktSym_l1 es fS fR fM fI ag)) :: k) .normal T H Q := by
  intro U
  induction U with
  | nil =>
    intro D T H hD hl t0 t13 t10 hk
    simp only [List.length_append, List.length_cons] at hl
    simp only [List.length_nil, Nat.add_zero] at t10
    refine GoS.loopD (a' := tSym_l1 es fS fR fM fI ag) rfl (GoW.sound ?_)
    simp (disch := (first | omega | (unfold InR; omega))) only [tSym_l1, go_sem, ↓reduceIte, Nat.reduceEqDiff, Nat.reduceAdd, t0, t13, t10, dT, dF, Bool.false_eq_true]
    exact hk _ H (by simpa using hD)
  | cons u U ih =>
    intro D T H hD hl t0 t13 t10 hk
    have hl2 := hl
    simp only [List.length_append, List.length_cons] at hl2 t10
    have ep : (P ++ (D ++ (x :: (u :: U ++ S))))[(P ++ D).length]? = some x := by
      have := ge_mid (P ++ D) x (u :: U ++ S)
      simpa only [List.append_assoc, List.cons_append] using this
    have eq : (P ++ (D ++ (x :: (u :: U ++ S))))[(P ++ (D ++ [x])).length]? = some u := by
      have := ge_mid (P ++ (D ++ [x])) u (U ++ S)
      simpa only [List.append_assoc, List.cons_append, List.nil_append] using this
    obtain ⟨H1, H2, s1, s2, hD2⟩ := dat_swap E hD ep eq
    have l1 := dat_load E hD ep
    have l2 := dat_load E hD eq
    have np : (((P.length + D.length : Nat) : Int)).toNat = (P ++ D).length := by simp only [List.length_append]; omega
    have nq : (((P.length + D.length : Nat) : Int) + 1).toNat = (P ++ (D ++ [x])).length := by simp only [List.length_append, List.length_cons, List.length_nil]; omega
    refine GoS.loopD (a' := tSym_l1 es fS fR fM fI ag) rfl (GoW.sound ?_)
    simp (disch := (first | omega | (unfold InR; omega))) only [tSym_l1, go_sem, ↓reduceIte, Nat.reduceEqDiff, Nat.reduceAdd, t0, t13, t10, dT, dF, idx_sl, np, nq, l1, l2, s1, s2, true_and]
    have e1 : (P ++ (D ++ (x :: (u :: U ++ S)))).set (P ++ D).length u = P ++ (D ++ (u :: (u :: U ++ S))) := by
      have := set_mid (P ++ D) x u (u :: U ++ S)
      simpa only [List.append_assoc, List.cons_append] using this
    have e2 : (P ++ (D ++ (u :: (u :: U ++ S)))).set (P ++ (D ++ [x])).length x = P ++ ((D ++ [u]) ++ (x :: (U ++ S))) := by
      have := set_mid (P ++ (D ++ [u])) u x (U ++ S)
      simpa only [List.append_assoc, List.cons_append, List.nil_append, List.length_append, List.length_cons, List.length_nil] using this
    rw [e1, e2] at hD2
    refine ih (D ++ [u]) _ H2 hD2 (by simp only [List.length_append, List.length_cons, List.length_nil]; omega) ?_ ?_ ?_ fun T' H' hd => hk T' H' (by simpa using hd)
    · simp only [go_sem, ↓reduceIte, Nat.reduceEqDiff, t0]
    · simp only [go_sem, ↓reduceIte]; congr 1; simp only [List.length_append, List.length_cons, List.length_nil]; omega
    · simp only [go_sem, ↓reduceIte, Nat.reduceEqDiff, t10]; congr 2; simp only [List.length_append, List.length_cons, List.length_nil]; omega
theorem bub3 {k : List KI} {Q : AExit → Fr → AHeap → Prop} {P S : List α} {x : α} : ∀ (m : Nat) (U D : List α) (T : Fr) (H : AHeap), U.length = m → Dat enc H0 i pre post (P ++ (U ++ (x :: (D ++ S)))) H → (P ++ (U ++ (x :: (D ++ S)))).length = n →
    gN T 0 = .sl i pre.length n cap es ex → gN T 17 = iv ((P.length + U.length : Nat) : Int) → gN T 14 = iv P.length →
    (∀ T' H', Dat enc H0 i pre post (P ++ (x :: ((U ++ D) ++ S))) H' → GoW tbl Q k (.exit 6) T' H') → GoS tbl (.code (.loop (ktSym_l3 es fS fR fM fI ag)) :: k) .normal T H Q := by
  intro m
  induction m with
  | zero =>
    intro U D T H hm hD hl t0 t17 t14 hk
    have : U = [] := List.length_eq_zero_iff.1 hm
    subst this
    simp only [List.length_nil, Nat.add_zero] at t17
    refine GoS.loopD (a' := tSym_l3 es fS fR fM fI ag) rfl (GoW.sound ?_)
    simp (disch := omega) only [tSym_l3, go_sem, ↓reduceIte, Nat.reduceEqDiff, Nat.reduceAdd, t0, t17, t14, dT, dF, Bool.false_eq_true]
    exact hk _ H (by simpa using hD)
  | succ m ih =>
    intro U D T H hm hD hl t0 t17 t14 hk
    rcases List.eq_nil_or_concat U with e | ⟨U', z, e⟩
    · subst e; simp at hm
    rw [List.concat_eq_append] at e
    subst e
    have hl2 := hl
    simp only [List.length_append, List.length_cons, List.length_nil] at hl2 t17 hm
    have ep : (P ++ ((U' ++ [z]) ++ (x :: (D ++ S))))[(P ++ (U' ++ [z])).length]? = some x := by
      have := ge_mid (P ++ (U' ++ [z])) x (D ++ S)
      simpa only [List.append_assoc, List.cons_append] using this
    have eq : (P ++ ((U' ++ [z]) ++ (x :: (D ++ S))))[(P ++ U').length]? = some z := by
      have := ge_mid (P ++ U') z (x :: (D ++ S))
      simpa only [List.append_assoc, List.cons_append, List.nil_append] using this
    obtain ⟨H1, H2, s1, s2, hD2⟩ := dat_swap E hD ep eq
    have l1 := dat_load E hD ep
    have l2 := dat_load E hD eq
    have np : (((P.length + (U'.length + (0 + 1)) : Nat) : Int)).toNat = (P ++ (U' ++ [z])).length := by simp only [List.length_append, List.length_cons, List.length_nil]; omega
    have nq : (((P.length + (U'.length + (0 + 1)) : Nat) : Int) - 1).toNat = (P ++ U').length := by simp only [List.length_append]; omega
    refine GoS.loopD (a' := tSym_l3 es fS fR fM fI ag) rfl (GoW.sound ?_)
    simp (disch := (first | omega | (unfold InR; omega))) only [tSym_l3, go_sem, ↓reduceIte, Nat.reduceEqDiff, Nat.reduceAdd, t0, t17, t14, dT, dF, idx_sl, np, nq, l1, l2, s1, s2, true_and]
    have e1 : (P ++ ((U' ++ [z]) ++ (x :: (D ++ S)))).set (P ++ (U' ++ [z])).length z = P ++ ((U' ++ [z]) ++ (z :: (D ++ S))) := by
      have := set_mid (P ++ (U' ++ [z])) x z (D ++ S)
      simpa only [List.append_assoc, List.cons_append] using this
    have e2 : (P ++ ((U' ++ [z]) ++ (z :: (D ++ S)))).set (P ++ U').length x = P ++ (U' ++ (x :: ((z :: D) ++ S))) := by
      have := set_mid (P ++ U') z x (z :: (D ++ S))
      simpa only [List.append_assoc, List.cons_append, List.nil_append] using this
    rw [e1, e2] at hD2
    refine ih U' (z :: D) _ H2 (by omega) hD2 (by simp only [List.length_append, List.length_cons]; omega) ?_ ?_ ?_ fun T' H' hd => hk T' H' (by simpa using hd)
    · simp only [go_sem, ↓reduceIte, Nat.reduceEqDiff, t0]
    · simp only [go_sem, ↓reduceIte]; congr 1; omega
    · simp only [go_sem, ↓reduceIte, Nat.reduceEqDiff, t14]
end

/-! plain laws of the merge -/
section
variable {α : Type} {lt : α → α → Bool} (o : Swo lt)
theorem getA {P A R : List α} {t : Nat} (h : t < A.length) : (P ++ (A ++ R))[P.length + t]? = A[t]? := by
  rw [List.getElem?_append_right (by omega), Nat.add_sub_cancel_left, List.getElem?_append_left h]
theorem getB {P A B S : List α} {t : Nat} (h : t < B.length) : (P ++ (A ++ (B ++ S)))[P.length + A.length + t]? = B[t]? := by
  have := getA (P := P ++ A) (A := B) (R := S) h
  simpa only [List.append_assoc, List.length_append] using this
theorem srt_get (o : Swo lt) {l : List α} (h : Srt lt l) {s t : Nat} {x y : α} (hst : s ≤ t) (hx : l[s]? = some x) (hy : l[t]? = some y) : lt y x = false := by
  rcases Nat.lt_or_eq_of_le hst with hlt | rfl
  · obtain ⟨h1, rfl⟩ := List.getElem?_eq_some_iff.1 hx
    obtain ⟨h2, rfl⟩ := List.getElem?_eq_some_iff.1 hy
    exact List.pairwise_iff_getElem.1 h s t h1 h2 hlt
  · rw [hx] at hy; cases hy; exact o.irr _
theorem srt_take {l : List α} (h : Srt lt l) (k : Nat) : Srt lt (l.take k) := h.sublist (List.take_sublist _ _)
theorem srt_drop {l : List α} (h : Srt lt l) (k : Nat) : Srt lt (l.drop k) := h.sublist (List.drop_sublist _ _)
include o
/-- one element before many -/
theorem one_left {x : α} {B1 B2 : List α} (hB : Srt lt (B1 ++ B2)) (h1 : ∀ y, y ∈ B1 → lt y x = true) (h2 : ∀ y, y ∈ B2 → lt y x = false) : Stab lt ([x] ++ (B1 ++ B2)) (B1 ++ (x :: B2)) := by
  rw [srt_append] at hB
  refine ⟨srt_append.2 ⟨hB.1, List.pairwise_cons.2 ⟨fun y hy => h2 y hy, hB.2.1⟩, fun u hu w hw => ?_⟩, ?_⟩
  · rcases List.mem_cons.1 hw with rfl | hw
    · exact o.asym (h1 u hu)
    · exact hB.2.2 u hu w hw
  · have := (Fil.past o (X := [x]) (Y := B1) fun u hu y hy => by simp at hu; subst hu; exact h1 y hy).append (Fil.refl B2)
    simpa only [List.append_assoc, List.cons_append, List.nil_append] using this
theorem one_right {y : α} {A1 A2 : List α} (hA : Srt lt (A1 ++ A2)) (h1 : ∀ z, z ∈ A1 → lt y z = false) (h2 : ∀ z, z ∈ A2 → lt y z = true) : Stab lt ((A1 ++ A2) ++ [y]) (A1 ++ (y :: A2)) := by
  rw [srt_append] at hA
  refine ⟨srt_append.2 ⟨hA.1, List.pairwise_cons.2 ⟨fun z hz => o.asym (h2 z hz), hA.2.1⟩, fun u hu w hw => ?_⟩, ?_⟩
  · rcases List.mem_cons.1 hw with rfl | hw
    · exact h1 u hu
    · exact hA.2.2 u hu w hw
  · have := (Fil.refl A1).append (Fil.past o (X := A2) (Y := [y]) fun z hz u hu => by simp at hu; subst hu; exact h2 z hz)
    simpa only [List.append_assoc, List.cons_append, List.nil_append] using this
theorem two_halves {A1 X Y B2 M1 M2 : List α} (hA : Srt lt (A1 ++ X)) (hB : Srt lt (Y ++ B2)) (f1 : ∀ x, x ∈ X → ∀ y, y ∈ Y → lt y x = true) (f2 : ∀ u, u ∈ A1 → ∀ w, w ∈ B2 → lt w u = false)
    (h1 : Stab lt (A1 ++ Y) M1) (h2 : Stab lt (X ++ B2) M2) : Stab lt ((A1 ++ X) ++ (Y ++ B2)) (M1 ++ M2) := by
  rw [srt_append] at hA hB
  refine ⟨srt_append.2 ⟨h1.srt, h2.srt, fun u hu w hw => ?_⟩, ?_⟩
  · rcases List.mem_append.1 (h1.fil.mem.1 hu) with hu | hu <;> rcases List.mem_append.1 (h2.fil.mem.1 hw) with hw | hw
    · exact hA.2.2 u hu w hw
    · exact f2 u hu w hw
    · exact o.asym (f1 w hw u hu)
    · exact hB.2.2 u hu w hw
  · have p := ((Fil.refl A1).append ((Fil.past o (X := X) (Y := Y) f1).append (Fil.refl B2)))
    have q := h1.fil.append h2.fil
    have p' : Fil lt ((A1 ++ X) ++ (Y ++ B2)) ((A1 ++ Y) ++ (X ++ B2)) := by simpa only [List.append_assoc] using p
    exact p'.trans q
end
end Go.AM.T
/- The stable sort of the library: the symmetric merge, whole. -/
namespace Go.AM.T
open Go Go.AM
section
variable {α : Type} {es : Nat} {ag : Bool} {enc : α → List AV} {val : α → AV} (E : Elt es ag enc val) {H0 : AHeap} {i : Nat} {pre post : List AV} {fS fR fM fI : Nat} {n cap : Nat} {ex : Bool} (hn : n ≤ 1000000)
  {cf : Nat} {first ccap : List AV} {lt : α → α → Bool} {W : α → Prop} (hc : CmpV cf first ccap val lt W) (o : Swo lt) (hS : tbl fS = some ⟨tSwap es fS fR fM fI ag, []⟩) (hR : tbl fR = some ⟨tRot es fS fR fM fI ag, []⟩) (hM : tbl fM = some ⟨tSym es fS fR fM fI ag, []⟩)

def SymOk (es fM : Nat) (enc : α → List AV) (H0 : AHeap) (i : Nat) (pre post : List AV) (n cap : Nat) (ex : Bool) (cf : Nat) (first ccap : List AV) (lt : α → α → Bool) (W : α → Prop) (N : Nat) : Prop :=
  ∀ (P A B S : List α) (H : AHeap) (R : AV → AHeap → Prop) (a m b : Int), A.length + B.length ≤ N → A ≠ [] → B ≠ [] → Srt lt A → Srt lt B → (∀ z, z ∈ A ++ B → W z) → Dat enc H0 i pre post (P ++ (A ++ (B ++ S))) H → (P ++ (A ++ (B ++ S))).length = n →
    a = (P.length : Int) → m = ((P.length + A.length : Nat) : Int) → b = ((P.length + A.length + B.length : Nat) : Int) →
    (∀ M H', Stab lt (A ++ B) M → Dat enc H0 i pre post (P ++ (M ++ S)) H' → R (.tup []) H') → CallV tbl fM [.sl i pre.length n cap es ex, iv a, iv m, iv b, .fn cf first ccap] H R

theorem nil_or {l : List α} : (l = [] ∧ l.length = 0) ∨ (l ≠ [] ∧ 0 < l.length) := by cases l <;> simp

theorem sym_c {N : Nat} (rec : SymOk es fM enc H0 i pre post n cap ex cf first ccap lt W N) {Q : AExit → Fr → AHeap → Prop} {P M1 X B2 S : List α} {T : Fr} {H : AHeap} (hN : X.length + B2.length ≤ N) (sX : Srt lt X) (sB : Srt lt B2) (hW : ∀ z, z ∈ X ++ B2 → W z)
    (hD : Dat enc H0 i pre post (P ++ (M1 ++ (X ++ (B2 ++ S)))) H) (hl : (P ++ (M1 ++ (X ++ (B2 ++ S)))).length = n)
    (t0 : gN T 0 = .sl i pre.length n cap es ex) (t3 : gN T 3 = iv ((P.length + M1.length + X.length + B2.length : Nat) : Int)) (t4 : gN T 4 = .fn cf first ccap) (t18 : gN T 18 = iv ((P.length + M1.length : Nat) : Int)) (t24 : gN T 24 = iv ((P.length + M1.length + X.length : Nat) : Int))
    (h : ∀ M2 T' H', Stab lt (X ++ B2) M2 → Dat enc H0 i pre post (P ++ (M1 ++ (M2 ++ S))) H' → Q .normal T' H') : GoW tbl Q [.code (tSym_c es fS fR fM fI ag)] .normal T H := by
  have hl2 := hl
  simp only [List.length_append] at hl2
  rcases nil_or (l := X) with ⟨hX, lX⟩ | ⟨hX, lX⟩
  · simp (disch := omega) only [tSym_c, go_sem, ↓reduceIte, Nat.reduceEqDiff, Nat.reduceAdd, t0, t3, t4, t18, t24, dT, dF, Bool.false_eq_true, Bool.true_eq_false]
    subst hX
    exact h B2 _ H ⟨by simpa using sB, by simpa using Fil.refl B2⟩ (by simpa using hD)
  rcases nil_or (l := B2) with ⟨hB, lB⟩ | ⟨hB, lB⟩
  · simp (disch := omega) only [tSym_c, go_sem, ↓reduceIte, Nat.reduceEqDiff, Nat.reduceAdd, t0, t3, t4, t18, t24, dT, dF, Bool.false_eq_true, Bool.true_eq_false]
    subst hB
    exact h X _ H ⟨sX, by simpa using Fil.refl X⟩ (by simpa using hD)
  · simp (disch := omega) only [tSym_c, go_sem, ↓reduceIte, Nat.reduceEqDiff, Nat.reduceAdd, t0, t3, t4, t18, t24, dT, dF, Bool.false_eq_true, Bool.true_eq_false]
    refine GoS.call ?_
    simp only [go_sem, ↓reduceIte, Nat.reduceEqDiff, t0, t3, t4, t18, t24]
    refine rec (P ++ M1) X B2 S H _ _ _ _ hN hX hB sX sB hW (by simpa using hD) (by simpa using hl) (by simp) (by simp) (by simp) fun M H' q1 q2 => GoW.sound ?_
    simp only [go_sem]
    exact h M _ H' q1 (by simpa using q2)
theorem sym_b {N : Nat} (rec : SymOk es fM enc H0 i pre post n cap ex cf first ccap lt W N) {Q : AExit → Fr → AHeap → Prop} {P A1 Y X B2 S : List α} {T : Fr} {H : AHeap} (hN1 : A1.length + Y.length ≤ N) (hN : X.length + B2.length ≤ N) (sA : Srt lt A1) (sY : Srt lt Y) (sX : Srt lt X) (sB : Srt lt B2)
    (hW1 : ∀ z, z ∈ A1 ++ Y → W z) (hW : ∀ z, z ∈ X ++ B2 → W z)
    (hD : Dat enc H0 i pre post (P ++ (A1 ++ (Y ++ (X ++ (B2 ++ S))))) H) (hl : (P ++ (A1 ++ (Y ++ (X ++ (B2 ++ S))))).length = n)
    (t0 : gN T 0 = .sl i pre.length n cap es ex) (t1 : gN T 1 = iv P.length) (t3 : gN T 3 = iv ((P.length + A1.length + Y.length + X.length + B2.length : Nat) : Int)) (t4 : gN T 4 = .fn cf first ccap)
    (t18 : gN T 18 = iv ((P.length + A1.length + Y.length : Nat) : Int)) (t20 : gN T 20 = iv ((P.length + A1.length : Nat) : Int)) (t24 : gN T 24 = iv ((P.length + A1.length + Y.length + X.length : Nat) : Int))
    (h : ∀ M1 M2 T' H', Stab lt (A1 ++ Y) M1 → Stab lt (X ++ B2) M2 → Dat enc H0 i pre post (P ++ (M1 ++ (M2 ++ S))) H' → Q .normal T' H') : GoW tbl Q [.code (tSym_b es fS fR fM fI ag)] .normal T H := by
  have hl2 := hl
  simp only [List.length_append] at hl2
  have last : ∀ M1 T' H', Stab lt (A1 ++ Y) M1 → Dat enc H0 i pre post (P ++ (M1 ++ (X ++ (B2 ++ S)))) H' → gN T' 0 = gN T 0 → gN T' 3 = gN T 3 → gN T' 4 = gN T 4 → gN T' 18 = gN T 18 → gN T' 24 = gN T 24 → GoW tbl Q [.code (tSym_c es fS fR fM fI ag)] .normal T' H' := by
    intro M1 T' H' q1 q2 e0 e3 e4 e18 e24
    have hlen := q1.fil.len
    rw [List.length_append] at hlen
    refine sym_c rec (P := P) (M1 := M1) (S := S) hN sX sB hW q2 (by simp only [List.length_append]; omega) (e0.trans t0) (e3.trans (t3.trans ?_)) (e4.trans t4) (e18.trans (t18.trans ?_)) (e24.trans (t24.trans ?_)) fun M2 T' H' q3 q4 => h M1 M2 T' H' q1 q3 q4
    all_goals (congr 2; omega)
  rcases nil_or (l := A1) with ⟨hA, lA⟩ | ⟨hA, lA⟩
  · simp (disch := omega) only [tSym_b, go_sem, ↓reduceIte, Nat.reduceEqDiff, Nat.reduceAdd, t0, t1, t3, t4, t18, t20, t24, dT, dF, Bool.false_eq_true, Bool.true_eq_false]
    subst hA
    refine last Y _ H ⟨by simpa using sY, by simpa using Fil.refl Y⟩ (by simpa using hD) ?_ ?_ ?_ ?_ ?_
    all_goals simp only [go_sem, ↓reduceIte, Nat.reduceEqDiff]
  rcases nil_or (l := Y) with ⟨hY, lY⟩ | ⟨hY, lY⟩
  · simp (disch := omega) only [tSym_b, go_sem, ↓reduceIte, Nat.reduceEqDiff, Nat.reduceAdd, t0, t1, t3, t4, t18, t20, t24, dT, dF, Bool.false_eq_true, Bool.true_eq_false]
    subst hY
    refine last A1 _ H ⟨sA, by simpa using Fil.refl A1⟩ (by simpa using hD) ?_ ?_ ?_ ?_ ?_
    all_goals simp only [go_sem, ↓reduceIte, Nat.reduceEqDiff]
  · simp (disch := omega) only [tSym_b, go_sem, ↓reduceIte, Nat.reduceEqDiff, Nat.reduceAdd, t0, t1, t3, t4, t18, t20, t24, dT, dF, Bool.false_eq_true, Bool.true_eq_false]
    refine GoS.call ?_
    simp only [go_sem, ↓reduceIte, Nat.reduceEqDiff, t0, t1, t3, t4, t18, t20, t24]
    refine rec P A1 Y (X ++ (B2 ++ S)) H _ _ _ _ hN1 hA hY sA sY hW1 hD hl rfl rfl rfl fun M H' q1 q2 => GoW.sound ?_
    simp only [go_sem]
    refine last M _ H' q1 q2 ?_ ?_ ?_ ?_ ?_
    all_goals simp only [go_sem, ↓reduceIte, Nat.reduceEqDiff]
include E hn hS hR
theorem sym_a {N : Nat} (rec : SymOk es fM enc H0 i pre post n cap ex cf first ccap lt W N) {Q : AExit → Fr → AHeap → Prop} {P A1 Y X B2 S : List α} {T : Fr} {H : AHeap} (hN1 : A1.length + Y.length ≤ N) (hN : X.length + B2.length ≤ N) (sA : Srt lt A1) (sY : Srt lt Y) (sX : Srt lt X) (sB : Srt lt B2)
    (hW1 : ∀ z, z ∈ A1 ++ Y → W z) (hW : ∀ z, z ∈ X ++ B2 → W z)
    (hD : Dat enc H0 i pre post (P ++ (A1 ++ (X ++ (Y ++ (B2 ++ S))))) H) (hl : (P ++ (A1 ++ (X ++ (Y ++ (B2 ++ S))))).length = n)
    (t0 : gN T 0 = .sl i pre.length n cap es ex) (t1 : gN T 1 = iv P.length) (t2 : gN T 2 = iv ((P.length + A1.length + X.length : Nat) : Int)) (t3 : gN T 3 = iv ((P.length + A1.length + Y.length + X.length + B2.length : Nat) : Int)) (t4 : gN T 4 = .fn cf first ccap)
    (t18 : gN T 18 = iv ((P.length + A1.length + Y.length : Nat) : Int)) (t20 : gN T 20 = iv ((P.length + A1.length : Nat) : Int)) (t24 : gN T 24 = iv ((P.length + A1.length + Y.length + X.length : Nat) : Int))
    (h : ∀ M1 M2 T' H', Stab lt (A1 ++ Y) M1 → Stab lt (X ++ B2) M2 → Dat enc H0 i pre post (P ++ (M1 ++ (M2 ++ S))) H' → Q .normal T' H') : GoW tbl Q [.code (tSym_a es fS fR fM fI ag)] .normal T H := by
  have hl2 := hl
  simp only [List.length_append] at hl2
  have last : ∀ T' H', Dat enc H0 i pre post (P ++ (A1 ++ (Y ++ (X ++ (B2 ++ S))))) H' → gN T' 0 = gN T 0 → gN T' 1 = gN T 1 → gN T' 3 = gN T 3 → gN T' 4 = gN T 4 → gN T' 18 = gN T 18 → gN T' 20 = gN T 20 → gN T' 24 = gN T 24 → GoW tbl Q [.code (tSym_b es fS fR fM fI ag)] .normal T' H' := by
    intro T' H' q2 e0 e1 e3 e4 e18 e20 e24
    exact sym_b rec hN1 hN sA sY sX sB hW1 hW q2 (by simp only [List.length_append]; omega) (e0.trans t0) (e1.trans t1) (e3.trans t3) (e4.trans t4) (e18.trans t18) (e20.trans t20) (e24.trans t24) h
  rcases nil_or (l := X) with ⟨hX, lX⟩ | ⟨hX, lX⟩
  · simp (disch := omega) only [tSym_a, go_sem, ↓reduceIte, Nat.reduceEqDiff, Nat.reduceAdd, t0, t1, t2, t3, t4, t18, t20, t24, dT, dF, Bool.false_eq_true, Bool.true_eq_false]
    subst hX
    refine last _ H (by simpa using hD) ?_ ?_ ?_ ?_ ?_ ?_ ?_
    all_goals simp only [go_sem, ↓reduceIte, Nat.reduceEqDiff]
  rcases nil_or (l := Y) with ⟨hY, lY⟩ | ⟨hY, lY⟩
  · simp (disch := omega) only [tSym_a, go_sem, ↓reduceIte, Nat.reduceEqDiff, Nat.reduceAdd, t0, t1, t2, t3, t4, t18, t20, t24, dT, dF, Bool.false_eq_true, Bool.true_eq_false]
    subst hY
    refine last _ H (by simpa using hD) ?_ ?_ ?_ ?_ ?_ ?_ ?_
    all_goals simp only [go_sem, ↓reduceIte, Nat.reduceEqDiff]
  · simp (disch := omega) only [tSym_a, go_sem, ↓reduceIte, Nat.reduceEqDiff, Nat.reduceAdd, t0, t1, t2, t3, t4, t18, t20, t24, dT, dF, Bool.false_eq_true, Bool.true_eq_false]
    refine GoS.call ?_
    simp only [go_sem, ↓reduceIte, Nat.reduceEqDiff, t0, t1, t2, t3, t4, t18, t20, t24]
    refine rot_does E hS hn hR (P := P ++ A1) (U := X) (V := Y) (S := B2 ++ S) hX hY (by simpa using hD) (by simpa using hl) (by simp) (by simp) (by simp; omega) fun H' q2 => GoW.sound ?_
    simp only [go_sem]
    refine last _ H' (by simpa using q2) ?_ ?_ ?_ ?_ ?_ ?_ ?_
    all_goals simp only [go_sem, ↓reduceIte, Nat.reduceEqDiff]
include hc o hM
set_option maxHeartbeats 2000000 in
theorem sym_does : ∀ N, SymOk es fM enc H0 i pre post n cap ex cf first ccap lt W N := by
  intro N
  induction N with
  | zero =>
    intro P A B S H R a m b hN hA
    exact absurd (List.length_eq_zero_iff.1 (by omega)) hA
  | succ N rec =>
    intro P A B S H R a m b hN hA hB sA sB hW hD hl ha hm hb h
    subst ha; subst hm; subst hb
    have hl2 := hl
    simp only [List.length_append] at hl2
    have lA : 0 < A.length := List.length_pos_iff.2 hA
    have lB : 0 < B.length := List.length_pos_iff.2 hB
    refine T.callW hM ?_
    by_cases h1 : A.length = 1
    · obtain ⟨x, rfl⟩ := List.length_eq_one_iff.1 h1
      simp (disch := (first | omega | (unfold InR; omega))) only [tSym, go_sem, ↓reduceIte, Nat.reduceEqDiff, Nat.reduceAdd, dT, dF, Bool.false_eq_true, Bool.true_eq_false]
      have hx : (P ++ ([x] ++ (B ++ S)))[P.length]? = some x := by simp
      let q : Nat → Bool := fun t => match (P ++ ([x] ++ (B ++ S)))[t]? with | some y => lt y x | none => false
      have qB : ∀ t y, B[t]? = some y → q (P.length + 1 + t) = lt y x := fun t y hy => by
        have := getB (P := P) (A := [x]) (B := B) (S := S) (t := t) (List.getElem?_eq_some_iff.1 hy).1
        rw [hy] at this
        show (match (P ++ ([x] ++ (B ++ S)))[P.length + 1 + t]? with | some y => lt y x | none => false) = _
        rw [show P.length + 1 + t = P.length + [x].length + t by simp, this]
      refine bs0 E hn hc hD hl hx (hW x (by simp)) (lo0 := P.length + 1) (hi0 := P.length + 1 + B.length) (cap := cap) (ex := ex) (by simp only [List.length_cons, List.length_nil] at hl2; omega) (q := q) (fun t h2 h3 => ?_) (fun t s h2 h3 h4 h5 => ?_) B.length (P.length + 1) (P.length + 1 + B.length) _ (by omega) (Nat.le_refl _) (by omega) (Nat.le_refl _) (fun t h2 h3 => by omega) (fun t h2 h3 => by omega) ?_ ?_ ?_ ?_ ?_ fun e T' g1 g2 g3 g4 g5 g6 => ?_
      · obtain ⟨s, rfl⟩ : ∃ s, t = P.length + 1 + s := ⟨t - (P.length + 1), by omega⟩
        have hs : B[s]? = some B[s] := List.getElem?_eq_getElem (by omega)
        refine ⟨_, hW B[s] (by simp), ?_, qB s _ hs⟩
        have := getB (P := P) (A := [x]) (B := B) (S := S) (t := s) (by omega)
        rw [show P.length + 1 + s = P.length + [x].length + s by simp, this, hs]
      · obtain ⟨t', rfl⟩ : ∃ s, t = P.length + 1 + s := ⟨t - (P.length + 1), by omega⟩
        obtain ⟨s', rfl⟩ : ∃ r, s = P.length + 1 + r := ⟨s - (P.length + 1), by omega⟩
        have ht : B[t']? = some B[t'] := List.getElem?_eq_getElem (by omega)
        have hs : B[s']? = some B[s'] := List.getElem?_eq_getElem (by omega)
        rw [qB _ _ ht] at h5
        rw [qB _ _ hs]
        exact o.le_lt (srt_get o sB (by omega) hs ht) h5
      · simp only [go_sem, ↓reduceIte, Nat.reduceEqDiff]
      · simp only [go_sem, ↓reduceIte, Nat.reduceEqDiff]
      · simp only [go_sem, ↓reduceIte, Nat.reduceEqDiff]
      · simp only [go_sem, ↓reduceIte, Nat.reduceEqDiff, List.length_cons, List.length_nil]
      · simp only [go_sem, ↓reduceIte, Nat.reduceEqDiff, List.length_cons, List.length_nil]
      · obtain ⟨d, rfl⟩ : ∃ d, e = P.length + 1 + d := ⟨e - (P.length + 1), by omega⟩
        have f0 := g6 0 (by omega)
        have f1 := g6 1 (by omega)
        simp only [go_sem, ↓reduceIte, Nat.reduceEqDiff] at f0 f1
        have k1 : ∀ y, y ∈ B.take d → lt y x = true := fun y hy => by
          obtain ⟨t, ht⟩ := List.mem_iff_getElem?.1 hy
          rw [List.getElem?_take] at ht
          split at ht
          · rw [← qB t y ht]; exact g3 _ (by omega) (by omega)
          · cases ht
        have k2 : ∀ y, y ∈ B.drop d → lt y x = false := fun y hy => by
          obtain ⟨t, ht⟩ := List.mem_iff_getElem?.1 hy
          rw [List.getElem?_drop] at ht
          have := (List.getElem?_eq_some_iff.1 ht).1
          rw [← qB _ y ht]; exact g4 _ (by omega) (by omega)
        have hBB := List.take_append_drop d B
        have hlt : (B.take d).length = d := by rw [List.length_take]; omega
        generalize B.take d = B1 at k1 hBB hlt
        generalize B.drop d = B2 at k2 hBB
        subst hBB
        simp (disch := (first | omega | (unfold InR; omega))) only [go_sem, ↓reduceIte, Nat.reduceEqDiff, Nat.reduceAdd, f0, f1, g5]
        refine bub1 E hn (P := P) (S := B2 ++ S) (x := x) (cap := cap) (ex := ex) B1 [] _ H (by simpa using hD) (by simpa using hl) ?_ ?_ ?_ fun T'' H' hd => ?_
        · simp only [go_sem, ↓reduceIte, Nat.reduceEqDiff, f0]
        · simp only [go_sem, ↓reduceIte, List.length_nil, Nat.add_zero]
        · simp only [go_sem, ↓reduceIte, Nat.reduceEqDiff, g5, List.length_nil, Nat.add_zero, hlt]
        · simp only [go_sem, ↓reduceIte]
          exact .same (h _ H' (one_left o sB k1 k2) (by simpa using hd))
    by_cases h2 : B.length = 1
    · obtain ⟨y, rfl⟩ := List.length_eq_one_iff.1 h2
      simp (disch := (first | omega | (unfold InR; omega))) only [tSym, go_sem, ↓reduceIte, Nat.reduceEqDiff, Nat.reduceAdd, dT, dF, Bool.false_eq_true, Bool.true_eq_false]
      have hx : (P ++ (A ++ ([y] ++ S)))[P.length + A.length]? = some y := by simp
      let q : Nat → Bool := fun t => match (P ++ (A ++ ([y] ++ S)))[t]? with | some z => !lt y z | none => false
      have qA : ∀ t z, A[t]? = some z → q (P.length + t) = !lt y z := fun t z hz => by
        have := getA (P := P) (A := A) (R := [y] ++ S) (t := t) (List.getElem?_eq_some_iff.1 hz).1
        rw [hz] at this
        show (match (P ++ (A ++ ([y] ++ S)))[P.length + t]? with | some z => !lt y z | none => false) = _
        rw [this]
      refine bs2 E hn hc hD hl hx (hW y (by simp)) (lo0 := P.length) (hi0 := P.length + A.length) (cap := cap) (ex := ex) (by simp only [List.length_cons, List.length_nil] at hl2; omega) (q := q) (fun t h2 h3 => ?_) (fun t s h2 h3 h4 h5 => ?_) A.length P.length (P.length + A.length) _ (by omega) (Nat.le_refl _) (by omega) (Nat.le_refl _) (fun t h2 h3 => by omega) (fun t h2 h3 => by omega) ?_ ?_ ?_ ?_ ?_ fun e T' g1 g2 g3 g4 g5 g6 => ?_
      · obtain ⟨s, rfl⟩ : ∃ s, t = P.length + s := ⟨t - P.length, by omega⟩
        have hs : A[s]? = some A[s] := List.getElem?_eq_getElem (by omega)
        refine ⟨_, hW A[s] (by simp), ?_, qA s _ hs⟩
        rw [getA (P := P) (A := A) (R := [y] ++ S) (t := s) (by omega), hs]
      · obtain ⟨t', rfl⟩ : ∃ s, t = P.length + s := ⟨t - P.length, by omega⟩
        obtain ⟨s', rfl⟩ : ∃ r, s = P.length + r := ⟨s - P.length, by omega⟩
        have ht : A[t']? = some A[t'] := List.getElem?_eq_getElem (by omega)
        have hs : A[s']? = some A[s'] := List.getElem?_eq_getElem (by omega)
        rw [qA _ _ ht] at h5
        rw [qA _ _ hs]
        have h6 : lt y A[t'] = false := by simpa using h5
        simp [o.ntr h6 (srt_get o sA (by omega) hs ht)]
      · simp only [go_sem, ↓reduceIte, Nat.reduceEqDiff]
      · simp only [go_sem, ↓reduceIte, Nat.reduceEqDiff]
      · simp only [go_sem, ↓reduceIte, Nat.reduceEqDiff]
      · simp only [go_sem, ↓reduceIte, Nat.reduceEqDiff]
      · simp only [go_sem, ↓reduceIte, Nat.reduceEqDiff]
      · obtain ⟨d, rfl⟩ : ∃ d, e = P.length + d := ⟨e - P.length, by omega⟩
        have f0 := g6 0 (by omega)
        have f2 := g6 2 (by omega)
        simp only [go_sem, ↓reduceIte, Nat.reduceEqDiff] at f0 f2
        have k1 : ∀ z, z ∈ A.take d → lt y z = false := fun z hz => by
          obtain ⟨t, ht⟩ := List.mem_iff_getElem?.1 hz
          rw [List.getElem?_take] at ht
          split at ht
          · have := (qA t z ht).symm.trans (g3 _ (by omega) (by omega)); simpa using this
          · cases ht
        have k2 : ∀ z, z ∈ A.drop d → lt y z = true := fun z hz => by
          obtain ⟨t, ht⟩ := List.mem_iff_getElem?.1 hz
          rw [List.getElem?_drop] at ht
          have hlt := (List.getElem?_eq_some_iff.1 ht).1
          have := (qA _ z ht).symm.trans (g4 _ (by omega) (by omega)); simpa using this
        have hAA := List.take_append_drop d A
        have hlt : (A.take d).length = d := by rw [List.length_take]; omega
        generalize A.take d = A1 at k1 hAA hlt
        generalize A.drop d = A2 at k2 hAA
        subst hAA
        have hlA : (A1 ++ A2).length = A1.length + A2.length := List.length_append
        simp (disch := (first | omega | (unfold InR; omega))) only [go_sem, ↓reduceIte, Nat.reduceEqDiff, Nat.reduceAdd, f0, f2, g5]
        refine bub3 E hn (P := P ++ A1) (S := S) (x := y) (cap := cap) (ex := ex) A2.length A2 [] _ H rfl (by simpa using hD) (by simpa using hl) ?_ ?_ ?_ fun T'' H' hd => ?_
        · simp only [go_sem, ↓reduceIte, Nat.reduceEqDiff, f0]
        · simp only [go_sem, ↓reduceIte]; congr 2; rw [List.length_append, List.length_append]; omega
        · simp only [go_sem, ↓reduceIte, Nat.reduceEqDiff, g5]; congr 2; rw [List.length_append]; omega
        · simp only [go_sem, ↓reduceIte]
          exact .same (h _ H' (one_right o sA k1 k2) (by simpa using hd))
    · have hne : ∀ b : Bool, b = b := fun _ => rfl
      have hmidl : P.length < (P.length + (P.length + A.length + B.length)) / 2 := by omega
      have hmidr : (P.length + (P.length + A.length + B.length)) / 2 < P.length + A.length + B.length := by omega
      have hmid2 : 2 * ((P.length + (P.length + A.length + B.length)) / 2) ≤ P.length + (P.length + A.length + B.length) := by omega
      have hmid3 : P.length + (P.length + A.length + B.length) ≤ 2 * ((P.length + (P.length + A.length + B.length)) / 2) + 1 := by omega
      have c2 : bin .shr (.int .u64 ((P.length + (P.length + A.length + B.length) : Nat) : Int)) (.int .u64 1) = some (.int .u64 (((P.length + (P.length + A.length + B.length)) / 2 : Nat) : Int)) := half_shr _
      generalize (P.length + (P.length + A.length + B.length)) / 2 = mid at hmidl hmidr hmid2 hmid3 c2
      have c1 : bin .add (iv P.length) (iv ((P.length + A.length + B.length : Nat) : Int)) = some (iv ((P.length + (P.length + A.length + B.length) : Nat) : Int)) := by rw [bin_add (by unfold InR; omega)]; congr 2
      have c3 : opConvI .u64 (iv ((P.length + (P.length + A.length + B.length) : Nat) : Int)) = some (.int .u64 ((P.length + (P.length + A.length + B.length) : Nat) : Int)) := conv_u (by omega) (by omega)
      have c4 : opConvI .i64 (.int .u64 (mid : Int)) = some (iv mid) := convI_in (by unfold InR; omega)
      let L := P ++ (A ++ (B ++ S))
      let p := mid + (P.length + A.length) - 1
      let q : Nat → Bool := fun c => match L[p - c]?, L[c]? with | some y, some z => !lt y z | _, _ => false
      have qq : ∀ s t y z, A[s]? = some z → B[t]? = some y → p - (P.length + s) = P.length + A.length + t → q (P.length + s) = !lt y z := fun s t y z hz hy hp => by
        have e1 := getA (P := P) (A := A) (R := B ++ S) (t := s) (List.getElem?_eq_some_iff.1 hz).1
        have e2 := getB (P := P) (A := A) (B := B) (S := S) (t := t) (List.getElem?_eq_some_iff.1 hy).1
        rw [hz] at e1
        rw [hy] at e2
        show (match L[p - (P.length + s)]?, L[P.length + s]? with | some y, some z => !lt y z | _, _ => false) = _
        rw [hp, e1, e2]
      -- the search, from st on to r0
      have main : ∀ (st r0 : Nat) (T : Fr) (Q : AExit → Fr → AHeap → Prop), (∀ M' T' H', Stab lt (A ++ B) M' → Dat enc H0 i pre post (P ++ (M' ++ S)) H' → Q .normal T' H') →
          P.length ≤ st → st ≤ r0 → r0 ≤ P.length + A.length → r0 ≤ mid → mid + (P.length + A.length) ≤ st + (P.length + A.length + B.length) → (st = P.length ∨ mid + (P.length + A.length) = st + (P.length + A.length + B.length)) → (r0 = mid ∨ r0 = P.length + A.length) →
          gN T 0 = .sl i pre.length n cap es ex → gN T 1 = iv P.length → gN T 2 = iv ((P.length + A.length : Nat) : Int) → gN T 3 = iv ((P.length + A.length + B.length : Nat) : Int) → gN T 4 = .fn cf first ccap → gN T 18 = iv mid → gN T 19 = iv ((mid + (P.length + A.length) : Nat) : Int) →
          gN T 20 = iv st → gN T 21 = iv r0 → gN T 22 = iv p →
          GoS tbl [.code (.loop (ktSym_l4 es fS fR fM fI ag)), .blk 8, .code (tSym_h es fS fR fM fI ag)] .normal T H Q := by
        intro st r0 T Q hQ b1 b2 b3 b4 b5 b6 b7 t0 t1 t2 t3 t4 t18 t19 t20 t21 t22
        have hp : p = mid + (P.length + A.length) - 1 := rfl
        refine bs4 E hn hc hD hl (p := p) (lo0 := st) (hi0 := r0) (cap := cap) (ex := ex) (by omega) (q := q) (fun t h3 h4 => ?_) (fun t s h3 h4 h5 h6 => ?_) (r0 - st) st r0 T (by omega) (Nat.le_refl _) b2 (Nat.le_refl _) (fun t h2 h3 => by omega) (fun t h2 h3 => by omega) t0 t22 t4 t20 t21 fun e T' g1 g2 g3 g4 g5 g6 => ?_
        · obtain ⟨s, rfl⟩ : ∃ s, t = P.length + s := ⟨t - P.length, by omega⟩
          have hs : A[s]? = some A[s] := List.getElem?_eq_getElem (by omega)
          have ht : B[p - (P.length + s) - (P.length + A.length)]? = some B[p - (P.length + s) - (P.length + A.length)] := List.getElem?_eq_getElem (by omega)
          refine ⟨by omega, by omega, _, _, hW B[p - (P.length + s) - (P.length + A.length)] (by simp), hW A[s] (by simp), ?_, ?_, qq s _ _ _ hs ht (by omega)⟩
          · have := getB (P := P) (A := A) (B := B) (S := S) (t := p - (P.length + s) - (P.length + A.length)) (by omega)
            exact (congrArg (fun t => L[t]?) (show p - (P.length + s) = P.length + A.length + (p - (P.length + s) - (P.length + A.length)) by omega)).trans (this.trans ht)
          · rw [getA (P := P) (A := A) (R := B ++ S) (t := s) (by omega), hs]
        · obtain ⟨t', rfl⟩ : ∃ s, t = P.length + s := ⟨t - P.length, by omega⟩
          obtain ⟨s', rfl⟩ : ∃ r, s = P.length + r := ⟨s - P.length, by omega⟩
          have a1 : A[t']? = some A[t'] := List.getElem?_eq_getElem (by omega)
          have a2 : A[s']? = some A[s'] := List.getElem?_eq_getElem (by omega)
          have a3 : B[p - (P.length + t') - (P.length + A.length)]? = some B[p - (P.length + t') - (P.length + A.length)] := List.getElem?_eq_getElem (by omega)
          have a4 : B[p - (P.length + s') - (P.length + A.length)]? = some B[p - (P.length + s') - (P.length + A.length)] := List.getElem?_eq_getElem (by omega)
          rw [qq _ _ _ _ a1 a3 (by omega)] at h6
          rw [qq _ _ _ _ a2 a4 (by omega)]
          have h7 : lt B[p - (P.length + t') - (P.length + A.length)] A[t'] = false := by simpa using h6
          simp [o.ntr (o.ntr (srt_get o sB (by omega) a3 a4) h7) (srt_get o sA (by omega) a2 a1)]
        · obtain ⟨d, rfl⟩ : ∃ d, e = P.length + d := ⟨e - P.length, by omega⟩
          have f0 := g6 0 (by omega)
          have f1 := g6 1 (by omega)
          have f2 := g6 2 (by omega)
          have f3 := g6 3 (by omega)
          have f4 := g6 4 (by omega)
          have f18 := g6 18 (by omega)
          have f19 := g6 19 (by omega)
          rw [t0] at f0; rw [t1] at f1; rw [t2] at f2; rw [t3] at f3; rw [t4] at f4; rw [t18] at f18; rw [t19] at f19
          have F1 : ∀ x, x ∈ A.drop d → ∀ y, y ∈ B.take (mid - (P.length + d)) → lt y x = true := by
            intro x hx y hy
            obtain ⟨u, hu⟩ := List.mem_iff_getElem?.1 hx
            rw [List.getElem?_drop] at hu
            obtain ⟨w, hw⟩ := List.mem_iff_getElem?.1 hy
            rw [List.getElem?_take] at hw
            split at hw <;> first | (cases hw; done) | skip
            have hu1 := (List.getElem?_eq_some_iff.1 hu).1
            have a1 : A[d]? = some A[d] := List.getElem?_eq_getElem (by omega)
            have a2 : B[mid - 1 - (P.length + d)]? = some B[mid - 1 - (P.length + d)] := List.getElem?_eq_getElem (by omega)
            have hq := g4 (P.length + d) (Nat.le_refl _) (by omega)
            rw [qq _ _ _ _ a1 a2 (by omega)] at hq
            have h7 : lt B[mid - 1 - (P.length + d)] A[d] = true := by simpa using hq
            exact o.lt_le (o.le_lt (srt_get o sB (by omega) hw a2) h7) (srt_get o sA (by omega) a1 hu)
          have F2 : ∀ u, u ∈ A.take d → ∀ w, w ∈ B.drop (mid - (P.length + d)) → lt w u = false := by
            intro x hx y hy
            obtain ⟨u, hu⟩ := List.mem_iff_getElem?.1 hx
            rw [List.getElem?_take] at hu
            split at hu <;> first | (cases hu; done) | skip
            obtain ⟨w, hw⟩ := List.mem_iff_getElem?.1 hy
            rw [List.getElem?_drop] at hw
            have hw1 := (List.getElem?_eq_some_iff.1 hw).1
            have a1 : A[d - 1]? = some A[d - 1] := List.getElem?_eq_getElem (by omega)
            have a2 : B[mid - (P.length + d)]? = some B[mid - (P.length + d)] := List.getElem?_eq_getElem (by omega)
            have hq := g3 (P.length + (d - 1)) (by omega) (by omega)
            rw [qq _ _ _ _ a1 a2 (by omega)] at hq
            have h7 : lt B[mid - (P.length + d)] A[d - 1] = false := by simpa using hq
            exact o.ntr (o.ntr (srt_get o sB (by omega) a2 hw) h7) (srt_get o sA (by omega) hu a1)
          have lA1 : (A.take d).length = d := by rw [List.length_take]; omega
          have lX : (A.drop d).length = A.length - d := List.length_drop
          have lY : (B.take (mid - (P.length + d))).length = mid - (P.length + d) := by rw [List.length_take]; omega
          have lB2 : (B.drop (mid - (P.length + d))).length = B.length - (mid - (P.length + d)) := List.length_drop
          have eA := List.take_append_drop d A
          have eB := List.take_append_drop (mid - (P.length + d)) B
          generalize A.take d = A1 at F2 lA1 eA
          generalize A.drop d = X at F1 lX eA
          generalize B.take (mid - (P.length + d)) = Y at F1 lY eB
          generalize B.drop (mid - (P.length + d)) = B2 at F2 lB2 eB
          have sA' := sA
          have sB' := sB
          rw [← eA] at sA'
          rw [← eB] at sB'
          have hD' := hD
          have hl' := hl
          rw [← eA, ← eB] at hD' hl'
          simp only [List.append_assoc] at hD' hl'
          simp (disch := (first | omega | (unfold InR; omega))) only [tSym_h, go_sem, ↓reduceIte, Nat.reduceEqDiff, Nat.reduceAdd, f0, f1, f2, f3, f4, f18, f19, g5]
          refine sym_a E hn hS hR rec (P := P) (A1 := A1) (Y := Y) (X := X) (B2 := B2) (S := S) (by omega) (by omega) (srt_append.1 sA').1 (srt_append.1 sB').1 (srt_append.1 sA').2.1 (srt_append.1 sB').2.1 (fun z hz => hW z ?_) (fun z hz => hW z ?_) hD' hl' ?_ ?_ ?_ ?_ ?_ ?_ ?_ ?_ fun M1 M2 T'' H' q1 q2 q3 => hQ (M1 ++ M2) T'' H' ?_ (by simpa using q3)
          · rw [← eA, ← eB]; simp only [List.mem_append] at hz ⊢; rcases hz with hz | hz
            · exact .inl (.inl hz)
            · exact .inr (.inl hz)
          · rw [← eA, ← eB]; simp only [List.mem_append] at hz ⊢; rcases hz with hz | hz
            · exact .inl (.inr hz)
            · exact .inr (.inr hz)
          · simp only [go_sem, ↓reduceIte, Nat.reduceEqDiff, f0]
          · simp only [go_sem, ↓reduceIte, Nat.reduceEqDiff, f1]
          · simp only [go_sem, ↓reduceIte, Nat.reduceEqDiff, f2]; congr 2; omega
          · simp only [go_sem, ↓reduceIte, Nat.reduceEqDiff, f3]; congr 2; omega
          · simp only [go_sem, ↓reduceIte, Nat.reduceEqDiff, f4]
          · simp only [go_sem, ↓reduceIte, Nat.reduceEqDiff, f18]; congr 2; omega
          · simp only [go_sem, ↓reduceIte, Nat.reduceEqDiff, g5]; congr 2; omega
          · simp only [go_sem, ↓reduceIte, Nat.reduceEqDiff]; congr 1; omega
          · rw [← eA, ← eB]; exact two_halves o sA' sB' F1 F2 q1 q2
      rcases Nat.lt_or_ge mid (P.length + A.length) with hgt | hle
      · simp (disch := (first | omega | (unfold InR; omega))) only [tSym, tSym_g, go_sem, ↓reduceIte, Nat.reduceEqDiff, Nat.reduceAdd, dT, dF, Bool.false_eq_true, Bool.true_eq_false, c1, c2, c3, c4]
        refine main (mid + (P.length + A.length) - (P.length + A.length + B.length)) mid _ _ (fun M' T' H' q1 q2 => ?_) (by omega) (by omega) (by omega) (by omega) (by omega) (.inr (by omega)) (.inl rfl) ?_ ?_ ?_ ?_ ?_ ?_ ?_ ?_ ?_ ?_
        · simp only [go_sem]; exact .same (h M' H' q1 q2)
        · simp only [go_sem, ↓reduceIte, Nat.reduceEqDiff]
        · simp only [go_sem, ↓reduceIte, Nat.reduceEqDiff]
        · simp only [go_sem, ↓reduceIte, Nat.reduceEqDiff]
        · simp only [go_sem, ↓reduceIte, Nat.reduceEqDiff]
        · simp only [go_sem, ↓reduceIte, Nat.reduceEqDiff]
        · simp only [go_sem, ↓reduceIte, Nat.reduceEqDiff]
        · simp only [go_sem, ↓reduceIte, Nat.reduceEqDiff]; congr 1
        · simp only [go_sem, ↓reduceIte, Nat.reduceEqDiff]; congr 1; omega
        · simp only [go_sem, ↓reduceIte, Nat.reduceEqDiff]
        · simp only [go_sem, ↓reduceIte, Nat.reduceEqDiff]; congr 1; omega
      · simp (disch := (first | omega | (unfold InR; omega))) only [tSym, tSym_g, go_sem, ↓reduceIte, Nat.reduceEqDiff, Nat.reduceAdd, dT, dF, Bool.false_eq_true, Bool.true_eq_false, c1, c2, c3, c4]
        refine main P.length (P.length + A.length) _ _ (fun M' T' H' q1 q2 => ?_) (by omega) (by omega) (by omega) (by omega) (by omega) (.inl rfl) (.inr rfl) ?_ ?_ ?_ ?_ ?_ ?_ ?_ ?_ ?_ ?_
        · simp only [go_sem]; exact .same (h M' H' q1 q2)
        · simp only [go_sem, ↓reduceIte, Nat.reduceEqDiff]
        · simp only [go_sem, ↓reduceIte, Nat.reduceEqDiff]
        · simp only [go_sem, ↓reduceIte, Nat.reduceEqDiff]
        · simp only [go_sem, ↓reduceIte, Nat.reduceEqDiff]
        · simp only [go_sem, ↓reduceIte, Nat.reduceEqDiff]
        · simp only [go_sem, ↓reduceIte, Nat.reduceEqDiff]
        · simp only [go_sem, ↓reduceIte, Nat.reduceEqDiff]; congr 1
        · simp only [go_sem, ↓reduceIte, Nat.reduceEqDiff]
        · simp only [go_sem, ↓reduceIte, Nat.reduceEqDiff]
        · simp only [go_sem, ↓reduceIte, Nat.reduceEqDiff]; congr 1; omega
end
end Go.AM.T
/- The stable sort of the library, whole. -/
namespace Go.AM.T
open Go Go.AM
section
variable {α : Type} {es : Nat} {ag : Bool} {enc : α → List AV} {val : α → AV} (E : Elt es ag enc val) {H0 : AHeap} {i : Nat} {pre post : List AV} {fS fR fM fI : Nat} {n cap : Nat} {ex : Bool} (hn : n ≤ 1000000)
  {cf : Nat} {first ccap : List AV} {lt : α → α → Bool} {W : α → Prop} (hc : CmpV cf first ccap val lt W) (so : Swo lt) (hS : tbl fS = some ⟨tSwap es fS fR fM fI ag, []⟩) (hR : tbl fR = some ⟨tRot es fS fR fM fI ag, []⟩) (hM : tbl fM = some ⟨tSym es fS fR fM fI ag, []⟩)
  (hI : tbl fI = some ⟨tIns es fS fR fM fI ag, []⟩) {L : List α} (hL : L.length = n) (hW : ∀ z, z ∈ L → W z)
include E hn hc so hI hL hW
theorem stab0 {k : List KI} {Q : AExit → Fr → AHeap → Prop} : ∀ (d : Nat) (D R : List α) (T : Fr) (H : AHeap), R.length ≤ d → Full lt 20 D → Fil lt L (D ++ R) → Dat enc H0 i pre post (D ++ R) H →
    gN T 0 = .sl i pre.length n cap es ex → gN T 1 = iv n → gN T 2 = .fn cf first ccap → gN T 6 = iv 20 → gN T 7 = iv D.length → gN T 8 = iv ((D.length + 20 : Nat) : Int) →
    (∀ D' R' T' H', R'.length < 20 → Full lt 20 D' → Fil lt L (D' ++ R') → Dat enc H0 i pre post (D' ++ R') H' → gN T' 0 = .sl i pre.length n cap es ex → gN T' 1 = iv n → gN T' 2 = .fn cf first ccap → gN T' 6 = iv 20 → gN T' 7 = iv D'.length → GoW tbl Q k (.exit 0) T' H') →
    GoS tbl (.code (.loop (ktStab_l0 es fS fR fM fI ag)) :: k) .normal T H Q := by
  intro d
  induction d with
  | zero =>
    intro D R T H hd hF hf hD t0 t1 t2 t6 t7 t8 hk
    have hlen := hf.len
    rw [List.length_append] at hlen
    refine GoS.loopD (a' := tStab_l0 es fS fR fM fI ag) rfl (GoW.sound ?_)
    simp (disch := omega) only [tStab_l0, go_sem, ↓reduceIte, Nat.reduceEqDiff, Nat.reduceAdd, t0, t1, t2, t6, t7, t8, dT, dF, Bool.false_eq_true]
    refine hk D R _ H (by omega) hF hf hD ?_ ?_ ?_ ?_ ?_
    all_goals simp only [go_sem, ↓reduceIte, Nat.reduceEqDiff, t0, t1, t2, t6, t7]
  | succ d ih =>
    intro D R T H hd hF hf hD t0 t1 t2 t6 t7 t8 hk
    have hlen := hf.len
    rw [List.length_append] at hlen
    refine GoS.loopD (a' := tStab_l0 es fS fR fM fI ag) rfl (GoW.sound ?_)
    by_cases h20 : 20 ≤ R.length
    · simp (disch := omega) only [tStab_l0, go_sem, ↓reduceIte, Nat.reduceEqDiff, Nat.reduceAdd, t0, t1, t2, t6, t7, t8, dT, dF]
      refine GoS.call ?_
      simp only [go_sem, ↓reduceIte, Nat.reduceEqDiff, t0, t1, t2, t6, t7, t8]
      have l1 : (R.take 20).length = 20 := by rw [List.length_take]; omega
      have l2 : (R.drop 20).length = R.length - 20 := List.length_drop
      have e := List.take_append_drop 20 R
      generalize R.take 20 = X at l1 e
      generalize R.drop 20 = R2 at l2 e
      subst e
      refine ins_does E hn hc so hI (P := D) (X := X) (S := R2) (fun z hz => hW z ?_) hD (by rw [List.length_append]; omega) rfl (by rw [l1]) fun M H' q1 q2 => GoW.sound ?_
      · exact hf.mem.1 (by simp [hz])
      · have hM := q1.fil.len
        simp (disch := (first | omega | (unfold InR; omega))) only [go_sem, ↓reduceIte, Nat.reduceEqDiff, Nat.reduceAdd, t0, t1, t2, t6, t7, t8]
        refine ih (D ++ M) R2 _ H' (by omega) (hF.snoc (by omega) q1.srt) ?_ (by simpa using q2) ?_ ?_ ?_ ?_ ?_ ?_ hk
        · have := hf.trans ((Fil.refl D).append (q1.fil.append (Fil.refl R2)))
          simpa using this
        · simp only [go_sem, ↓reduceIte, Nat.reduceEqDiff, t0]
        · simp only [go_sem, ↓reduceIte, Nat.reduceEqDiff, t1]
        · simp only [go_sem, ↓reduceIte, Nat.reduceEqDiff, t2]
        · simp only [go_sem, ↓reduceIte, Nat.reduceEqDiff, t6]
        · simp only [go_sem, ↓reduceIte, Nat.reduceEqDiff, t8]; congr 2; rw [List.length_append]; omega
        · simp only [go_sem, ↓reduceIte]; congr 1; rw [List.length_append]; omega
    · simp (disch := omega) only [tStab_l0, go_sem, ↓reduceIte, Nat.reduceEqDiff, Nat.reduceAdd, t0, t1, t2, t6, t7, t8, dT, dF, Bool.false_eq_true]
      refine hk D R _ H (by omega) hF hf hD ?_ ?_ ?_ ?_ ?_
      all_goals simp only [go_sem, ↓reduceIte, Nat.reduceEqDiff, t0, t1, t2, t6, t7]
include hS hR hM
theorem stab2 {k : List KI} {Q : AExit → Fr → AHeap → Prop} {bs : Nat} (hb0 : 0 < bs) (hb1 : bs < n) : ∀ (d : Nat) (D R : List α) (T : Fr) (H : AHeap), R.length ≤ d → Full lt (2 * bs) D → Chk lt bs R → Fil lt L (D ++ R) → Dat enc H0 i pre post (D ++ R) H →
    gN T 0 = .sl i pre.length n cap es ex → gN T 1 = iv n → gN T 2 = .fn cf first ccap → gN T 6 = iv bs → gN T 7 = iv D.length → gN T 8 = iv ((D.length + 2 * bs : Nat) : Int) →
    (∀ D' R' T' H', R'.length < 2 * bs → Full lt (2 * bs) D' → Chk lt bs R' → Fil lt L (D' ++ R') → Dat enc H0 i pre post (D' ++ R') H' → gN T' 0 = .sl i pre.length n cap es ex → gN T' 1 = iv n → gN T' 2 = .fn cf first ccap → gN T' 6 = iv bs → gN T' 7 = iv D'.length → GoW tbl Q k (.exit 4) T' H') →
    GoS tbl (.code (.loop (ktStab_l2 es fS fR fM fI ag)) :: k) .normal T H Q := by
  have _ := hI
  intro d
  induction d with
  | zero =>
    intro D R T H hd hF hCk hf hD t0 t1 t2 t6 t7 t8 hk
    have hlen := hf.len
    rw [List.length_append] at hlen
    refine GoS.loopD (a' := tStab_l2 es fS fR fM fI ag) rfl (GoW.sound ?_)
    simp (disch := omega) only [tStab_l2, go_sem, ↓reduceIte, Nat.reduceEqDiff, Nat.reduceAdd, t0, t1, t2, t6, t7, t8, dT, dF, Bool.false_eq_true]
    refine hk D R _ H (by omega) hF hCk hf hD ?_ ?_ ?_ ?_ ?_
    all_goals simp only [go_sem, ↓reduceIte, Nat.reduceEqDiff, t0, t1, t2, t6, t7]
  | succ d ih =>
    intro D R T H hd hF hCk hf hD t0 t1 t2 t6 t7 t8 hk
    have hlen := hf.len
    rw [List.length_append] at hlen
    refine GoS.loopD (a' := tStab_l2 es fS fR fM fI ag) rfl (GoW.sound ?_)
    by_cases h20 : 2 * bs ≤ R.length
    · simp (disch := (first | omega | (unfold InR; omega))) only [tStab_l2, go_sem, ↓reduceIte, Nat.reduceEqDiff, Nat.reduceAdd, t0, t1, t2, t6, t7, t8, dT, dF]
      refine GoS.call ?_
      simp only [go_sem, ↓reduceIte, Nat.reduceEqDiff, t0, t1, t2, t6, t7, t8]
      obtain ⟨A, R1, rfl, l1, sA, c1⟩ := hCk.split (by omega)
      rw [List.length_append] at h20 hlen hd
      obtain ⟨B, R2, rfl, l2, sB, c2⟩ : ∃ B R2, R1 = B ++ R2 ∧ B.length = bs ∧ Srt lt B ∧ Chk lt bs R2 := by
        rcases Nat.lt_or_ge bs R1.length with h | h
        · exact c1.split h
        · exact ⟨R1, [], by simp, by omega, c1.short h hb0, .last _ (Nat.zero_le _) List.Pairwise.nil⟩
      rw [List.length_append] at h20 hlen hd
      refine sym_does E hn hc so hS hR hM (2 * bs) D A B R2 H _ _ _ _ (by omega) (fun e => by rw [e] at l1; simp at l1; omega) (fun e => by rw [e] at l2; simp at l2; omega) sA sB (fun z hz => hW z (hf.mem.1 ?_)) hD (by simp only [List.length_append]; omega) rfl (by omega) (by omega) fun M H' q1 q2 => GoW.sound ?_
      · simp only [List.mem_append] at hz ⊢; rcases hz with h | h
        · exact .inr (.inl h)
        · exact .inr (.inr (.inl h))
      · have hM := q1.fil.len
        rw [List.length_append] at hM
        simp (disch := (first | omega | (unfold InR; omega))) only [go_sem, ↓reduceIte, Nat.reduceEqDiff, Nat.reduceAdd, t0, t1, t2, t6, t7, t8]
        refine ih (D ++ M) R2 _ H' (by omega) (hF.snoc (by omega) q1.srt) c2 ?_ (by simpa using q2) ?_ ?_ ?_ ?_ ?_ ?_ hk
        · have := hf.trans ((Fil.refl D).append (a := D) (by rw [← List.append_assoc]; exact q1.fil.append (Fil.refl R2)))
          simpa using this
        · simp only [go_sem, ↓reduceIte, Nat.reduceEqDiff, t0]
        · simp only [go_sem, ↓reduceIte, Nat.reduceEqDiff, t1]
        · simp only [go_sem, ↓reduceIte, Nat.reduceEqDiff, t2]
        · simp only [go_sem, ↓reduceIte, Nat.reduceEqDiff, t6]
        · simp only [go_sem, ↓reduceIte, Nat.reduceEqDiff, t8]; congr 2; rw [List.length_append]; omega
        · simp only [go_sem, ↓reduceIte]; congr 1; rw [List.length_append]; omega
    · simp (disch := omega) only [tStab_l2, go_sem, ↓reduceIte, Nat.reduceEqDiff, Nat.reduceAdd, t0, t1, t2, t6, t7, t8, dT, dF, Bool.false_eq_true]
      refine hk D R _ H (by omega) hF hCk hf hD ?_ ?_ ?_ ?_ ?_
      all_goals simp only [go_sem, ↓reduceIte, Nat.reduceEqDiff, t0, t1, t2, t6, t7]
theorem stab1 {k : List KI} {Q : AExit → Fr → AHeap → Prop} : ∀ (d bs : Nat) (l : List α) (T : Fr) (H : AHeap), n - bs ≤ d → 0 < bs → Chk lt bs l → Fil lt L l → Dat enc H0 i pre post l H →
    gN T 0 = .sl i pre.length n cap es ex → gN T 1 = iv n → gN T 2 = .fn cf first ccap → gN T 6 = iv bs →
    (∀ l' T' H', Stab lt L l' → Dat enc H0 i pre post l' H' → GoW tbl Q k (.exit 2) T' H') →
    GoS tbl (.code (.loop (ktStab_l1 es fS fR fM fI ag)) :: k) .normal T H Q := by
  intro d
  induction d with
  | zero =>
    intro bs l T H hd hb hCk hf hD t0 t1 t2 t6 hk
    have hlen := hf.len
    refine GoS.loopD (a' := tStab_l1 es fS fR fM fI ag) rfl (GoW.sound ?_)
    simp (disch := omega) only [tStab_l1, go_sem, ↓reduceIte, Nat.reduceEqDiff, Nat.reduceAdd, t0, t1, t2, t6, dT, dF, Bool.false_eq_true]
    exact hk l _ H ⟨hCk.short (by omega) hb, hf⟩ hD
  | succ d ih =>
    intro bs l T H hd hb hCk hf hD t0 t1 t2 t6 hk
    have hlen := hf.len
    by_cases hlt : bs < n
    · refine GoS.loopD (a' := tStab_l1 es fS fR fM fI ag) rfl (GoW.sound ?_)
      simp (disch := (first | omega | (unfold InR; omega))) only [tStab_l1, go_sem, ↓reduceIte, Nat.reduceEqDiff, Nat.reduceAdd, t0, t1, t2, t6, dT, dF]
      refine stab2 E hn hc so hS hR hM hI hL hW (cap := cap) (ex := ex) hb hlt l.length [] l _ H (Nat.le_refl _) .nil hCk (by simpa using hf) (by simpa using hD) ?_ ?_ ?_ ?_ ?_ ?_ ?_
      · simp only [go_sem, ↓reduceIte, Nat.reduceEqDiff, t0]
      · simp only [go_sem, ↓reduceIte, Nat.reduceEqDiff, t1]
      · simp only [go_sem, ↓reduceIte, Nat.reduceEqDiff, t2]
      · simp only [go_sem, ↓reduceIte, Nat.reduceEqDiff, t6]
      · simp only [go_sem, ↓reduceIte, Nat.reduceEqDiff, List.length_nil]; rfl
      · simp only [go_sem, ↓reduceIte, Nat.reduceEqDiff, List.length_nil]; congr 1
      · intro D R T' H' q1 q2 q3 q4 q5 f0 f1 f2 f6 f7
        have hl2 := q4.len
        rw [List.length_append] at hl2
        by_cases hm : D.length + bs < n
        · simp (disch := (first | omega | (unfold InR; omega))) only [go_sem, ↓reduceIte, Nat.reduceEqDiff, Nat.reduceAdd, f0, f1, f2, f6, f7, dT, dF]
          refine GoS.call ?_
          simp only [go_sem, ↓reduceIte, Nat.reduceEqDiff, f0, f1, f2, f6, f7]
          obtain ⟨A, B, rfl, l1, sA, c1⟩ := q3.split (by omega)
          rw [List.length_append] at hl2 q1
          refine sym_does E hn hc so hS hR hM (2 * bs) D A B [] H' _ _ _ _ (by omega) (fun e => by rw [e] at l1; simp at l1; omega) (fun e => by rw [e] at hl2; simp at hl2; omega) sA (c1.short (by omega) hb) (fun z hz => hW z (q4.mem.1 ?_)) (by simpa using q5) (by simp only [List.length_append, List.length_nil]; omega) rfl (by omega) (by omega) fun M H'' p1 p2 => GoW.sound ?_
          · simp only [List.mem_append] at hz ⊢; exact .inr hz
          · have hM := p1.fil.len
            rw [List.length_append] at hM
            simp (disch := (first | omega | (unfold InR; omega))) only [go_sem, ↓reduceIte, Nat.reduceEqDiff, Nat.reduceAdd, f0, f1, f2, f6, f7]
            refine ih (2 * bs) (D ++ M) _ H'' (by omega) (by omega) (q2.chk (.last _ (by omega) p1.srt)) (q4.trans ((Fil.refl D).append p1.fil)) (by simpa using p2) ?_ ?_ ?_ ?_ hk
            · simp only [go_sem, ↓reduceIte, Nat.reduceEqDiff, f0]
            · simp only [go_sem, ↓reduceIte, Nat.reduceEqDiff, f1]
            · simp only [go_sem, ↓reduceIte, Nat.reduceEqDiff, f2]
            · simp only [go_sem, ↓reduceIte]; congr 1; omega
        · simp (disch := (first | omega | (unfold InR; omega))) only [go_sem, ↓reduceIte, Nat.reduceEqDiff, Nat.reduceAdd, f0, f1, f2, f6, f7, dT, dF, Bool.false_eq_true]
          refine ih (2 * bs) (D ++ R) _ H' (by omega) (by omega) (q2.chk (.last _ (by omega) (q3.short (by omega) hb))) q4 q5 ?_ ?_ ?_ ?_ hk
          · simp only [go_sem, ↓reduceIte, Nat.reduceEqDiff, f0]
          · simp only [go_sem, ↓reduceIte, Nat.reduceEqDiff, f1]
          · simp only [go_sem, ↓reduceIte, Nat.reduceEqDiff, f2]
          · simp only [go_sem, ↓reduceIte]; congr 1; omega
    · refine GoS.loopD (a' := tStab_l1 es fS fR fM fI ag) rfl (GoW.sound ?_)
      simp (disch := omega) only [tStab_l1, go_sem, ↓reduceIte, Nat.reduceEqDiff, Nat.reduceAdd, t0, t1, t2, t6, dT, dF, Bool.false_eq_true]
      exact hk l _ H ⟨hCk.short (by omega) hb, hf⟩ hD
theorem stable_does {fT : Nat} (hT : tbl fT = some ⟨tStab es fS fR fM fI ag, []⟩) {H : AHeap} {R : AV → AHeap → Prop} (hD : Dat enc H0 i pre post L H) (h : ∀ l' H', Stab lt L l' → Dat enc H0 i pre post l' H' → R (.tup []) H') :
    CallV tbl fT [.sl i pre.length n cap es ex, iv n, .fn cf first ccap] H R := by
  refine T.callW hT ?_
  simp (disch := (first | omega | (unfold InR; omega))) only [tStab, go_sem, ↓reduceIte, Nat.reduceEqDiff, Nat.reduceAdd]
  refine stab0 E hn hc so hI hL hW (cap := cap) (ex := ex) L.length [] L _ H (Nat.le_refl _) .nil (Fil.refl _) (by simpa using hD) ?_ ?_ ?_ ?_ ?_ ?_ fun D R2 T' H' q1 q2 q3 q4 f0 f1 f2 f6 f7 => ?_
  · simp only [go_sem, ↓reduceIte, Nat.reduceEqDiff]
  · simp only [go_sem, ↓reduceIte, Nat.reduceEqDiff]
  · simp only [go_sem, ↓reduceIte, Nat.reduceEqDiff]
  · simp only [go_sem, ↓reduceIte, Nat.reduceEqDiff]
  · simp only [go_sem, ↓reduceIte, Nat.reduceEqDiff, List.length_nil]; rfl
  · simp only [go_sem, ↓reduceIte, Nat.reduceEqDiff, List.length_nil]; rfl
  · have hl2 := q3.len
    rw [List.length_append] at hl2
    simp only [go_sem, ↓reduceIte, Nat.reduceEqDiff, f0, f1, f2, f6, f7]
    refine GoS.call ?_
    simp only [go_sem, ↓reduceIte, Nat.reduceEqDiff, f0, f1, f2, f6, f7]
    refine ins_does E hn hc so hI (P := D) (X := R2) (S := []) (fun z hz => hW z (q3.mem.1 (by simp [hz]))) (by simpa using q4) (by simp only [List.length_append, List.length_nil]; omega) rfl (by omega) fun M H'' p1 p2 => GoW.sound ?_
    have hMl := p1.fil.len
    simp only [go_sem, ↓reduceIte, Nat.reduceEqDiff, f0, f1, f2, f6, f7]
    refine stab1 E hn hc so hS hR hM hI hL hW (cap := cap) (ex := ex) n 20 (D ++ M) _ H'' (by omega) (by omega) (q2.chk (.last _ (by omega) p1.srt)) (q3.trans ((Fil.refl D).append p1.fil)) (by simpa using p2) ?_ ?_ ?_ ?_ fun l' T'' H3 p3 p4 => ?_
    · simp only [go_sem, ↓reduceIte, Nat.reduceEqDiff, f0]
    · simp only [go_sem, ↓reduceIte, Nat.reduceEqDiff, f1]
    · simp only [go_sem, ↓reduceIte, Nat.reduceEqDiff, f2]
    · simp only [go_sem, ↓reduceIte, Nat.reduceEqDiff, f6]; rfl
    · simp only [go_sem, ↓reduceIte]
      exact .same (h l' H3 p3 p4)
end
end Go.AM.T
/- cmp, slices.Clone, merge.sorted, merge.Class. -/
namespace Go.AM.T
open Go Go.AM
theorem lenI (x : Int) : (encI x).length = 1 := rfl
theorem elt_int : Elt 1 false encI iv := ⟨fun _ => rfl, fun _ => rfl, fun _ => rfl, fun _ => rfl⟩
theorem elt_iv : Elt 1 false encI (fun n : Int => AV.int .i64 n) := elt_int

theorem nan_does {a : Int} {H : AHeap} {R : AV → AHeap → Prop} (h : R (.bool false) H) : CallV tbl f_cmp_isNaN_int [iv a] H R := by
  refine T.callW rfl ?_
  simp only [c_cmp_isNaN_int, a75, go_sem, ↓reduceIte, Nat.reduceEqDiff, Nat.reduceAdd, ne_eq, not_true_eq_false, decide_false]
  exact .same h
def sgn (a b : Int) : Int := if a < b then -1 else if b < a then 1 else 0
theorem compare_does {a b : Int} {H : AHeap} {R : AV → AHeap → Prop} (h : R (iv (sgn a b)) H) : CallV tbl f_cmp_Compare_int [iv a, iv b] H R := by
  refine T.callW rfl ?_
  simp only [c_cmp_Compare_int, a45, go_sem, ↓reduceIte, Nat.reduceEqDiff, Nat.reduceAdd]
  refine GoS.call (nan_does (GoW.sound ?_))
  simp only [go_sem, ↓reduceIte, Nat.reduceEqDiff, Nat.reduceAdd]
  refine GoS.call (nan_does (GoW.sound ?_))
  simp only [go_sem, ↓reduceIte, Nat.reduceEqDiff, Nat.reduceAdd, Bool.false_eq_true]
  unfold sgn at h
  split
  · rename_i e; rw [if_pos e] at h; exact .same h
  · rename_i e
    rw [if_neg e] at h
    split
    · rename_i e2; rw [if_pos e2] at h; exact .same h
    · rename_i e2; rw [if_neg e2] at h; exact .same h

/-- a new list, or nil; all else is as it was -/
def NewL {α : Type} (es : Nat) (enc : α → List AV) (H : AHeap) (l : List α) (v : AV) (H' : AHeap) : Prop :=
  H.nx ≤ H'.nx ∧ (∀ i, i < H.nx → H'.get i = H.get i) ∧ ((v = .nilsl ∧ l = []) ∨ ∃ j ex, H.nx ≤ j ∧ j < H'.nx ∧ v = .sl j 0 l.length l.length es ex ∧ H'.get j = some (.cells (l.flatMap enc) .own))

def tClone (es by_ : Nat) : ACode := .seq (.region [o (some p2) (.mov (.c .nilsl))]) (.seq (.seq (.region [o (some p3) (.mov x0),
  o (some p4) (.eqv false .nilsl x3 (.c .nilsl))]) (.cond x4 (.seq (.region [o (some p2) (.mov (.c .nilsl))]) (.ret)) (.skip))) (.seq (.region [o (some p5) (.bslice es 0 [] []),
  o (some p6) (.mov x0),
  o (some p7) (.append es by_ x5 x6),
  o (some p2) (.mov x7)]) (.ret)))
section
variable {α : Type} {es by_ : Nat} {enc : α → List AV}
theorem eqv_lstE {l : List α} (h : l ≠ []) : opEqv false .nilsl (lstE es enc l) .nilsl = some (.bool false) := by
  cases l with
  | nil => exact absurd rfl h
  | cons x l =>
    have : lstNil (x :: l).length ((x :: l).flatMap enc) = some false := by
      unfold lstNil; split <;> rfl
    have h2 : AM.eqv .nilsl (.lst es (x :: l).length ((x :: l).flatMap enc)) .nilsl = some false := this
    simp only [opEqv, lstE, h2]
    rfl
theorem lstE_cells (hE : ∀ x, (enc x).length = es) (l : List α) (H : AHeap) : firstCells H es l.length (lstE es enc l) = some (l.flatMap enc) := by
  have := flat_len hE l
  have hr : rangeOf 0 (l.length * es) (l.flatMap enc) = some (l.flatMap enc) := rangeOf_iff.2 ⟨by omega, by rw [List.drop_zero, List.take_of_length_le (by omega)]⟩
  simp [firstCells, lstE, hr]
theorem allCells_flat (hk : ∀ x, allCells (enc x) = true) (l : List α) : allCells (l.flatMap enc) = true := by
  rw [allCells_iff]
  intro v hv
  obtain ⟨x, hx, hv⟩ := List.mem_flatMap.1 hv
  exact allCells_iff.1 (hk x) v hv
theorem clone_does (hE : ∀ x, (enc x).length = es) (hk : ∀ x, allCells (enc x) = true) (h1 : 1 ≤ es) (h2 : 1 ≤ by_) (h3 : by_ ≤ 100000) {f : Nat} (hf : tbl f = some ⟨tClone es by_, [.t p2]⟩) {l : List α} (hl : l.length ≤ 1000000) {H : AHeap} {R : AV → AHeap → Prop}
    (h : ∀ v H', NewL es enc H l v H' → R v H') : CallV tbl f [lstE es enc l] H R := by
  by_cases hnil : l = []
  · subst hnil
    refine CallV.empty (pre := []) (post := []) ?_ ?_
    · refine T.callW hf ?_
      simp only [List.nil_append, tClone, go_sem, ↓reduceIte, Nat.reduceEqDiff, Nat.reduceAdd, opEqv, eqv, Bool.false_eq_true]
      exact .same (h _ _ ⟨Nat.le_refl _, fun _ _ => rfl, .inl ⟨rfl, rfl⟩⟩)
    · refine T.callW hf ?_
      have e1 : opEqv false .nilsl (AV.lst es 0 [.nilfn]) .nilsl = some (.bool false) := rfl
      have e2 : opBslice es 0 [] [] H = some (.sl H.nx 0 0 0 es true, lay [] H) := rfl
      have e3 : appendOp es by_ (.sl H.nx 0 0 0 es true) (AV.lst es 0 [.nilfn]) (lay [] H) = some (.sl H.nx 0 0 0 es true, lay [] H) := by
        have b1 : Nat.ble 1 es = true := Nat.ble_eq_true_of_le h1
        have b2 : Nat.ble 1 by_ = true := Nat.ble_eq_true_of_le h2
        simp [appendOp, lenOf, firstCells, rangeOf, dropN, takeN, allCells, b1, b2, appTo, appIn]
      simp only [List.nil_append, tClone, go_sem, ↓reduceIte, Nat.reduceEqDiff, Nat.reduceAdd, e1, e2, e3, Bool.false_eq_true]
      refine .same (h _ _ ⟨by simp [lay], fun i hi => get_push_ne _ _ _ (by omega), .inr ⟨H.nx, true, Nat.le_refl _, by simp [lay], rfl, get_push_same ..⟩⟩)
  · refine T.callW hf ?_
    have e1 := eqv_lstE (es := es) (enc := enc) hnil
    have e2 : opBslice es 0 [] [] H = some (.sl H.nx 0 0 0 es true, lay [] H) := rfl
    have hpos : 0 < l.length := List.length_pos_iff.2 hnil
    have e3 : appendOp es by_ (.sl H.nx 0 0 0 es true) (lstE es enc l) (lay [] H) = some (.sl (H.nx + 1) 0 l.length l.length es false, (lay [] H).push (.cells (l.flatMap enc) .own)) := by
      have b1 : Nat.ble 1 es = true := Nat.ble_eq_true_of_le h1
      have b2 : Nat.ble 1 by_ = true := Nat.ble_eq_true_of_le h2
      have b3 : Nat.ble l.length 0 = false := by
        cases e : Nat.ble l.length 0 with
        | false => rfl
        | true => have := Nat.le_of_ble_eq_true e; omega
      have b4 : Nat.ble ((l.length + 1) * by_) most = true := Nat.ble_eq_true_of_le (by
        have : (l.length + 1) * by_ ≤ 1000001 * 100000 := Nat.mul_le_mul (by omega) h3
        unfold most; omega)
      have hlen : lenOf (lstE es enc l) = some l.length := rfl
      have hg : (lay [] H).get H.nx = some (.cells [] .own) := get_push_same ..
      have hr : rangeOf 0 (0 * es) ([] : List AV) = some [] := by simp [rangeOf, dropN, takeN]
      simp only [appendOp, hlen, lstE_cells hE, allCells_flat hk, b1, b2, Bool.and_self, if_true, appTo, Nat.beq_refl, Nat.zero_add, b3, Bool.false_eq_true, if_false, hg, appOut, hr, appNew, b4, List.nil_append]
      rfl
    simp only [tClone, go_sem, ↓reduceIte, Nat.reduceEqDiff, Nat.reduceAdd, e1, e2, e3, Bool.false_eq_true]
    refine .same (h _ _ ⟨by simp [lay]; omega, fun i hi => ?_, .inr ⟨H.nx + 1, false, by omega, by simp [lay], rfl, ?_⟩⟩)
    · rw [get_push_ne _ _ _ (by simp [lay]; omega)]; exact get_push_ne _ _ _ (by omega)
    · exact get_push_same (lay [] H) _
end

/-! merge.sorted -/
/-- a key: a function without state -/
def KeyV (g : Nat) (first cap : List AV) (κ : Int → Int) (W : Int → Prop) : Prop :=
  ∀ x, W x → ∀ H (R : AV → AHeap → Prop), R (iv (κ x)) H → CallV tbl g (first ++ ([iv x] ++ cap)) H R
theorem rd1 (v : AV) : rangeOf 0 1 [v] = some [v] := rfl
theorem cmp_key {g : Nat} {first cap : List AV} {κ : Int → Int} {W : Int → Prop} (hg : KeyV g first cap κ W) (hp : pureVs first = true ∧ pureVs cap = true) :
    CmpV f_merge_sorted_int_int_1 [] [.fp 0 [.fn g first cap]] iv (fun a b => decide (κ a < κ b)) W := by
  intro x y hx hy H R h
  refine T.callW rfl ?_
  have l1 : ∀ H, opLoad (.fp 0 [.fn g first cap]) false 1 H = some (.fn g first cap, H) := fun H => by simp only [opLoad, rd1, mkValO, mkVal, ret, Bool.false_eq_true, if_false]
  have hview : ∀ (z : Int) (H : AHeap), W z → CallF tbl g (first ++ ([iv z] ++ cap)) H fun r H2 => (r = iv (κ z)) ∧ H2 = H := fun z H hz =>
    CallF.view (P0 := fun r _ => r = iv (κ z)) (P1 := fun r => r = iv (κ z)) (Frzs.pure (by rw [pureVs_append, pureVs_append, hp.1, hp.2]; rfl)) (hg z hz _ _ rfl) (fun r H' e => ⟨by rw [e]; rfl, e⟩)
  simp only [List.nil_append, List.append_nil, c_merge_sorted_int_int_1, a44, go_sem, ↓reduceIte, Nat.reduceEqDiff, Nat.reduceAdd, List.cons_append, l1, true_and]
  refine GoS.callvF (f := g) (first := first) (cap := cap) (by simp only [go_sem, ↓reduceIte, Nat.reduceEqDiff]) ?_
  simp only [go_sem, ↓reduceIte, Nat.reduceEqDiff]
  refine (hview x H hx).mono ?_
  rintro _ H2 ⟨rfl, rfl⟩
  refine GoW.sound ?_
  simp only [go_sem, ↓reduceIte, Nat.reduceEqDiff, Nat.reduceAdd, l1, lOk, recD, rcdOf, wants, rd1, Nat.beq, Nat.ble, Bool.false_eq_true, if_false, Option.isSome, Bool.and_self, true_and]
  refine GoS.callvF (f := g) (first := first) (cap := cap) (by simp only [go_sem, ↓reduceIte, Nat.reduceEqDiff]) ?_
  simp only [go_sem, ↓reduceIte, Nat.reduceEqDiff]
  refine (hview y H2 hy).mono ?_
  rintro _ H3 ⟨rfl, rfl⟩
  refine GoW.sound ?_
  simp only [go_sem, ↓reduceIte, Nat.reduceEqDiff, Nat.reduceAdd]
  refine GoS.call ?_
  simp only [go_sem, ↓reduceIte, Nat.reduceEqDiff]
  refine compare_does (GoW.sound ?_)
  simp only [go_sem, ↓reduceIte, Nat.reduceEqDiff, Nat.reduceAdd, List.reverse_cons, List.reverse_nil, List.nil_append, true_and]
  refine .same (h _ ?_)
  unfold sgn
  split
  · simp [*]
  · split <;> simp [*]
end Go.AM.T
/- merge.sorted, merge.Class, the functions in merge.Pick. -/
namespace Go.AM.T
open Go Go.AM
theorem CallV.fresh {tbl : Nat → Option AFn} {f : Nat} {args : List AV} {H : AHeap} {P : AV → AHeap → Prop} (h : (∀ i, H.nx ≤ i → H.get i = none) → CallV tbl f args H P) : CallV tbl f args H P :=
  fun b A B G args' hH ha => h hH.hfre b A B G args' hH ha
theorem pure_flat {α : Type} {enc : α → List AV} (hp : ∀ x, pureVs (enc x) = true) : ∀ l : List α, pureVs (l.flatMap enc) = true
  | [] => rfl
  | x :: l => by rw [List.flatMap_cons, pureVs_append, hp x, pure_flat hp l]; rfl
theorem pure_lstE {α : Type} {es : Nat} {enc : α → List AV} (hp : ∀ x, pureVs (enc x) = true) (l : List α) : pureV (lstE es enc l) = true := by
  simp only [lstE, pureV, pure_flat hp]
theorem frz_list {α : Type} {es : Nat} {enc : α → List AV} (hE : ∀ x, (enc x).length = es) (hp : ∀ x, pureVs (enc x) = true) {N : Nat} {H : AHeap} {j n : Nat} {ex : Bool} {l : List α} {st : BSt} (hn : l.length = n) (hj : N ≤ j) (hg : H.get j = some (.cells (l.flatMap enc) st)) :
    Frz N H (.sl j 0 n n es ex) (lstE es enc l) := by
  subst hn
  have hl := flat_len hE l
  exact .sl j 0 l.length l.length es ex _ st _ _ hj hg (rangeOf_iff.2 ⟨by omega, by rw [List.drop_zero, List.take_of_length_le (by omega)]⟩) (Nat.le_refl _) (Frzs.pure (pure_flat hp l))
/-- a function's end, where the elder objects are as they were -/
theorem Fin.reset {H H' : AHeap} (hf : ∀ i, H.nx ≤ i → H.get i = none) (hk : ∀ i, i < H.nx → H'.get i = H.get i) {r r2 : AV} (hr : Frz H.nx H' r r2) {P : AV → AHeap → Prop} (h : P r2 H) : Fin H r H' P := by
  refine .inr ⟨r2, H, ⟨rfl, hf, fun i o g _ => .inl ⟨?_, g⟩⟩, hr, h⟩
  rw [hk i (Nat.lt_of_not_le fun hi => by rw [hf i hi] at g; cases g)]
  exact g
theorem pure_encI (x : Int) : pureVs (encI x) = true := rfl

theorem sorted_own {g : Nat} {first cap : List AV} {κ : Int → Int} {W : Int → Prop} (hg : KeyV g first cap κ W) (hp : pureVs first = true ∧ pureVs cap = true) {l : List Int} (hl : l.length ≤ 1000000) (hne : l ≠ []) (hW : ∀ x, x ∈ l → W x) {H : AHeap} {R : AV → AHeap → Prop}
    (h : ∀ v H', NewL 1 encI H (sortS (fun a b => decide (κ a < κ b)) l) v H' → R v H') : CallV tbl f_merge_sorted_int_int [lstE 1 encI l, .fn g first cap] H R := by
  refine T.callW rfl ?_
  have e1 : opBox (.fn g first cap) H = some (.ptr H.nx 0, lay [.fn g first cap] H) := rfl
  simp only [c_merge_sorted_int_int, a26, go_sem, ↓reduceIte, Nat.reduceEqDiff, Nat.reduceAdd, e1]
  refine GoS.freeze (i := H.nx) (cs := [.fn g first cap]) (st := .own) rfl (get_push_same ..) (fz1_set (q := 3) (v := .fp 0 [.fn g first cap]) ?_) ?_
  · simp only [go_sem, ↓reduceIte, Nat.reduceEqDiff]; exact .ptr 0
  refine GoS.call ?_
  simp only [go_sem, ↓reduceIte, Nat.reduceEqDiff]
  refine clone_does (es := 1) (by_ := 8) (fun _ => rfl) (fun _ => rfl) (by omega) (by omega) (by omega) rfl hl fun v H1 ⟨n1, n2, n3⟩ => GoW.sound ?_
  rcases n3 with ⟨_, n3⟩ | ⟨j, ex, n3, n4, rfl, n5⟩
  · exact absurd n3 hne
  simp [lay] at n1 n2 n3
  simp only [go_sem, ↓reduceIte, Nat.reduceEqDiff, Nat.reduceAdd]
  refine GoS.call ?_
  simp only [go_sem, ↓reduceIte, Nat.reduceEqDiff]
  refine T.callW (fn := a43) rfl ?_
  have ln : opLen false (.sl j 0 l.length l.length 1 ex) = some (iv l.length) := rfl
  simp only [c_slices_SortStableFunc_int_int, a43, go_sem, ↓reduceIte, Nat.reduceEqDiff, Nat.reduceAdd, ln]
  refine GoS.call ?_
  simp only [go_sem, ↓reduceIte, Nat.reduceEqDiff]
  have sw := swo_key κ
  refine stable_does (es := 1) (ag := false) (i := j) (pre := []) (post := []) (H0 := H1) (fS := f_slices_swapRangeCmpFunc_int) (fR := f_slices_rotateCmpFunc_int) (fM := f_slices_symMergeCmpFunc_int) (fI := f_slices_insertionSortCmpFunc_int) elt_int hl (cmp_key hg hp) sw rfl rfl rfl rfl (L := l) rfl hW rfl ⟨rfl, fun _ _ => rfl, by simpa using n5⟩ fun l' H2 s1 s2 => GoW.sound ?_
  simp only [go_sem, ↓reduceIte, Nat.reduceEqDiff, Nat.reduceAdd]
  refine .same (GoW.sound ?_)
  simp only [go_sem, ↓reduceIte, Nat.reduceEqDiff, Nat.reduceAdd]
  obtain ⟨d1, d2, d3⟩ := s2
  have hs := s1.eq sw
  subst hs
  have hlen := sortS_len sw l
  refine .same (h _ _ ⟨by omega, fun i hi => ?_, .inr ⟨j, ex, by omega, by omega, by rw [hlen], by simpa using d3⟩⟩)
  rw [d2 i (by omega), n2 i (by omega), get_put_ne _ _ _ _ (by omega : H.nx ≠ i)]
  exact get_push_ne _ _ _ (by omega)
/-- a new list, frozen -/
theorem NewL.fin {α : Type} {es : Nat} {enc : α → List AV} (hE : ∀ x, (enc x).length = es) (hp : ∀ x, pureVs (enc x) = true) {H H' : AHeap} {l : List α} {v : AV} (hf : ∀ i, H.nx ≤ i → H.get i = none) (h : NewL es enc H l v H') {P : AV → AHeap → Prop} (hP : P (lstE es enc l) H) : AM.Fin H v H' P := by
  obtain ⟨h1, h2, h3⟩ := h
  rcases h3 with ⟨rfl, rfl⟩ | ⟨j, ex, g1, g2, rfl, g3⟩
  · exact Fin.reset hf h2 (.nilsl es) hP
  · exact Fin.reset hf h2 (frz_list hE hp rfl g1 g3) hP
theorem sorted_does {g : Nat} {first cap : List AV} {κ : Int → Int} {W : Int → Prop} (hg : KeyV g first cap κ W) (hp : pureVs first = true ∧ pureVs cap = true) {l : List Int} (hl : l.length ≤ 1000000) (hne : l ≠ []) (hW : ∀ x, x ∈ l → W x) {H : AHeap} {R : AV → AHeap → Prop}
    (h : R (lstE 1 encI (sortS (fun a b => decide (κ a < κ b)) l)) H) : CallV tbl f_merge_sorted_int_int [lstE 1 encI l, .fn g first cap] H R :=
  CallV.fresh fun hf => CallV.fin (sorted_own hg hp hl hne hW fun _ _ hN => hN.fin lenI pure_encI hf h)

def cls (n : Int) : Int := if n ≤ 16 then 0 else if n ≤ 64 then 1 else if n ≤ 256 then 2 else if n ≤ 1024 then 3 else 4
theorem cls_is {n c : Int} (h : (n ≤ 16 ∧ c = 0) ∨ (16 < n ∧ n ≤ 64 ∧ c = 1) ∨ (64 < n ∧ n ≤ 256 ∧ c = 2) ∨ (256 < n ∧ n ≤ 1024 ∧ c = 3) ∨ (1024 < n ∧ c = 4)) : cls n = c := by
  unfold cls
  repeat' split
  all_goals omega
theorem class_does {n : Int} (h : n ≤ 4096) {H : AHeap} {R : AV → AHeap → Prop} (hr : R (iv (cls n)) H) : CallV tbl f_merge_Class [iv n] H R := by
  have fin : ∀ c, (n ≤ 16 ∧ c = 0) ∨ (16 < n ∧ n ≤ 64 ∧ c = 1) ∨ (64 < n ∧ n ≤ 256 ∧ c = 2) ∨ (256 < n ∧ n ≤ 1024 ∧ c = 3) ∨ (1024 < n ∧ c = 4) → R (iv c) H := fun c hc => by rw [← cls_is hc]; exact hr
  refine T.callW rfl ?_
  simp only [c_merge_Class, a8, go_sem, ↓reduceIte, Nat.reduceEqDiff, Nat.reduceAdd]
  refine GoS.loopD (a' := c_merge_Class_l0) rfl (GoW.sound ?_)
  rcases Int.lt_or_le 16 n with h0 | h0
  · simp (disch := (first | omega | (unfold InR; omega))) only [c_merge_Class_l0, go_sem, ↓reduceIte, Nat.reduceEqDiff, Nat.reduceAdd, dT, dF, Bool.false_eq_true, Int.reduceAdd, Int.reduceMul]
    refine GoS.loopD (a' := c_merge_Class_l0) rfl (GoW.sound ?_)
    rcases Int.lt_or_le 64 n with h1 | h1
    · simp (disch := (first | omega | (unfold InR; omega))) only [c_merge_Class_l0, go_sem, ↓reduceIte, Nat.reduceEqDiff, Nat.reduceAdd, dT, dF, Bool.false_eq_true, Int.reduceAdd, Int.reduceMul]
      refine GoS.loopD (a' := c_merge_Class_l0) rfl (GoW.sound ?_)
      rcases Int.lt_or_le 256 n with h2 | h2
      · simp (disch := (first | omega | (unfold InR; omega))) only [c_merge_Class_l0, go_sem, ↓reduceIte, Nat.reduceEqDiff, Nat.reduceAdd, dT, dF, Bool.false_eq_true, Int.reduceAdd, Int.reduceMul]
        refine GoS.loopD (a' := c_merge_Class_l0) rfl (GoW.sound ?_)
        rcases Int.lt_or_le 1024 n with h3 | h3
        · simp (disch := (first | omega | (unfold InR; omega))) only [c_merge_Class_l0, go_sem, ↓reduceIte, Nat.reduceEqDiff, Nat.reduceAdd, dT, dF, Bool.false_eq_true, Int.reduceAdd, Int.reduceMul]
          refine GoS.loopD (a' := c_merge_Class_l0) rfl (GoW.sound ?_)
          simp (disch := (first | omega | (unfold InR; omega))) only [c_merge_Class_l0, go_sem, ↓reduceIte, Nat.reduceEqDiff, Nat.reduceAdd, dT, dF, Bool.false_eq_true, Int.reduceAdd, Int.reduceMul]
          exact .same (fin 4 (by omega))
        · simp (disch := (first | omega | (unfold InR; omega))) only [c_merge_Class_l0, go_sem, ↓reduceIte, Nat.reduceEqDiff, Nat.reduceAdd, dT, dF, Bool.false_eq_true, Int.reduceAdd, Int.reduceMul]
          exact .same (fin 3 (by omega))
      · simp (disch := (first | omega | (unfold InR; omega))) only [c_merge_Class_l0, go_sem, ↓reduceIte, Nat.reduceEqDiff, Nat.reduceAdd, dT, dF, Bool.false_eq_true, Int.reduceAdd, Int.reduceMul]
        exact .same (fin 2 (by omega))
    · simp (disch := (first | omega | (unfold InR; omega))) only [c_merge_Class_l0, go_sem, ↓reduceIte, Nat.reduceEqDiff, Nat.reduceAdd, dT, dF, Bool.false_eq_true, Int.reduceAdd, Int.reduceMul]
      exact .same (fin 1 (by omega))
  · simp (disch := (first | omega | (unfold InR; omega))) only [c_merge_Class_l0, go_sem, ↓reduceIte, Nat.reduceEqDiff, Nat.reduceAdd, dT, dF, Bool.false_eq_true, Int.reduceAdd, Int.reduceMul]
    exact .same (fin 0 (by omega))

/-- the count of a place -/
def key (counts : List Int) (x : Int) : Int := nth counts x.toNat
theorem key_does (counts : List Int) : KeyV f_merge_Pick_1 [] [.fp 0 [lstE 1 encI counts]] (key counts) fun x => 0 ≤ x ∧ x < counts.length := by
  intro x hx H R h
  refine T.callW rfl ?_
  have l1 : opLoad (.fp 0 [lstE 1 encI counts]) false 1 H = some (lstE 1 encI counts, H) := by simp only [opLoad, rd1, mkValO, mkVal, ret, Bool.false_eq_true, if_false]
  simp (disch := omega) only [List.nil_append, List.cons_append, c_merge_Pick_1, a27, go_sem, ↓reduceIte, Nat.reduceEqDiff, Nat.reduceAdd, l1]
  exact .same h
theorem self_does (W : Int → Prop) : KeyV f_merge_Pick_2 [] [] (fun x => x) W := by
  intro x hx H R h
  refine T.callW rfl ?_
  simp only [List.nil_append, List.append_nil, c_merge_Pick_2, a28, go_sem, ↓reduceIte, Nat.reduceEqDiff, Nat.reduceAdd]
  exact .same h
end Go.AM.T
/- Lists that grow; merge.Pick: its first loop. -/
namespace Go.AM.T
open Go Go.AM
def vid : AV → Option Nat
  | .sl j .. => some j
  | _ => none
/-- a list that grows by append alone: nil, or a block of its own that is full as far as is known -/
def Gro {α : Type} (es : Nat) (enc : α → List AV) (N : Nat) (H : AHeap) (v : AV) (l : List α) : Prop :=
  (v = .nilsl ∧ l = []) ∨ ∃ j ex, N ≤ j ∧ j < H.nx ∧ v = .sl j 0 l.length l.length es ex ∧ H.get j = some (.cells (l.flatMap enc) .own)
section
variable {α : Type} {es by_ : Nat} {enc : α → List AV} {N : Nat} {H H' : AHeap} {v x : AV} {l m : List α}
theorem Gro.keep (h : Gro es enc N H v l) (hn : H.nx ≤ H'.nx) (hg : ∀ j, vid v = some j → H'.get j = H.get j) : Gro es enc N H' v l := by
  rcases h with h | ⟨j, ex, h1, h2, rfl, h3⟩
  · exact .inl h
  · exact .inr ⟨j, ex, h1, by omega, rfl, (hg j rfl).trans h3⟩
theorem Gro.vid (h : Gro es enc N H v l) {j : Nat} (e : vid v = some j) : N ≤ j ∧ j < H.nx := by
  rcases h with ⟨rfl, _⟩ | ⟨j', ex, h1, h2, rfl, h3⟩
  · cases e
  · cases e; exact ⟨h1, h2⟩
theorem Gro.len (h : Gro es enc N H v l) : opLen false v = some (.int .i64 (l.length : Int)) := by
  rcases h with ⟨rfl, rfl⟩ | ⟨j', ex, h1, h2, rfl, h3⟩ <;> rfl
theorem gro_append (hE : ∀ x, (enc x).length = es) (hk : ∀ x, allCells (enc x) = true) (h1 : 1 ≤ es) (h2 : 1 ≤ by_) (h3 : by_ ≤ 100000) (h : Gro es enc N H v l) (hN : N ≤ H.nx) (hx : lenOf x = some m.length) (hf : firstCells H es m.length x = some (m.flatMap enc)) (hm : m ≠ [])
    (hb : l.length + m.length ≤ 1000000) :
    ∃ ex H', appendOp es by_ v x H = some (.sl H.nx 0 (l ++ m).length (l ++ m).length es ex, H') ∧ H'.nx = H.nx + 1 ∧ H'.get H.nx = some (.cells ((l ++ m).flatMap enc) .own) ∧ ∀ i, i < H.nx → vid v ≠ some i → H'.get i = H.get i := by
  have b1 : Nat.ble 1 es = true := Nat.ble_eq_true_of_le h1
  have b2 : Nat.ble 1 by_ = true := Nat.ble_eq_true_of_le h2
  have mpos : 0 < m.length := List.length_pos_iff.2 hm
  have b4 : Nat.ble ((l.length + m.length + 1) * by_) most = true := Nat.ble_eq_true_of_le (by
    have : (l.length + m.length + 1) * by_ ≤ 1000001 * 100000 := Nat.mul_le_mul (by omega) h3
    unfold most; omega)
  have hlen : (l ++ m).length = l.length + m.length := List.length_append
  rcases h with ⟨rfl, rfl⟩ | ⟨j, ex, g1, g2, rfl, g3⟩
  · refine ⟨false, H.push (.cells (m.flatMap enc) .own), ?_, rfl, get_push_same .., fun i hi _ => get_push_ne _ _ _ (by omega)⟩
    have b3 : Nat.beq m.length 0 = false := by
      cases e : Nat.beq m.length 0 with
      | false => rfl
      | true => have := Nat.eq_of_beq_eq_true e; omega
    simp only [List.length_nil, Nat.zero_add] at b4
    simp only [appendOp, hx, hf, allCells_flat hk, b1, b2, Bool.and_self, if_true, appTo, b3, Bool.false_eq_true, if_false, appNew, b4, List.nil_append]
  · have b3 : Nat.ble (l.length + m.length) l.length = false := by
      cases e : Nat.ble (l.length + m.length) l.length with
      | false => rfl
      | true => have := Nat.le_of_ble_eq_true e; omega
    have hfl := flat_len hE l
    have hr : rangeOf 0 (l.length * es) (l.flatMap enc) = some (l.flatMap enc) := rangeOf_iff.2 ⟨by omega, by rw [List.drop_zero, List.take_of_length_le (by omega)]⟩
    cases ex with
    | true =>
      refine ⟨false, H.push (.cells ((l ++ m).flatMap enc) .own), ?_, rfl, get_push_same .., fun i hi _ => get_push_ne _ _ _ (by omega)⟩
      simp only [appendOp, hx, hf, allCells_flat hk, b1, b2, Bool.and_self, if_true, appTo, Nat.beq_refl, b3, Bool.false_eq_true, if_false, g3, appOut, hr, appNew, b4, List.flatMap_append, hlen]
    | false =>
      refine ⟨false, (H.put j .gone).push (.cells ((l ++ m).flatMap enc) .own), ?_, rfl, get_push_same .., fun i hi hv => ?_⟩
      · have b5 : Nat.beq (0 + l.length * es) (l.flatMap enc).length = true := by rw [hfl, Nat.zero_add]; exact Nat.beq_refl _
        simp only [appendOp, hx, hf, allCells_flat hk, b1, b2, Bool.and_self, if_true, appTo, Nat.beq_refl, b3, Bool.false_eq_true, if_false, g3, appOut, hr, b5, appNew, b4, List.flatMap_append, hlen, nx_put]
      · rw [get_push_ne _ _ _ (by simp; omega), get_put_ne _ _ _ _ (fun e => hv (by rw [e]; rfl))]
/-- one element, out of a list made on the spot -/
theorem one_cells {x : α} {i : Nat} (hg : H.get i = some (.cells (enc x) .own)) (hE : (enc x).length = es) : lenOf (.sl i 0 1 1 es true) = some [x].length ∧ firstCells H es [x].length (.sl i 0 1 1 es true) = some ([x].flatMap enc) := by
  refine ⟨rfl, ?_⟩
  have hr : rangeOf 0 (1 * es) (enc x) = some (enc x) := rangeOf_iff.2 ⟨by omega, by rw [List.drop_zero, List.take_of_length_le (by omega)]⟩
  rw [Nat.one_mul] at hr
  simp [firstCells, AHeap.load, hg, hr, Nat.ble]
end

/-- the places below k of the counts of class c -/
def idx (counts : List Int) (c : Nat) : Nat → List Int
  | 0 => []
  | k + 1 => if cls (nth counts k) = c then idx counts c k ++ [(k : Int)] else idx counts c k
theorem idx_len (counts : List Int) (c : Nat) : ∀ k, (idx counts c k).length ≤ k := by
  intro k
  induction k with
  | zero => exact Nat.le_refl 0
  | succ k ih =>
    unfold idx
    split
    · rw [List.length_append, List.length_singleton]; omega
    · omega
theorem cls_nat (x : Int) : ∃ c : Nat, c < 5 ∧ cls x = (c : Int) := by
  unfold cls
  split
  · exact ⟨0, by omega, rfl⟩
  · split
    · exact ⟨1, by omega, rfl⟩
    · split
      · exact ⟨2, by omega, rfl⟩
      · split
        · exact ⟨3, by omega, rfl⟩
        · exact ⟨4, by omega, rfl⟩
theorem load_arr {H : AHeap} {b c : Nat} {cs : List AV} {st : BSt} {v : AV} (hb : H.get b = some (.cells cs st)) (hc : cs[c]? = some v) : opLoad (.ptr b c) false 1 H = some (v, H) := by
  have : H.load b c 1 = some [v] := load_eq hb (rangeOf_one hc)
  simp only [opLoad, this, mkValO, mkVal, ret, Bool.false_eq_true, if_false]
theorem idx_arr {n b : Nat} {x : Int} {c : Nat} (hx : x = (c : Int)) (h : c < n) : opIaddrA n 1 (.ptr b 0) (.int .i64 x) = some (.ptr b c) := by
  subst hx
  have : Nat.ble (c + 1) n = true := Nat.ble_eq_true_of_le h
  simp [opIaddrA, asN, this]
theorem store_arr {H : AHeap} {b c : Nat} {cs : List AV} {v : AV} (hb : H.get b = some (.cells cs .own)) (hc : c < cs.length) (hv : cellsOf v = some [v]) (hi : isCell v = true) :
    opStore (.ptr b c) v 1 H = some (.undef, H.put b (.cells (cs.set c v) .own)) := by
  have h1 : H.store b c [v] = some (H.put b (.cells (cs.set c v) .own)) := store_eq hb (write_one hc)
  simp only [opStore, asP, hv, storeCs, h1, List.length_singleton, allCells, hi]
  rfl

structure PickI (H0 : AHeap) (b3 : Nat) (counts : List Int) (k : Nat) (vs : List AV) (H : AHeap) : Prop where
  nx : H0.nx ≤ H.nx
  keeps : ∀ i, i < H0.nx → H.get i = H0.get i
  loc : H0.nx ≤ b3 ∧ b3 < H.nx
  arr : H.get b3 = some (.cells vs .own)
  len : vs.length = 5
  full : ∀ c, c < 5 → ∃ s, vs[c]? = some s ∧ Gro 1 encI H0.nx H s (idx counts c k) ∧ vid s ≠ some b3
  dist : ∀ (c c' : Nat) (s s' : AV) (j : Nat), c ≠ c' → vs[c]? = some s → vs[c']? = some s' → vid s = some j → vid s' ≠ some j
theorem pick_loop0 {H0 : AHeap} {b3 : Nat} {counts : List Int} (hlen : counts.length ≤ 100000) (hcs : ∀ x, x ∈ counts → x ≤ 4096) {k : List KI} {Q : AExit → Fr → AHeap → Prop} : ∀ (m q : Nat) (vs : List AV) (T : Fr) (H : AHeap), q + m = counts.length → PickI H0 b3 counts q vs H →
    gN T 1 = .fp 0 [lstE 1 encI counts] → gN T 3 = .ptr b3 0 → gN T 12 = lstE 1 encI counts → gN T 13 = iv counts.length → gN T 14 = iv q →
    (∀ T' H' vs', PickI H0 b3 counts counts.length vs' H' → gN T' 1 = .fp 0 [lstE 1 encI counts] → gN T' 3 = .ptr b3 0 → GoW tbl Q k (.exit 0) T' H') →
    GoS tbl (.code (.loop kc_merge_Pick_l0) :: k) .normal T H Q := by
  intro m
  induction m with
  | zero =>
    intro q vs T H hq hp t1 t3 t12 t13 t14 hk
    refine GoS.loopD (a' := c_merge_Pick_l0) rfl (GoW.sound ?_)
    simp (disch := omega) only [c_merge_Pick_l0, go_sem, ↓reduceIte, Nat.reduceEqDiff, Nat.reduceAdd, t13, t14, dF, Bool.false_eq_true]
    obtain rfl : q = counts.length := by omega
    refine hk _ _ vs hp ?_ ?_
    all_goals simp only [go_sem, ↓reduceIte, Nat.reduceEqDiff, t1, t3]
  | succ m ih =>
    intro q vs T H hq hp t1 t3 t12 t13 t14 hk
    have hqc : counts[q]? = some (nth counts q) := nth_get (by omega)
    have hle := hcs _ (List.mem_of_getElem? hqc)
    obtain ⟨c, hc5, hcl⟩ := cls_nat (nth counts q)
    obtain ⟨s, hs, hg, hsb⟩ := hp.full c hc5
    refine GoS.loopD (a' := c_merge_Pick_l0) rfl (GoW.sound ?_)
    simp (disch := omega) only [c_merge_Pick_l0, go_sem, ↓reduceIte, Nat.reduceEqDiff, Nat.reduceAdd, t1, t3, t12, t13, t14, dT]
    refine GoS.call ?_
    simp only [go_sem, ↓reduceIte, Nat.reduceEqDiff]
    refine class_does hle (GoW.sound ?_)
    simp only [go_sem, ↓reduceIte, Nat.reduceEqDiff, Nat.reduceAdd]
    refine GoS.call ?_
    simp only [go_sem, ↓reduceIte, Nat.reduceEqDiff]
    refine class_does hle (GoW.sound ?_)
    have e1 : opIaddrA 5 1 (.ptr b3 0) (.int .i64 (cls (nth counts q))) = some (.ptr b3 c) := idx_arr hcl hc5
    have e2 := load_arr hp.arr hs
    have e3 : opBslice 1 1 [iv 0] [(0, 1, iv q)] H = some (.sl H.nx 0 1 1 1 true, lay [iv q] H) := rfl
    have hg1 : (lay [iv (q : Int)] H).get H.nx = some (.cells (encI q) .own) := get_push_same ..
    obtain ⟨o1, o2⟩ := one_cells (es := 1) (enc := encI) (x := (q : Int)) hg1 rfl
    have hgr : Gro 1 encI H0.nx (lay [iv (q : Int)] H) s (idx counts c q) := hg.keep (by simp [lay]) fun j hj => get_push_ne _ _ _ (by have := (hg.vid hj).2; omega)
    obtain ⟨ex, H2, a1, a2, a3, a4⟩ := gro_append (es := 1) (enc := encI) (m := [(q : Int)]) (by_ := 8) (fun _ => rfl) (fun _ => rfl) (Nat.le_refl 1) (by omega) (by omega) hgr (by have := hp.nx; simp only [lay, nx_push]; omega) o1 o2 (by simp) (by have := idx_len counts c q; simp only [List.length_cons, List.length_nil]; omega)
    have hi : idx counts c (q + 1) = idx counts c q ++ [(q : Int)] := by simp only [idx]; rw [if_pos hcl]
    rw [← hi] at a1 a3
    have hb3 := hp.loc
    simp only [lay, nx_push] at a1 a2 a3 a4
    have hb3' : H2.get b3 = some (.cells vs .own) := by
      rw [a4 b3 (by omega) hsb, get_push_ne _ _ _ (by omega)]; exact hp.arr
    have st := store_arr (v := .sl (H.nx + 1) 0 (idx counts c (q + 1)).length (idx counts c (q + 1)).length 1 ex) hb3' (by rw [hp.len]; exact hc5) rfl rfl
    simp (disch := (first | omega | (unfold InR; omega))) only [go_sem, ↓reduceIte, Nat.reduceEqDiff, Nat.reduceAdd, t3, t13, t14, e1, e2, e3, lay, a1, st]
    refine ih (q + 1) (vs.set c (.sl (H.nx + 1) 0 (idx counts c (q + 1)).length (idx counts c (q + 1)).length 1 ex)) _ _ (by omega) ?_ ?_ ?_ ?_ ?_ ?_ hk
    · have old : ∀ i, i < H.nx → i ≠ b3 → vid s ≠ some i → (H2.put b3 (.cells (vs.set c (.sl (H.nx + 1) 0 (idx counts c (q + 1)).length (idx counts c (q + 1)).length 1 ex)) .own)).get i = H.get i := fun i h1 h2 h3 => by
        rw [get_put_ne _ _ _ _ (Ne.symm h2), a4 i (by omega) h3, get_push_ne _ _ _ (by omega)]
      have hpn := hp.nx
      refine { nx := by rw [nx_put, a2]; omega, keeps := fun i h => ?_, loc := ⟨hb3.1, by rw [nx_put, a2]; omega⟩, arr := get_put_same .., len := by simpa using hp.len, full := fun c' hc' => ?_, dist := ?_ }
      · rw [old i (by omega) (by omega) (fun e => by have := (hg.vid e).1; omega)]; exact hp.keeps i h
      · by_cases hcc : c' = c
        · subst hcc
          refine ⟨_, List.getElem?_set_self (by rw [hp.len]; omega), .inr ⟨H.nx + 1, ex, by omega, by rw [nx_put, a2]; omega, rfl, ?_⟩, ?_⟩
          · rw [get_put_ne _ _ _ _ (by omega)]; exact a3
          · intro e; injection e with e; omega
        · obtain ⟨u, g1, g2, g3⟩ := hp.full c' hc'
          refine ⟨u, by rw [List.getElem?_set_ne (Ne.symm hcc)]; exact g1, ?_, g3⟩
          have hi' : idx counts c' (q + 1) = idx counts c' q := by simp only [idx]; rw [if_neg (by rw [hcl]; omega)]
          rw [hi']
          refine g2.keep (by rw [nx_put, a2]; omega) fun j hj => old j (g2.vid hj).2 (fun e => g3 (e ▸ hj)) (hp.dist c' c u s j hcc g1 hs hj)
      · intro c1 c2 s1 s2 j hne h1 h2 h3
        by_cases e1 : c1 = c
        · subst e1
          rw [List.getElem?_set_self (by rw [hp.len]; omega)] at h1
          cases h1
          cases h3
          rw [List.getElem?_set_ne hne] at h2
          intro h4
          have h5 : c2 < 5 := by rw [← hp.len]; exact (List.getElem?_eq_some_iff.1 h2).1
          obtain ⟨u, g1, g2, g3⟩ := hp.full c2 h5
          rw [h2] at g1; cases g1
          have := (g2.vid h4).2; omega
        · rw [List.getElem?_set_ne (Ne.symm e1)] at h1
          by_cases e2 : c2 = c
          · subst e2
            rw [List.getElem?_set_self (by rw [hp.len]; omega)] at h2
            cases h2
            intro h4
            cases h4
            have h5 : c1 < 5 := by rw [← hp.len]; exact (List.getElem?_eq_some_iff.1 h1).1
            obtain ⟨u, g1, g2, g3⟩ := hp.full c1 h5
            rw [h1] at g1; cases g1
            have := (g2.vid h3).2; omega
          · rw [List.getElem?_set_ne (Ne.symm e2)] at h2
            exact hp.dist c1 c2 s1 s2 j hne h1 h2 h3
    · simp only [go_sem, ↓reduceIte, Nat.reduceEqDiff, t1]
    · simp only [go_sem, ↓reduceIte, Nat.reduceEqDiff, t3]
    · simp only [go_sem, ↓reduceIte, Nat.reduceEqDiff, t12]
    · simp only [go_sem, ↓reduceIte, Nat.reduceEqDiff, t13]
    · simp only [go_sem, ↓reduceIte]; congr 1
end Go.AM.T
/- merge.Pick. -/
namespace Go.AM.T
open Go Go.AM
def tot (counts : List Int) : List Int → Int
  | [] => 0
  | x :: l => key counts x + tot counts l
theorem tot_append (counts : List Int) (a b : List Int) : tot counts (a ++ b) = tot counts a + tot counts b := by
  induction a with
  | nil => simp [tot]
  | cons x a ih => simp only [List.cons_append, tot, ih]; omega
def ltK (counts : List Int) : Int → Int → Bool := fun a b => decide (key counts a < key counts b)
def ltI : Int → Int → Bool := fun a b => decide (a < b)
def four (counts : List Int) (c : Nat) : List Int := (sortS (ltK counts) (idx counts c counts.length)).take 4
/-- what a class says: its four least, if there are so many and they fit -/
def pickC (counts : List Int) (c : Nat) : Option (List Int) :=
  if (idx counts c counts.length).length < 4 then none else
  if 4096 < tot counts (four counts c) then none else some (sortS ltI (four counts c))
def pickF (counts : List Int) : Nat → Nat → List Int
  | 0, _ => []
  | m + 1, c =>
    match pickC counts c with
    | some l => l
    | none => pickF counts m (c + 1)
def pickM (counts : List Int) : List Int := pickF counts 5 0
theorem idx_mem {counts : List Int} {c : Nat} : ∀ {k : Nat} {x : Int}, x ∈ idx counts c k → 0 ≤ x ∧ x < k ∧ cls (nth counts x.toNat) = c := by
  intro k
  induction k with
  | zero => intro x h; cases h
  | succ k ih =>
    intro x h
    unfold idx at h
    split at h
    · rcases List.mem_append.1 h with h | h
      · have := ih h; exact ⟨this.1, by omega, this.2.2⟩
      · rw [List.mem_singleton] at h; subst h; rename_i hc; exact ⟨by omega, by omega, by simpa using hc⟩
    · have := ih h; exact ⟨this.1, by omega, this.2.2⟩
theorem four_mem {counts : List Int} {c : Nat} {x : Int} (h : x ∈ four counts c) : x ∈ idx counts c counts.length :=
  (sortS_stab (swo_key (key counts)) (idx counts c counts.length)).fil.mem.1 (List.mem_of_mem_take h)

theorem sum_loop {counts F : List Int} (hc : ∀ x, x ∈ counts → 0 ≤ x ∧ x ≤ 4096) (hF : F.length ≤ 1000) (hm : ∀ x, x ∈ F → 0 ≤ x ∧ x < counts.length) {k : List KI} {Q : AExit → Fr → AHeap → Prop} {H : AHeap} : ∀ (d i : Nat) (T : Fr), i + d = F.length →
    gN T 1 = .fp 0 [lstE 1 encI counts] → gN T 9 = iv (tot counts (F.take i)) → gN T 41 = lstE 1 encI F → gN T 42 = iv F.length → gN T 43 = iv i → 0 ≤ tot counts (F.take i) → tot counts (F.take i) ≤ 4096 →
    (∀ T', tot counts F ≤ 4096 → (∀ s, s ≤ 8 ∨ s = 30 ∨ s = 31 → gN T' s = gN T s) → GoW tbl Q k (.exit 4) T' H) → (∀ T', 4096 < tot counts F → (∀ s, s ≤ 8 ∨ s = 30 ∨ s = 31 → gN T' s = gN T s) → GoW tbl Q k (.exit 3) T' H) →
    GoS tbl (.code (.loop kc_merge_Pick_l2) :: k) .normal T H Q := by
  have key0 : ∀ x, x ∈ F → 0 ≤ key counts x ∧ key counts x ≤ 4096 := fun x hx => by
    have := hm x hx
    exact hc _ (List.mem_of_getElem? (nth_get (l := counts) (k := x.toNat) (by omega)))
  have tot0 : ∀ l : List Int, (∀ x, x ∈ l → x ∈ F) → 0 ≤ tot counts l := by
    intro l
    induction l with
    | nil => intro _; exact Int.le_refl _
    | cons x l ih => intro h; have h1 := key0 x (h x (by simp)); have h2 := ih fun y hy => h y (by simp [hy]); simp only [tot]; omega
  intro d
  induction d with
  | zero =>
    intro i T hi t1 t9 t41 t42 t43 b0 b1 h1 h2
    refine GoS.loopD (a' := c_merge_Pick_l2) rfl (GoW.sound ?_)
    simp (disch := omega) only [c_merge_Pick_l2, go_sem, ↓reduceIte, Nat.reduceEqDiff, Nat.reduceAdd, t42, t43, dF, Bool.false_eq_true]
    rw [List.take_of_length_le (by omega)] at b1
    refine h1 _ b1 fun s hs => ?_
    simp (disch := omega) only [go_sem, if_neg]
  | succ d ih =>
    intro i T hi t1 t9 t41 t42 t43 b0 b1 h1 h2
    have hmem : nth F i ∈ F := List.mem_of_getElem? (nth_get (by omega))
    have hk := key0 _ hmem
    have hr := hm _ hmem
    have l1 : ∀ H, opLoad (.fp 0 [lstE 1 encI counts]) false 1 H = some (lstE 1 encI counts, H) := fun H => by simp only [opLoad, rd1, mkValO, mkVal, ret, Bool.false_eq_true, if_false]
    have ht : F.take (i + 1) = F.take i ++ [nth F i] := by
      rw [List.take_add_one, nth_get (by omega)]; rfl
    have hs : tot counts (F.take (i + 1)) = tot counts (F.take i) + key counts (nth F i) := by rw [ht, tot_append]; simp [tot]
    have hkk : nth counts (nth F i).toNat = key counts (nth F i) := rfl
    refine GoS.loopD (a' := c_merge_Pick_l2) rfl (GoW.sound ?_)
    simp (disch := (first | omega | (unfold InR; omega))) only [c_merge_Pick_l2, go_sem, ↓reduceIte, Nat.reduceEqDiff, Nat.reduceAdd, t1, t9, t41, t42, t43, dT, l1, hkk]
    split
    · rename_i hgt
      refine h2 _ ?_ fun s hs => ?_
      · have hd := List.take_append_drop (i + 1) F
        have : tot counts F = tot counts (F.take (i + 1)) + tot counts (F.drop (i + 1)) := by rw [← tot_append, hd]
        have h3 := tot0 (F.drop (i + 1)) fun x hx => List.mem_of_mem_drop hx
        omega
      · simp (disch := omega) only [go_sem, if_neg]
    · rename_i hle
      refine ih (i + 1) _ (by omega) ?_ ?_ ?_ ?_ ?_ (by omega) (by omega) (fun T' a b => h1 T' a fun s hs => (b s hs).trans ?_) fun T' a b => h2 T' a fun s hs => (b s hs).trans ?_
      · simp only [go_sem, ↓reduceIte, Nat.reduceEqDiff, t1]
      · simp only [go_sem, ↓reduceIte, Nat.reduceEqDiff, hs]
      · simp only [go_sem, ↓reduceIte, Nat.reduceEqDiff, t41]
      · simp only [go_sem, ↓reduceIte, Nat.reduceEqDiff, t42]
      · simp only [go_sem, ↓reduceIte]; congr 1
      · simp (disch := omega) only [go_sem, if_neg]
      · simp (disch := omega) only [go_sem, if_neg]
theorem idxA_one {vs : List AV} {c n : Nat} {s : AV} (h : vs[c]? = some s) (hc : c < n) : opIdxA n 1 false (.agg vs) (.int .i64 (c : Int)) = some s := by
  have : Nat.ble (c + 1) n = true := Nat.ble_eq_true_of_le hc
  simp [opIdxA, asA, asN, this, rangeOf_one h, mkValO, mkVal]
theorem slice_lstE {α : Type} {es : Nat} {enc : α → List AV} (hE : ∀ x, (enc x).length = es) {l : List α} {k : Nat} (h : k ≤ l.length) : opSlice es (lstE es enc l) none (some (.int .i64 (k : Int))) none = some (lstE es enc (l.take k)) := by
  have hb : bnd (.int .i64 (k : Int)) l.length = some k := by
    have : Nat.ble k l.length = true := Nat.ble_eq_true_of_le h
    show (if Nat.ble k l.length then some k else none) = some k
    rw [this]; rfl
  have hbb : bounds l.length l.length none (some (.int .i64 (k : Int))) none = some (0, k, l.length) := by
    delta bounds
    simp only [hb]
  have ht : (l.flatMap enc).take (k * es) = (l.take k).flatMap enc := by
    have h1 := List.take_append_drop k l
    have h2 : l.flatMap enc = (l.take k).flatMap enc ++ (l.drop k).flatMap enc := by rw [← List.flatMap_append, h1]
    have h3 : ((l.take k).flatMap enc).length = k * es := by rw [flat_len hE, List.length_take]; congr 1; omega
    rw [h2, ← h3, List.take_left]
  simp only [opSlice, lstE, Nat.beq_refl, if_true, hbb, lstOf, Nat.sub_zero, Nat.zero_mul, List.drop_zero, ht, List.length_take]
  congr 2; omega

structure PickJ (H0 : AHeap) (counts : List Int) (c : Nat) (vs : List AV) (H : AHeap) : Prop where
  nx : H0.nx ≤ H.nx
  keeps : ∀ i, i < H0.nx → H.get i = H0.get i
  full : ∀ c', c ≤ c' → c' < 5 → ∃ s, vs[c']? = some s ∧ Gro 1 encI H0.nx H s (idx counts c' counts.length)
  dist : ∀ (c c' : Nat) (s s' : AV) (j : Nat), c ≠ c' → vs[c]? = some s → vs[c']? = some s' → vid s = some j → vid s' ≠ some j
theorem pick_loop1 {H0 : AHeap} {counts : List Int} (hlen : counts.length ≤ 100000) (hcs : ∀ x, x ∈ counts → 0 ≤ x ∧ x ≤ 4096) {vs : List AV} {R : AV → AHeap → Prop} :
    ∀ (m c : Nat) (T : Fr) (H : AHeap), c + m = 5 → PickJ H0 counts c vs H → gN T 1 = .fp 0 [lstE 1 encI counts] → gN T 30 = .agg vs → gN T 31 = iv c → (∀ v H', NewL 1 encI H0 (pickF counts m c) v H' → R v H') →
    GoS tbl [.code (.loop kc_merge_Pick_l1), .blk 2, .code (.seq (.region [o (some p2) (.mov (.c .nilsl))]) .ret)] .normal T H (Res [.t p2] H0 R) := by
  intro m
  induction m with
  | zero =>
    intro c T H hcm hp t1 t30 t31 hR
    refine GoS.loopD (a' := c_merge_Pick_l1) rfl (GoW.sound ?_)
    simp (disch := omega) only [c_merge_Pick_l1, go_sem, ↓reduceIte, Nat.reduceEqDiff, Nat.reduceAdd, t31, dF, Bool.false_eq_true]
    exact .same (hR _ _ ⟨hp.nx, hp.keeps, .inl ⟨rfl, rfl⟩⟩)
  | succ m ih =>
    intro c T H hcm hp t1 t30 t31 hR
    obtain ⟨s, hs, hg⟩ := hp.full c (Nat.le_refl _) (by omega)
    have e1 := idxA_one (n := 5) hs (by omega)
    have e2 := hg.len
    have hlt := idx_len counts c counts.length
    have next : ∀ {T' : Fr} {H' : AHeap}, H'.nx = H.nx → (∀ i, vid s ≠ some i → H'.get i = H.get i) → PickJ H0 counts (c + 1) vs H' := fun {T' H'} hn hk => by
      have hnx := hp.nx
      refine ⟨by omega, fun i hi => ?_, fun c' h1 h2 => ?_, hp.dist⟩
      · rw [hk i fun e => by have := (hg.vid e).1; omega]; exact hp.keeps i hi
      · obtain ⟨u, g1, g2⟩ := hp.full c' (by omega) h2
        exact ⟨u, g1, g2.keep (by omega) fun j hj => hk j (hp.dist c' c u s j (by omega) g1 hs hj)⟩
    refine GoS.loopD (a' := c_merge_Pick_l1) rfl (GoW.sound ?_)
    by_cases h4 : (idx counts c counts.length).length < 4
    · simp (disch := (first | omega | (unfold InR; omega))) only [c_merge_Pick_l1, go_sem, ↓reduceIte, Nat.reduceEqDiff, Nat.reduceAdd, t30, t31, dT, e1, e2]
      refine ih (c + 1) _ H (by omega) (next (T' := T) rfl fun _ _ => rfl) ?_ ?_ ?_ ?_
      · simp only [go_sem, ↓reduceIte, Nat.reduceEqDiff, t1]
      · simp only [go_sem, ↓reduceIte, Nat.reduceEqDiff, t30]
      · simp only [go_sem, ↓reduceIte]; congr 1
      · rw [pickF] at hR
        have : pickC counts c = none := by unfold pickC; rw [if_pos h4]
        rwa [this] at hR
    · simp (disch := omega) only [c_merge_Pick_l1, go_sem, ↓reduceIte, Nat.reduceEqDiff, Nat.reduceAdd, t1, t30, t31, dT, dF, e1, e2, Bool.false_eq_true]
      rcases hg with ⟨rfl, e⟩ | ⟨j, ex, g1, g2, rfl, g3⟩
      · rw [e] at h4; exact absurd (by simp) h4
      have hfl := flat_len (enc := encI) (es := 1) (fun _ => rfl) (idx counts c counts.length)
      refine GoS.freeze (i := j) rfl g3 (fz1_set (q := 37) (v := lstE 1 encI (idx counts c counts.length)) ?_) ?_
      · simp only [go_sem, ↓reduceIte, Nat.reduceEqDiff]
        exact .sl 0 _ _ 1 ex _ (rangeOf_iff.2 ⟨by omega, by rw [List.drop_zero, List.take_of_length_le (by omega)]⟩) (Nat.le_refl _)
      refine GoS.call ?_
      simp only [go_sem, ↓reduceIte, Nat.reduceEqDiff, t1]
      refine sorted_does (key_does counts) ⟨rfl, by simp only [pureVs, pureV, pure_lstE pure_encI, Bool.and_self]⟩ (by omega) (fun e => by rw [e] at h4; simp at h4) (fun x hx => ⟨(idx_mem hx).1, (idx_mem hx).2.1⟩) (GoW.sound ?_)
      have sl4 : opSlice 1 (lstE 1 encI (sortS (fun a b => decide (key counts a < key counts b)) (idx counts c counts.length))) none (some (iv 4)) none = some (lstE 1 encI (four counts c)) :=
        slice_lstE (k := 4) lenI (by rw [sortS_len (swo_key (key counts))]; omega)
      have hl4 : (four counts c).length = 4 := by
        unfold four ltK; rw [List.length_take, sortS_len (swo_key (key counts))]; omega
      simp only [go_sem, ↓reduceIte, Nat.reduceEqDiff, Nat.reduceAdd, t1, t30, t31, sl4]
      have hmem : ∀ x, x ∈ four counts c → 0 ≤ x ∧ x < counts.length := fun x hx => ⟨(idx_mem (four_mem hx)).1, (idx_mem (four_mem hx)).2.1⟩
      refine sum_loop hcs (F := four counts c) (by omega) hmem 4 0 _ (by omega) ?_ ?_ ?_ ?_ ?_ (by simp [tot]) (by simp [tot]) (fun T' q1 q2 => ?_) fun T' q1 q2 => ?_
      · simp only [go_sem, ↓reduceIte, Nat.reduceEqDiff, t1]
      · simp only [go_sem, ↓reduceIte, Nat.reduceEqDiff]; rfl
      · simp only [go_sem, ↓reduceIte, Nat.reduceEqDiff]
      · simp only [go_sem, ↓reduceIte, Nat.reduceEqDiff]
      · simp only [go_sem, ↓reduceIte, Nat.reduceEqDiff]; rfl
      · have f8 := q2 8 (by omega)
        simp only [go_sem, ↓reduceIte, Nat.reduceEqDiff] at f8
        simp only [go_sem, ↓reduceIte, Nat.reduceEqDiff, Nat.reduceAdd, f8]
        refine GoS.call ?_
        simp only [go_sem, ↓reduceIte, Nat.reduceEqDiff, f8]
        refine sorted_own (self_does fun _ => True) ⟨rfl, rfl⟩ (by omega) (fun e => by rw [e] at hl4; simp at hl4) (fun _ _ => trivial) fun v H' hN => GoW.sound ?_
        simp only [go_sem, ↓reduceIte, Nat.reduceEqDiff, Nat.reduceAdd]
        have hpc : pickC counts c = some (sortS ltI (four counts c)) := by unfold pickC; rw [if_neg h4, if_neg (by omega)]
        rw [pickF, hpc] at hR
        obtain ⟨n1, n2, n3⟩ := hN
        have hnx := hp.nx
        rw [nx_put] at n1 n2
        refine .same (hR _ _ ⟨by omega, fun i hi => ?_, ?_⟩)
        · rw [n2 i (by omega), get_put_ne _ _ _ _ (by omega : j ≠ i)]; exact hp.keeps i hi
        · rcases n3 with n3 | ⟨j', ex', m1, m2, m3, m4⟩
          · exact .inl n3
          · exact .inr ⟨j', ex', by rw [nx_put] at m1; omega, m2, m3, m4⟩
      · have f1 := q2 1 (by omega)
        have f30 := q2 30 (by omega)
        have f31 := q2 31 (by omega)
        simp only [go_sem, ↓reduceIte, Nat.reduceEqDiff, t1, t30, t31] at f1 f30 f31
        simp (disch := (first | omega | (unfold InR; omega))) only [go_sem, ↓reduceIte, Nat.reduceEqDiff, Nat.reduceAdd, f31]
        refine ih (c + 1) _ _ (by omega) (next (T' := T) (by simp) fun i hi => get_put_ne _ _ _ _ (fun e => hi (by rw [e]; rfl))) ?_ ?_ ?_ ?_
        · simp only [go_sem, ↓reduceIte, Nat.reduceEqDiff, f1]
        · simp only [go_sem, ↓reduceIte, Nat.reduceEqDiff, f30]
        · simp only [go_sem, ↓reduceIte]; congr 1
        · rw [pickF] at hR
          have : pickC counts c = none := by unfold pickC; rw [if_neg h4, if_pos q1]
          rwa [this] at hR
theorem pick_own {counts : List Int} (hlen : counts.length ≤ 100000) (hcs : ∀ x, x ∈ counts → 0 ≤ x ∧ x ≤ 4096) {H : AHeap} {R : AV → AHeap → Prop} (hR : ∀ v H', NewL 1 encI H (pickM counts) v H' → R v H') : CallV tbl f_merge_Pick [lstE 1 encI counts] H R := by
  refine T.callW rfl ?_
  have e1 : opBox (lstE 1 encI counts) H = some (.ptr H.nx 0, lay [lstE 1 encI counts] H) := rfl
  have e2 : opLoad (.ptr H.nx 0) false 1 (lay [.nilsl, .nilsl, .nilsl, .nilsl, .nilsl] (lay [lstE 1 encI counts] H)) = some (lstE 1 encI counts, lay [.nilsl, .nilsl, .nilsl, .nilsl, .nilsl] (lay [lstE 1 encI counts] H)) :=
    load_arr (cs := [lstE 1 encI counts]) (st := .own) (by rw [lay, get_push_ne _ _ _ (by simp [lay])]; exact get_push_same ..) rfl
  simp only [c_merge_Pick, a13, go_sem, ↓reduceIte, Nat.reduceEqDiff, Nat.reduceAdd, e1, e2]
  refine GoS.freeze (i := H.nx) (cs := [lstE 1 encI counts]) (st := .own) rfl (by rw [lay, get_push_ne _ _ _ (by simp [lay])]; exact get_push_same ..) (fz1_set (q := 1) (v := .fp 0 [lstE 1 encI counts]) ?_) ?_
  · simp only [go_sem, ↓reduceIte, Nat.reduceEqDiff]; exact .ptr 0
  have nx1 : (lay [lstE 1 encI counts] H).nx = H.nx + 1 := rfl
  simp only [nx1]
  refine pick_loop0 (H0 := H) (b3 := H.nx + 1) hlen (fun x hx => (hcs x hx).2) counts.length 0 [.nilsl, .nilsl, .nilsl, .nilsl, .nilsl] _ _ (by omega) ?_ ?_ ?_ ?_ ?_ ?_ fun T' H' vs' hp t1 t3 => ?_
  · refine { nx := by simp [lay]; omega, keeps := fun i hi => ?_, loc := by simp [lay], arr := ?_, len := rfl, full := fun c hc => ⟨.nilsl, ?_, .inl ⟨rfl, rfl⟩, by simp [vid]⟩, dist := fun c c' s s' j _ h1 _ h3 => ?_ }
    · rw [get_put_ne _ _ _ _ (by omega), lay, get_push_ne _ _ _ (by simp [lay]; omega)]; exact get_push_ne _ _ _ (by omega)
    · rw [get_put_ne _ _ _ _ (by omega)]; exact get_push_same (lay [lstE 1 encI counts] H) _
    · match c, hc with
      | 0, _ => rfl
      | 1, _ => rfl
      | 2, _ => rfl
      | 3, _ => rfl
      | 4, _ => rfl
    · have := List.mem_of_getElem? h1
      simp at this; subst this; cases h3
  · simp only [go_sem, ↓reduceIte, Nat.reduceEqDiff]
  · simp only [go_sem, ↓reduceIte, Nat.reduceEqDiff]
  · simp only [go_sem, ↓reduceIte, Nat.reduceEqDiff]
  · simp only [go_sem, ↓reduceIte, Nat.reduceEqDiff]
  · simp only [go_sem, ↓reduceIte, Nat.reduceEqDiff]; rfl
  · have la : opLoad (.ptr (H.nx + 1) 0) true 5 H' = some (.agg vs', H') := by
      have : H'.load (H.nx + 1) 0 5 = some vs' := load_eq hp.arr (rangeOf_iff.2 ⟨by rw [hp.len]; omega, by rw [List.drop_zero, List.take_of_length_le (by rw [hp.len]; omega)]⟩)
      simp only [opLoad, this, mkValO, mkVal, ret, if_true]
    simp only [go_sem, ↓reduceIte, Nat.reduceEqDiff, Nat.reduceAdd, t3, la]
    refine pick_loop1 (H0 := H) hlen hcs (vs := vs') 5 0 _ H' rfl ⟨hp.nx, hp.keeps, fun c' _ h => let ⟨s, g1, g2, _⟩ := hp.full c' h; ⟨s, g1, g2⟩, hp.dist⟩ ?_ ?_ ?_ hR
    · simp only [go_sem, ↓reduceIte, Nat.reduceEqDiff, t1]
    · simp only [go_sem, ↓reduceIte, Nat.reduceEqDiff]
    · simp only [go_sem, ↓reduceIte, Nat.reduceEqDiff]; rfl
theorem pick_does {counts : List Int} (hlen : counts.length ≤ 100000) (hcs : ∀ x, x ∈ counts → 0 ≤ x ∧ x ≤ 4096) {H : AHeap} {R : AV → AHeap → Prop} (hR : R (lstE 1 encI (pickM counts)) H) : CallV tbl f_merge_Pick [lstE 1 encI counts] H R :=
  CallV.fresh fun hf => CallV.fin (pick_own hlen hcs fun _ _ hN => hN.fin lenI pure_encI hf hR)
end Go.AM.T
/- A new list out of arguments that are only looked at; slices.Delete, slices.Backward. -/
namespace Go.AM.T
open Go Go.AM
theorem closed_flat {α : Type} {enc : α → List AV} (hp : ∀ x, closedVs (enc x) = true) : ∀ l : List α, closedVs (l.flatMap enc) = true
  | [] => rfl
  | x :: l => by
    have app : ∀ {a b : List AV}, closedVs a = true → closedVs b = true → closedVs (a ++ b) = true := by
      intro a
      induction a with
      | nil => intro b _ hb; exact hb
      | cons v a ih => intro b ha hb; simp only [closedVs, Bool.and_eq_true, List.cons_append] at ha ⊢; exact ⟨ha.1, ih ha.2 hb⟩
    rw [List.flatMap_cons]; exact app (hp x) (closed_flat hp l)
theorem CallV.viewN {α : Type} {es : Nat} {enc : α → List AV} (hc : ∀ x, closedVs (enc x) = true) {f : Nat} {args args2 : List AV} {l : List α} {H : AHeap} (hv : Frzs 0 H args args2) (h : ∀ H1, CallV tbl f args2 H1 fun r H' => NewL es enc H1 l r H') :
    CallV tbl f args H fun r H' => NewL es enc H l r H' := by
  intro b A B G args' hH ha
  have hE : FH (fun _ => none) (AN 0 b A H) B ⟨.leaf, H.nx⟩ G :=
    { dom := fun i j e => by cases e
      inj := fun i i' j e => by cases e
      hfre := fun i _ => by simp [AHeap.get, Tr.get_leaf]
      gfre := hH.gfre, alt := fun j hj => hj.alt hH, blt := hH.blt
      obj := fun i o g => by simp [AHeap.get, Tr.get_leaf] at g }
  refine (h _ _ _ B G args' hE (hv.fv hH ha)).mono ?_
  rintro r' G2 ⟨b2, A2, r, H2, g1, g2, g3, n1, n2, n3⟩
  have mo : Mo b A G b A G2 := ⟨fun _ _ e => e, fun _ e => e, fun j e => g2.mo.keep j (.inl e)⟩
  have nx := g2.nx
  have hHG : ∀ i o, H.get i = some o → live o = true → ∃ j u, b i = some j ∧ ¬ A j ∧ ¬ B j ∧ G2.get j = some u ∧ FO b A G2 o u := fun i o g l => by
    obtain ⟨j, u, k1, k2, k3, k4, k5⟩ := hH.obj i o g l
    exact ⟨j, u, k1, k2, k3, (g2.mo.keep j (.inr ⟨i, o, Nat.zero_le _, g, l, k1⟩)).trans k4, k5.mono mo⟩
  rcases n3 with ⟨rfl, rfl⟩ | ⟨j, ex, m1, m2, rfl, m3⟩
  · refine ⟨b, A, .nilsl, H, ?_, ⟨mo, nx, g2.by_, fun _ _ e => .inl e⟩, ?_, Nat.le_refl _, fun _ _ => rfl, .inl ⟨rfl, rfl⟩⟩
    · exact { dom := fun i j e => ⟨(hH.dom _ _ e).1, Nat.lt_of_lt_of_le (hH.dom _ _ e).2 nx⟩, inj := hH.inj, hfre := hH.hfre, gfre := g1.gfre
              alt := fun j e => ⟨Nat.lt_of_lt_of_le (hH.alt j e).1 nx, (hH.alt j e).2⟩, blt := fun j e => Nat.lt_of_lt_of_le (hH.blt j e) nx, obj := hHG }
    · cases g3; exact .nilsl
  · obtain ⟨q, u, k1, k2, k3, k4, k5⟩ := g1.obj _ _ m3 rfl
    have hq : G.nx ≤ q := (g2.new _ _ k1).resolve_left (fun e => by cases e)
    have hq2 := (g1.dom _ _ k1).2
    have m1' : H.nx ≤ j := m1
    cases k5 with
    | cells _ y _ hy =>
      have ey := FVs.closed_eq hy (closed_flat hc l)
      subst ey
      cases g3 with
      | sl _ _ _ _ _ _ q' hq' =>
        rw [k1] at hq'; cases hq'
        have hbn : ∀ i p, b i = some p → i ≠ j := fun i p e hi => by have := (hH.dom _ _ e).1; omega
        have bj : ∀ {i p}, (addB b j q) i = some p → (i = j ∧ p = q) ∨ (i ≠ j ∧ b i = some p) := fun {i p} e => by
          by_cases hi : i = j
          · subst hi; rw [addB_same] at e; cases e; exact .inl ⟨rfl, rfl⟩
          · rw [addB_ne _ _ hi] at e; exact .inr ⟨hi, e⟩
        have mo2 : Mo b A G2 (addB b j q) A G2 := ⟨fun i p e => by rw [addB_ne _ _ (hbn i p e)]; exact e, fun _ e => e, fun _ _ => rfl⟩
        have getj : (⟨Tr.set H.tr (path j) (.cells (l.flatMap enc) .own), j + 1⟩ : AHeap).get j = some (.cells (l.flatMap enc) .own) := by simp [AHeap.get, Tr.get_set_same]
        have geti : ∀ i, i ≠ j → (⟨Tr.set H.tr (path j) (.cells (l.flatMap enc) .own), j + 1⟩ : AHeap).get i = H.get i := fun i hi => by simp [AHeap.get, Tr.get_set_ne _ _ _ _ (path_ne (Ne.symm hi))]
        refine ⟨addB b j q, A, _, ⟨Tr.set H.tr (path j) (.cells (l.flatMap enc) .own), j + 1⟩, ?_, ⟨⟨fun i p e => mo2.ext i p e, fun _ e => e, mo.keep⟩, nx, g2.by_, fun i p e => ?_⟩, .sl _ _ _ _ _ _ _ (addB_same ..), ?_, ?_, .inr ⟨j, ex, m1', by simp, rfl, getj⟩⟩
        · refine { dom := fun i p e => ?_, inj := fun i i' p e e' => ?_, hfre := fun i hi => ?_, gfre := g1.gfre, alt := fun p e => ⟨Nat.lt_of_lt_of_le (hH.alt p e).1 nx, (hH.alt p e).2⟩, blt := fun p e => Nat.lt_of_lt_of_le (hH.blt p e) nx, obj := fun i o g lv => ?_ }
          · rcases bj e with ⟨rfl, rfl⟩ | ⟨_, e⟩
            · exact ⟨by simp, hq2⟩
            · exact ⟨by have := (hH.dom _ _ e).1; simp; omega, Nat.lt_of_lt_of_le (hH.dom _ _ e).2 nx⟩
          · rcases bj e with ⟨h1, h2⟩ | ⟨_, e1⟩ <;> rcases bj e' with ⟨h3, h4⟩ | ⟨_, e2⟩
            · rw [h1, h3]
            · have := (hH.dom _ _ e2).2; omega
            · have := (hH.dom _ _ e1).2; omega
            · exact hH.inj _ _ _ e1 e2
          · simp at hi; rw [geti i (by omega)]; exact hH.hfre i (by omega)
          · by_cases hi : i = j
            · subst hi
              rw [getj] at g; cases g
              refine ⟨q, _, addB_same .., fun e => ?_, k3, k4, .cells _ _ _ (FVs.closed (closed_flat hc l))⟩
              have := (hH.alt _ e).1; omega
            · rw [geti i hi] at g
              obtain ⟨p, u, p1, p2, p3, p4, p5⟩ := hHG i o g lv
              exact ⟨p, u, by rw [addB_ne _ _ hi]; exact p1, p2, p3, p4, p5.mono mo2⟩
        · rcases bj e with ⟨rfl, rfl⟩ | ⟨_, e⟩
          · exact .inr hq
          · exact .inl e
        · simp; omega
        · intro i hi; exact geti i (by omega)

/-! a list in a block of its own, with room behind it -/
def Spr (H : AHeap) (v : AV) (j : Nat) (l : List Int) : Prop := ∃ post ex, v = .sl j 0 l.length (l.length + post.length) 1 ex ∧ H.get j = some (.cells (l.flatMap encI ++ post) .own) ∧ allCells post = true
theorem bnd_of {k y : Nat} (h : k ≤ y) : bnd (.int .i64 (k : Int)) y = some k := by
  have : Nat.ble k y = true := Nat.ble_eq_true_of_le h
  show (if Nat.ble k y then some k else none) = some k
  rw [this]; rfl
theorem slice3 {i off len cap a b m : Nat} {ex : Bool} (h1 : a ≤ b) (h2 : b ≤ m) (h3 : m ≤ cap) :
    opSlice 1 (.sl i off len cap 1 ex) (some (iv a)) (some (iv b)) (some (iv m)) = some (.sl i (off + a) (b - a) (m - a) 1 true) := by
  have hb : bounds len cap (some (iv a)) (some (iv b)) (some (iv m)) = some (a, b, m) := by
    delta bounds; simp only [bnd_of h3, bnd_of h2, bnd_of h1]
  simp [opSlice, hb, slOfO, slOf]
theorem slice_to {i off len cap b : Nat} {ex : Bool} (h : b ≤ cap) : opSlice 1 (.sl i off len cap 1 ex) none (some (iv b)) none = some (.sl i off b cap 1 ex) := by
  have hb : bounds len cap none (some (iv b)) none = some (0, b, cap) := by
    delta bounds; simp only [bnd_of h]
  simp [opSlice, hb, slOfO, slOf]
theorem slice_from {i off len cap a : Nat} {ex : Bool} (h : a ≤ len) : opSlice 1 (.sl i off len cap 1 ex) (some (iv a)) none none = some (.sl i (off + a) (len - a) (cap - a) 1 ex) := by
  have hb : bounds len cap (some (iv a)) none none = some (a, len, cap) := by
    delta bounds; simp only [bnd_of h]
  simp [opSlice, hb, slOfO, slOf]
theorem slice_mid {i off len cap a b : Nat} {ex : Bool} (h1 : a ≤ b) (h2 : b ≤ cap) : opSlice 1 (.sl i off len cap 1 ex) (some (iv a)) (some (iv b)) none = some (.sl i (off + a) (b - a) (cap - a) 1 ex) := by
  have hb : bounds len cap (some (iv a)) (some (iv b)) none = some (a, b, cap) := by
    delta bounds; simp only [bnd_of h2, bnd_of h1]
  simp [opSlice, hb, slOfO, slOf]
theorem flatI (l : List Int) : l.flatMap encI = l.map iv := by
  induction l with
  | nil => rfl
  | cons x l ih => simp only [List.flatMap_cons, ih, List.map_cons]; rfl
theorem allCells_append {a b : List AV} : allCells (a ++ b) = (allCells a && allCells b) := by
  induction a with
  | nil => rfl
  | cons v a ih => simp [allCells, ih, Bool.and_assoc]
theorem delete_does {H : AHeap} {v : AV} {j q : Nat} {l : List Int} (hs : Spr H v j l) (hq : q < l.length) (hn : l.length ≤ 1000000) {R : AV → AHeap → Prop}
    (h : ∀ v' H', H'.nx = H.nx → (∀ i, i ≠ j → H'.get i = H.get i) → Spr H' v' j (l.eraseIdx q) → R v' H') : CallV tbl f_slices_Delete_int_int [v, iv q, iv ((q + 1 : Nat) : Int)] H R := by
  obtain ⟨post, ex, rfl, hg, hpc⟩ := hs
  refine T.callW rfl ?_
  have ln : opLen false (.sl j 0 l.length (l.length + post.length) 1 ex) = some (iv l.length) := rfl
  have s1 := slice3 (i := j) (off := 0) (len := l.length) (cap := l.length + post.length) (ex := ex) (a := q) (b := q + 1) (m := l.length) (by omega) (by omega) (by omega)
  have s2 := slice_to (i := j) (off := 0) (len := l.length) (cap := l.length + post.length) (ex := ex) (b := q) (by omega)
  have s3 := slice_from (i := j) (off := 0) (len := l.length) (cap := l.length + post.length) (ex := ex) (a := q + 1) (by omega)
  have hlen : (l.flatMap encI).length = l.length := by rw [flatI, List.length_map]
  -- the rest goes down
  have hl := List.take_append_drop q l
  have hd : l.drop q = nth l q :: l.drop (q + 1) := drop_nth hq
  have hfc : firstCells H 1 (l.length - (q + 1)) (.sl j (0 + (q + 1)) (l.length - (q + 1)) (l.length + post.length - (q + 1)) 1 ex) = some ((l.drop (q + 1)).map iv) := by
    have hr : rangeOf (q + 1) (l.length - (q + 1)) (l.flatMap encI ++ post) = some ((l.drop (q + 1)).map iv) := by
      rw [rangeOf_iff]
      refine ⟨by rw [List.length_append, hlen]; omega, ?_⟩
      rw [List.drop_append_of_le_length (by omega), List.take_append_of_le_length (by rw [List.length_drop]; omega), flatI, ← List.map_drop, List.take_of_length_le (by simp)]
    have b : Nat.ble (l.length - (q + 1)) (l.length - (q + 1)) = true := Nat.ble_eq_true_of_le (Nat.le_refl _)
    simp [firstCells, b, AHeap.load, hg, hr]
  have her : l.eraseIdx q = l.take q ++ l.drop (q + 1) := List.eraseIdx_eq_take_drop_succ ..
  have hel : (l.eraseIdx q).length = l.length - 1 := List.length_eraseIdx_of_lt hq
  have hap : ∃ H1 c, appendOp 1 8 (.sl j 0 q (l.length + post.length) 1 ex) (.sl j (0 + (q + 1)) (l.length - (q + 1)) (l.length + post.length - (q + 1)) 1 ex) H = some (.sl j 0 (l.length - 1) (l.length + post.length) 1 ex, H1) ∧ H1.nx = H.nx ∧ (∀ i, i ≠ j → H1.get i = H.get i) ∧
      H1.get j = some (.cells ((l.eraseIdx q).map iv ++ ([c] ++ post)) .own) ∧ isCell c = true := by
    have ba : allCells ((l.drop (q + 1)).map iv) = true := by rw [← flatI]; exact allCells_flat (fun _ => rfl) _
    have bb : Nat.ble (q + (l.length - (q + 1))) (l.length + post.length) = true := Nat.ble_eq_true_of_le (by omega)
    by_cases hlast : q + 1 = l.length
    · have e0 : l.drop (q + 1) = [] := List.drop_eq_nil_of_le (by omega)
      refine ⟨H, iv (nth l q), ?_, rfl, fun _ _ => rfl, ?_, rfl⟩
      · rw [e0] at hfc ba
        simp only [appendOp, lenOf, hfc, ba, Nat.ble, Bool.and_self, if_true, appTo, Nat.beq_refl, bb, appIn, List.map_nil]
        rw [show q = l.length - 1 by omega]
        rfl
      · rw [hg, her, e0, List.append_nil]
        have hl2 : l = l.take q ++ [nth l q] := by rw [← e0, ← hd, hl]
        have : l.flatMap encI = (l.take q).map iv ++ [iv (nth l q)] := by rw [flatI]; conv => lhs; rw [hl2]
                                                                          simp
        rw [this]; simp
    · have hw : write (0 + q * 1) ((l.drop (q + 1)).map iv) (l.flatMap encI ++ post) = some ((l.eraseIdx q).map iv ++ ([iv (nth l (l.length - 1))] ++ post)) := by
        have hl3 : l.drop (l.length - 1) = [nth l (l.length - 1)] := by
          rw [drop_nth (by omega), List.drop_eq_nil_of_le (by omega)]
        rw [write_some _ _ _ (by rw [List.length_append, hlen, List.length_map, List.length_drop]; omega)]
        congr 1
        rw [her, flatI, List.take_append_of_le_length (by simp; omega), List.drop_append_of_le_length (by simp; omega), List.map_append, ← List.map_take, ← List.map_drop]
        have e1 : 0 + q * 1 = q := by omega
        have e2 : q + ((l.drop (q + 1)).map iv).length = l.length - 1 := by simp; omega
        rw [e1, e2, hl3]
        simp
      refine ⟨H.put j (.cells ((l.eraseIdx q).map iv ++ ([iv (nth l (l.length - 1))] ++ post)) .own), iv (nth l (l.length - 1)), ?_, rfl, fun i hi => get_put_ne _ _ _ _ (Ne.symm hi), get_put_same .., rfl⟩
      have hst := store_eq hg hw
      obtain ⟨y, r, hyr⟩ : ∃ y r, (l.drop (q + 1)).map iv = y :: r := by
        rw [drop_nth (by omega)]; exact ⟨_, _, rfl⟩
      rw [hyr] at hfc ba hst
      simp only [appendOp, lenOf, hfc, ba, Nat.ble, Bool.and_self, if_true, appTo, Nat.beq_refl, bb, appIn, hst]
      rw [show q + (l.length - (q + 1)) = l.length - 1 by omega]
  obtain ⟨H1, c, a1, a2, a3, a4, a5⟩ := hap
  have ln2 : opLen false (.sl j 0 (l.length - 1) (l.length + post.length) 1 ex) = some (iv ((l.length - 1 : Nat) : Int)) := rfl
  have s4 := slice_mid (i := j) (off := 0) (len := l.length - 1) (cap := l.length + post.length) (ex := ex) (a := l.length - 1) (b := l.length) (by omega) (by omega)
  have hcl : opClear [iv 0] (.sl j (0 + (l.length - 1)) (l.length - (l.length - 1)) (l.length + post.length - (l.length - 1)) 1 ex) H1 = some (.undef, H1.put j (.cells ((l.eraseIdx q).map iv ++ ([iv 0] ++ post)) .own)) := by
    have e1 : l.length - (l.length - 1) = 1 := by omega
    have hw : write (0 + (l.length - 1)) [iv 0] ((l.eraseIdx q).map iv ++ ([c] ++ post)) = some ((l.eraseIdx q).map iv ++ ([iv 0] ++ post)) := by
      rw [write_one (by simp; omega)]
      congr 1
      have e2 : 0 + (l.length - 1) = ((l.eraseIdx q).map iv).length := by simp [hel]
      rw [e2]
      exact set_mid _ _ _ _
    have hst := store_eq a4 hw
    simp only [opClear, e1, repl, List.append_nil, hst, retH]
    rfl
  simp only [Nat.zero_add] at a1 s4 hcl
  simp (disch := omega) only [c_slices_Delete_int_int, a24, go_sem, ↓reduceIte, Nat.reduceEqDiff, Nat.reduceAdd, ln, s1, s2, s3, dF, Bool.false_eq_true, a1, List.reverse_cons, List.reverse_nil, List.nil_append, true_and, ln2, s4, hcl]
  refine .same (h _ _ (by rw [nx_put, a2]) (fun i hi => by rw [get_put_ne _ _ _ _ (Ne.symm hi)]; exact a3 i hi) ⟨iv 0 :: post, ex, ?_, ?_, ?_⟩)
  · rw [hel]; congr 1; simp; omega
  · rw [get_put_same, flatI]; rfl
  · simp [allCells, hpc, isCell]

/-! slices.Backward -/
theorem backward_does {l : List Int} {H : AHeap} {R : AV → AHeap → Prop} (h : R (.fn f_slices_Backward_int_int_1 [] [.fp 0 [lstE 1 encI l]]) H) : CallV tbl f_slices_Backward_int_int [lstE 1 encI l] H R := by
  refine CallV.fresh fun hf => ?_
  refine T.callW rfl ?_
  have e1 : opBox (lstE 1 encI l) H = some (.ptr H.nx 0, lay [lstE 1 encI l] H) := rfl
  simp only [c_slices_Backward_int_int, a23, go_sem, ↓reduceIte, Nat.reduceEqDiff, Nat.reduceAdd, e1]
  refine Fin.reset hf (fun i hi => get_push_ne _ _ _ (by omega)) ?_ h
  exact .fn _ _ _ _ _ .nil (.cons _ _ _ _ (.ptr _ _ _ .own _ (Nat.le_refl _) (get_push_same ..) (Frzs.pure (by simp only [pureVs, pure_lstE pure_encI, Bool.and_self]))) .nil)
theorem back_loop {l : List Int} (hl : l.length ≤ 1000000) {y : Nat} {I : Nat → AHeap → Prop} (hI : ∀ i H, i < l.length → I (i + 1) H → YldV tbl y [iv i, iv (nth l i)] H fun r H' => r = .bool true ∧ I i H') {Q : AExit → Fr → AHeap → Prop} {k : List KI} : ∀ (m : Nat) (T : Fr) (H : AHeap), m ≤ l.length → I m H →
    gN T 0 = .yld y → gN T 1 = .fp 0 [lstE 1 encI l] → gN T 3 = iv ((m : Int) - 1) → (∀ T' H', I 0 H' → GoW tbl Q k (.exit 0) T' H') → GoS tbl (.code (.loop kc_slices_Backward_int_int_1_l0) :: k) .normal T H Q := by
  have l1 : ∀ H, opLoad (.fp 0 [lstE 1 encI l]) false 1 H = some (lstE 1 encI l, H) := fun H => by simp only [opLoad, rd1, mkValO, mkVal, ret, Bool.false_eq_true, if_false]
  intro m
  induction m with
  | zero =>
    intro T H hm hi t0 t1 t3 hk
    refine GoS.loopD (a' := c_slices_Backward_int_int_1_l0) rfl (GoW.sound ?_)
    simp (disch := omega) only [c_slices_Backward_int_int_1_l0, go_sem, ↓reduceIte, Nat.reduceEqDiff, Nat.reduceAdd, t3, dF, Bool.false_eq_true]
    exact hk _ _ hi
  | succ m ih =>
    intro T H hm hi t0 t1 t3 hk
    have e3 : ((m + 1 : Nat) : Int) - 1 = (m : Int) := by omega
    rw [e3] at t3
    refine GoS.loopD (a' := c_slices_Backward_int_int_1_l0) rfl (GoW.sound ?_)
    simp (disch := omega) only [c_slices_Backward_int_int_1_l0, go_sem, ↓reduceIte, Nat.reduceEqDiff, Nat.reduceAdd, t0, t1, t3, dT, l1]
    refine GoS.yld (i := y) (by simp only [go_sem, ↓reduceIte, Nat.reduceEqDiff, t0]) ?_
    simp only [go_sem, ↓reduceIte, Nat.reduceEqDiff, t0]
    refine (hI m H (by omega) hi).mono ?_
    rintro _ H' ⟨rfl, hi'⟩
    refine GoW.sound ?_
    simp (disch := (first | omega | (unfold InR; omega))) only [go_sem, ↓reduceIte, Nat.reduceEqDiff, Nat.reduceAdd, t0, t1, t3, Bool.not_true, Bool.false_eq_true]
    refine ih _ H' (by omega) hi' ?_ ?_ ?_ hk
    all_goals simp only [go_sem, ↓reduceIte, Nat.reduceEqDiff, t0, t1]
theorem back_does {l : List Int} (hl : l.length ≤ 1000000) {y : Nat} {I : Nat → AHeap → Prop} (hI : ∀ i H, i < l.length → I (i + 1) H → YldV tbl y [iv i, iv (nth l i)] H fun r H' => r = .bool true ∧ I i H') {H : AHeap} (hi : I l.length H) {R : AV → AHeap → Prop} (h : ∀ r H', I 0 H' → R r H') :
    CallV tbl f_slices_Backward_int_int_1 [.yld y, .fp 0 [lstE 1 encI l]] H R := by
  have l1 : ∀ H, opLoad (.fp 0 [lstE 1 encI l]) false 1 H = some (lstE 1 encI l, H) := fun H => by simp only [opLoad, rd1, mkValO, mkVal, ret, Bool.false_eq_true, if_false]
  refine T.callW rfl ?_
  simp (disch := (first | omega | (unfold InR; omega))) only [c_slices_Backward_int_int_1, a42, go_sem, ↓reduceIte, Nat.reduceEqDiff, Nat.reduceAdd, l1]
  refine back_loop hl hI l.length _ H (Nat.le_refl _) hi ?_ ?_ ?_ fun T' H' hi' => ?_
  · simp only [go_sem, ↓reduceIte, Nat.reduceEqDiff]
  · simp only [go_sem, ↓reduceIte, Nat.reduceEqDiff]
  · simp only [go_sem, ↓reduceIte, Nat.reduceEqDiff]
  · simp only [go_sem, ↓reduceIte]
    exact .same (h _ _ hi')
end Go.AM.T
/- merge.Settle: what is taken out. -/
namespace Go.AM.T
open Go Go.AM
/-- one place is taken out: what is left, and the sum -/
def out1 (p : Int) (s : List Int × Int) : List Int × Int := (s.1.eraseIdx p.toNat, s.2 + nth s.1 p.toNat)
def outS (l : List Int) (ps : List Int) : List Int × Int := ps.foldr out1 (l, 0)
structure SetI (H1 : AHeap) (y b4 b7 jl : Nat) (T : Fr) (l ps : List Int) (i : Nat) (H : AHeap) : Prop where
  nx : H.nx = H1.nx
  lp : H.get y = some (.loop { st := .ready, pend := none, T := T, ps := [p21, p22], assign := .region [o (some p9) (.mov x22)], body := kc_merge_Settle_l1 })
  c4 : ∃ v, H.get b4 = some (.cells [v] .own) ∧ Spr H v jl (outS l (ps.drop i)).1
  c7 : H.get b7 = some (.cells [iv (outS l (ps.drop i)).2] .own)
  other : ∀ k, k ≠ y → k ≠ b4 → k ≠ b7 → k ≠ jl → H.get k = H1.get k
theorem cell_load {H : AHeap} {b : Nat} {v : AV} {st : BSt} (h : H.get b = some (.cells [v] st)) : opLoad (.ptr b 0) false 1 H = some (v, H) := load_arr h rfl
theorem cell_store {H : AHeap} {b : Nat} {v w : AV} (h : H.get b = some (.cells [v] .own)) (hv : cellsOf w = some [w]) (hi : isCell w = true) : opStore (.ptr b 0) w 1 H = some (.undef, H.put b (.cells [w] .own)) := store_arr h (by simp) hv hi
theorem spr_cell {H : AHeap} {v : AV} {j : Nat} {l : List Int} (h : Spr H v j l) : cellsOf v = some [v] ∧ isCell v = true := by
  obtain ⟨post, ex, rfl, _⟩ := h; exact ⟨rfl, rfl⟩
theorem spr_idx {H : AHeap} {v : AV} {j : Nat} {l : List Int} (h : Spr H v j l) {q : Int} (h0 : 0 ≤ q) (h1 : q < l.length) : opIaddrS 1 v (.int .i64 q) = some (.ptr j q.toNat) ∧ opLoad (.ptr j q.toNat) false 1 H = some (iv (nth l q.toNat), H) := by
  obtain ⟨post, ex, rfl, hg, _⟩ := h
  constructor
  · have := idx_sl (es := 1) (i := j) (off := 0) (len := l.length) (cap := l.length + post.length) (ex := ex) h0 h1
    simpa using this
  · refine load_arr hg ?_
    rw [flatI, List.getElem?_append_left (by simp; omega), List.getElem?_map, nth_get (by omega)]
    rfl
theorem Spr.keep {H H' : AHeap} {v : AV} {j : Nat} {l : List Int} (h : Spr H v j l) (hg : H'.get j = H.get j) : Spr H' v j l := by
  obtain ⟨post, ex, h1, h2, h3⟩ := h; exact ⟨post, ex, h1, hg.trans h2, h3⟩

theorem settle_yld {H1 : AHeap} {y b4 b7 jl : Nat} {T : Fr} {l ps : List Int} (hd : y ≠ b4 ∧ y ≠ b7 ∧ y ≠ jl ∧ b4 ≠ b7 ∧ b4 ≠ jl ∧ b7 ≠ jl) (t4 : gN T 4 = .ptr b4 0) (t7 : gN T 7 = .ptr b7 0) (hl : l.length ≤ 1000000)
    {i : Nat} (hi : i < ps.length) (hb : 0 ≤ nth ps i ∧ nth ps i < (outS l (ps.drop (i + 1))).1.length) (hlen : (outS l (ps.drop (i + 1))).1.length ≤ 1000000) (hs : InR ((outS l (ps.drop (i + 1))).2 + nth (outS l (ps.drop (i + 1))).1 (nth ps i).toNat)) {H : AHeap} (hI : SetI H1 y b4 b7 jl T l ps (i + 1) H) :
    YldV tbl y [iv i, iv (nth ps i)] H fun r H' => r = .bool true ∧ SetI H1 y b4 b7 jl T l ps i H' := by
  obtain ⟨d1, d2, d3, d4, d5, d6⟩ := hd
  have hdr : ps.drop i = nth ps i :: ps.drop (i + 1) := drop_nth hi
  have ho : outS l (ps.drop i) = out1 (nth ps i) (outS l (ps.drop (i + 1))) := by rw [hdr]; rfl
  generalize hS : outS l (ps.drop (i + 1)) = S at hb hlen hs ho
  obtain ⟨v, h4, hsp⟩ := hI.c4
  have h7 := hI.c7
  rw [hS] at hsp h7
  generalize nth ps i = p at hb hs ho
  refine yld_ofV hI.lp (T1 := sN (sN T 21 (iv i)) 22 (iv p)) rfl (GoW.sound ?_)
  simp only [go_sem, ↓reduceIte, Nat.reduceEqDiff, true_and]
  refine ⟨_, hI.lp, rfl, GoW.sound ?_⟩
  -- the body
  generalize hB : AObj.loop { st := .busy, pend := none, T := T, ps := [p21, p22], assign := .region [o (some p9) (.mov x22)], body := kc_merge_Settle_l1 } = busy
  have g4 : (H.put y busy).get b4 = some (.cells [v] .own) := by rw [get_put_ne _ _ _ _ d1]; exact h4
  have g7 : (H.put y busy).get b7 = some (.cells [iv S.2] .own) := by rw [get_put_ne _ _ _ _ d2]; exact h7
  have gs : Spr (H.put y busy) v jl S.1 := hsp.keep (get_put_ne _ _ _ _ d3)
  have e7 := cell_load g7
  have e4 := cell_load g4
  obtain ⟨ei, el⟩ := spr_idx gs hb.1 hb.2
  have ea : bin .add (iv S.2) (iv (nth S.1 p.toNat)) = some (iv (S.2 + nth S.1 p.toNat)) := bin_add hs
  have es := cell_store g7 (w := iv (S.2 + nth S.1 p.toNat)) rfl rfl
  generalize hH2 : (H.put y busy).put b7 (.cells [iv (S.2 + nth S.1 p.toNat)] .own) = H2 at es
  have k4 : H2.get b4 = some (.cells [v] .own) := by rw [← hH2, get_put_ne _ _ _ _ (Ne.symm d4)]; exact g4
  have ks : Spr H2 v jl S.1 := gs.keep (by rw [← hH2, get_put_ne _ _ _ _ d6])
  have e4' := cell_load k4
  have hpc : ((p + 1 : Int)) = ((p.toNat + 1 : Nat) : Int) := by omega
  have hpp : p = ((p.toNat : Nat) : Int) := by omega
  simp (disch := (first | omega | (unfold InR; omega))) only [kc_merge_Settle_l1, c_merge_Settle_l1, go_sem, ↓reduceIte, Nat.reduceEqDiff, Nat.reduceAdd, t4, t7, e7, e4, ei, el, ea, es, e4', true_and]
  refine GoS.call ?_
  simp only [go_sem, ↓reduceIte, Nat.reduceEqDiff]
  rw [hpc]
  have key := delete_does ks (q := p.toNat) (by omega) hlen (R := fun v' H' => H'.nx = H2.nx ∧ (∀ i, i ≠ jl → H'.get i = H2.get i) ∧ Spr H' v' jl (S.1.eraseIdx p.toNat)) fun v' H' a1 a2 a3 => ⟨a1, a2, a3⟩
  rw [← hpp] at key
  refine key.mono ?_
  rintro v' H3 ⟨a1, a2, a3⟩
  refine GoW.sound ?_
  have k4' : H3.get b4 = some (.cells [v] .own) := by rw [a2 b4 d5]; exact k4
  obtain ⟨c1, c2⟩ := spr_cell a3
  have es4 := cell_store k4' c1 c2
  simp only [go_sem, ↓reduceIte, Nat.reduceEqDiff, t4, es4]
  have ly : (H3.put b4 (.cells [v'] .own)).get y = some busy := by
    rw [get_put_ne _ _ _ _ (Ne.symm d1), a2 y d3, ← hH2, get_put_ne _ _ _ _ (Ne.symm d2), get_put_same]
  refine ⟨{ st := .busy, pend := none, T := T, ps := [p21, p22], assign := .region [o (some p9) (.mov x22)], body := kc_merge_Settle_l1 }, by rw [ly, ← hB], fun _ => ?_, fun e => absurd rfl e⟩
  refine { nx := ?_, lp := get_put_same .., c4 := ⟨v', ?_, ?_⟩, c7 := ?_, other := fun k k1 k2 k3 k5 => ?_ }
  · rw [nx_put, nx_put, a1, ← hH2, nx_put, nx_put]; exact hI.nx
  · rw [get_put_ne _ _ _ _ d1, get_put_same]
  · rw [ho]
    exact a3.keep (by rw [get_put_ne _ _ _ _ d3, get_put_ne _ _ _ _ d5])
  · rw [get_put_ne _ _ _ _ d2, get_put_ne _ _ _ _ d4, a2 b7 d6, ← hH2, get_put_same, ho]
    rfl
  · rw [get_put_ne _ _ _ _ (Ne.symm k1), get_put_ne _ _ _ _ (Ne.symm k2), a2 k k5, ← hH2, get_put_ne _ _ _ _ (Ne.symm k3), get_put_ne _ _ _ _ (Ne.symm k1)]
    exact hI.other k k1 k2 k3 k5
end Go.AM.T
/- Plain law: what Pick and Settle say. -/
namespace Go.AM.T
theorem tot_perm (counts : List Int) {a b : List Int} (h : a.Perm b) : tot counts a = tot counts b := by
  induction h with
  | nil => rfl
  | cons x _ ih => simp only [tot, ih]
  | swap x y l => simp only [tot]; omega
  | trans _ _ h1 h2 => exact h1.trans h2
theorem idx_asc (counts : List Int) (c : Nat) : ∀ k, (idx counts c k).Pairwise (· < ·) := by
  intro k
  induction k with
  | zero => exact .nil
  | succ k ih =>
    unfold idx
    split
    · rw [List.pairwise_append]
      refine ⟨ih, List.pairwise_singleton .., fun x hx y hy => ?_⟩
      rw [List.mem_singleton] at hy; subst hy
      exact (idx_mem hx).2.1
    · exact ih
theorem asc_ne {l : List Int} (h : l.Pairwise (· < ·)) : l.Pairwise (· ≠ ·) := h.imp fun {a b} h => by omega
theorem four_ne (counts : List Int) (c : Nat) : (four counts c).Pairwise (· ≠ ·) := by
  have h := (sortS_stab (swo_key (key counts)) (idx counts c counts.length)).fil.perm
  have h2 : (sortS (ltK counts) (idx counts c counts.length)).Pairwise (· ≠ ·) := (h.pairwise_iff (fun {a b} h => Ne.symm h)).2 (asc_ne (idx_asc counts c _))
  exact h2.sublist (List.take_sublist _ _)
theorem swo_I : Swo ltI := swo_key (fun x => x)
theorem sort_asc {l : List Int} (h : l.Pairwise (· ≠ ·)) : (sortS ltI l).Pairwise (· < ·) := by
  have hs := sortS_stab swo_I l
  have h2 : (sortS ltI l).Pairwise (· ≠ ·) := (hs.fil.perm.pairwise_iff (fun {a b} h => Ne.symm h)).2 h
  have h3 : (sortS ltI l).Pairwise (fun x y => ltI y x = false) := hs.srt
  refine (h2.and h3).imp fun {a b} h => ?_
  have h4 := h.2
  simp only [ltI, decide_eq_false_iff_not] at h4
  have := h.1; omega
structure PickOk (counts ps : List Int) : Prop where
  asc : ps.Pairwise (· < ·)
  len : ps.length = 4
  mem : ∀ p, p ∈ ps → 0 ≤ p ∧ p < counts.length
  sum : tot counts ps ≤ 4096
  one : ∃ c : Nat, ∀ p, p ∈ ps → cls (nth counts p.toNat) = c
theorem pickC_ok {counts : List Int} {c : Nat} {ps : List Int} (h : pickC counts c = some ps) : PickOk counts ps := by
  unfold pickC at h
  split at h <;> first | (cases h; done) | skip
  rename_i h4
  split at h <;> cases h
  rename_i hs
  have hl : (four counts c).length = 4 := by unfold four ltK; rw [List.length_take, sortS_len (swo_key (key counts))]; omega
  have hp := (sortS_stab swo_I (four counts c)).fil.perm
  refine ⟨sort_asc (four_ne counts c), by rw [sortS_len swo_I, hl], fun p hp' => ?_, by rw [tot_perm counts hp]; omega, c, fun p hp' => ?_⟩
  · have := idx_mem (four_mem (hp.mem_iff.1 hp')); exact ⟨this.1, this.2.1⟩
  · exact (idx_mem (four_mem (hp.mem_iff.1 hp'))).2.2
theorem pickF_ok {counts : List Int} : ∀ (m c : Nat), pickF counts m c = [] ∨ PickOk counts (pickF counts m c) := by
  intro m
  induction m with
  | zero => intro c; exact .inl rfl
  | succ m ih =>
    intro c
    rw [pickF]
    cases h : pickC counts c with
    | none => exact ih (c + 1)
    | some l => exact .inr (pickC_ok h)
theorem pickM_ok (counts : List Int) : pickM counts = [] ∨ PickOk counts (pickM counts) := pickF_ok 5 0

theorem asc_room {n : Int} : ∀ {p : Int} {r : List Int}, (p :: r).Pairwise (· < ·) → (∀ x, x ∈ p :: r → x < n) → p + r.length < n := by
  intro p r
  induction r generalizing p with
  | nil => intro _ h; have := h p (by simp); simpa using this
  | cons q r ih =>
    intro h hn
    obtain ⟨h1, h2⟩ := List.pairwise_cons.1 h
    have := ih h2 fun x hx => hn x (by simp [hx])
    have := h1 q (by simp)
    simp only [List.length_cons]; omega
/-- a list's sum -/
def suml : List Int → Int
  | [] => 0
  | x :: l => x + suml l
theorem suml_append (a b : List Int) : suml (a ++ b) = suml a + suml b := by
  induction a with
  | nil => simp [suml]
  | cons x a ih => simp only [List.cons_append, suml, ih]; omega
theorem suml_erase : ∀ {l : List Int} {k : Nat}, k < l.length → suml (l.eraseIdx k) = suml l - nth l k := by
  intro l
  induction l with
  | nil => intro k h; simp at h
  | cons x l ih =>
    intro k h
    cases k with
    | zero => simp [suml, nth]; omega
    | succ k =>
      have := ih (k := k) (by simpa using h)
      simp only [List.eraseIdx_cons_succ, suml, this]
      have : nth (x :: l) (k + 1) = nth l k := rfl
      rw [this]; omega
structure OutOk (l ps : List Int) (s : List Int × Int) : Prop where
  len : s.1.length + ps.length = l.length
  sum : s.2 = tot l ps
  low : ∀ k : Nat, (∀ p, p ∈ ps → (k : Int) < p) → nth s.1 k = nth l k
  mem : ∀ x, x ∈ s.1 → x ∈ l
  all : suml s.1 = suml l - tot l ps
theorem outS_ok {l : List Int} : ∀ {ps : List Int}, ps.Pairwise (· < ·) → (∀ p, p ∈ ps → 0 ≤ p ∧ p < l.length) → OutOk l ps (outS l ps) := by
  intro ps
  induction ps with
  | nil => intro _ _; exact ⟨by simp [outS], rfl, fun _ _ => rfl, fun _ h => h, by simp [outS, tot]⟩
  | cons p r ih =>
    intro h hm
    obtain ⟨h1, h2⟩ := List.pairwise_cons.1 h
    have hi := ih h2 fun x hx => hm x (by simp [hx])
    have hp := hm p (by simp)
    have hroom := asc_room h fun x hx => (hm x hx).2
    have e : outS l (p :: r) = out1 p (outS l r) := rfl
    rw [e]
    have hlt : p.toNat < (outS l r).1.length := by have := hi.len; omega
    have hlow := hi.low p.toNat fun q hq => by have := h1 q hq; omega
    refine ⟨?_, ?_, fun k hk => ?_, fun x hx => ?_, ?_⟩
    · have := hi.len
      simp only [out1, List.length_eraseIdx_of_lt hlt, List.length_cons]; omega
    · simp only [out1, hi.sum, hlow, tot, key]; omega
    · have hkp := hk p (by simp)
      rw [← hi.low k fun q hq => hk q (by simp [hq])]
      simp only [out1, nth, List.getD_eq_getElem?_getD]
      rw [List.getElem?_eraseIdx_of_lt (by omega)]
    · exact hi.mem x (List.mem_of_mem_eraseIdx hx)
    · have := hi.all
      simp only [out1, suml_erase hlt, hlow, tot, key]; omega
end Go.AM.T
/- Plain law: the least places of a class, one after the other. -/
namespace Go.AM.T
def Lex (counts : List Int) (x y : Int) : Prop := key counts x < key counts y ∨ (key counts x = key counts y ∧ x < y)
theorem insS_mem {lt : Int → Int → Bool} {x y : Int} : ∀ {S : List Int}, y ∈ insS lt x S ↔ y = x ∨ y ∈ S := by
  intro S
  induction S with
  | nil => simp [insS]
  | cons z S ih =>
    unfold insS
    split
    · simp only [List.mem_cons, ih]
      constructor
      · rintro (h | h | h) <;> simp [h]
      · rintro (h | h | h) <;> simp [h]
    · simp
theorem insS_lex {counts : List Int} {x : Int} : ∀ {S : List Int}, S.Pairwise (Lex counts) → (∀ y, y ∈ S → x < y) → (insS (ltK counts) x S).Pairwise (Lex counts) := by
  intro S
  induction S with
  | nil => intro _ _; exact List.pairwise_singleton ..
  | cons z S ih =>
    intro h hx
    obtain ⟨h1, h2⟩ := List.pairwise_cons.1 h
    unfold insS
    split
    · rename_i hz
      simp only [ltK, decide_eq_true_eq] at hz
      refine List.pairwise_cons.2 ⟨fun y hy => ?_, ih h2 fun y hy => hx y (by simp [hy])⟩
      rcases insS_mem.1 hy with rfl | hy
      · exact .inl hz
      · exact h1 y hy
    · rename_i hz
      simp only [ltK, decide_eq_true_eq] at hz
      have hxz : Lex counts x z := by
        have := hx z (by simp)
        unfold Lex; omega
      refine List.pairwise_cons.2 ⟨fun y hy => ?_, h⟩
      rcases List.mem_cons.1 hy with rfl | hy
      · exact hxz
      · have h3 := h1 y hy
        unfold Lex at *; omega
theorem sortS_lex {counts : List Int} : ∀ {l : List Int}, l.Pairwise (· < ·) → (sortS (ltK counts) l).Pairwise (Lex counts) := by
  intro l
  induction l with
  | nil => intro _; exact .nil
  | cons x l ih =>
    intro h
    obtain ⟨h1, h2⟩ := List.pairwise_cons.1 h
    refine insS_lex (ih h2) fun y hy => h1 y ?_
    exact (sortS_stab (swo_key (key counts)) l).fil.mem.1 hy

/-- the best place among the first k -/
def bst (counts : List Int) (c : Nat) (out : List Int) : Nat → Int
  | 0 => -1
  | k + 1 => if cls (nth counts k) = c ∧ (k : Int) ∉ out ∧ (bst counts c out k < 0 ∨ nth counts k < nth counts (bst counts c out k).toNat) then k else bst counts c out k
theorem bst_ok (counts : List Int) (c : Nat) (out : List Int) : ∀ k, (bst counts c out k = -1 ∧ ∀ x, x ∈ idx counts c k → x ∈ out) ∨
    (bst counts c out k ∈ idx counts c k ∧ bst counts c out k ∉ out ∧ ∀ y, y ∈ idx counts c k → y ∉ out → key counts (bst counts c out k) < key counts y ∨ (key counts (bst counts c out k) = key counts y ∧ bst counts c out k ≤ y)) := by
  intro k
  induction k with
  | zero => exact .inl ⟨rfl, fun x h => by cases h⟩
  | succ k ih =>
    by_cases hc : cls (nth counts k) = c
    · have hi : idx counts c (k + 1) = idx counts c k ++ [(k : Int)] := by rw [idx, if_pos hc]
      by_cases ho : (k : Int) ∈ out
      · have hb : bst counts c out (k + 1) = bst counts c out k := by rw [bst, if_neg]; exact fun h => h.2.1 ho
        rw [hb, hi]
        rcases ih with ⟨h1, h2⟩ | ⟨h1, h2, h3⟩
        · refine .inl ⟨h1, fun x hx => ?_⟩
          rcases List.mem_append.1 hx with hx | hx
          · exact h2 x hx
          · rw [List.mem_singleton] at hx; rw [hx]; exact ho
        · refine .inr ⟨List.mem_append_left _ h1, h2, fun y hy hyo => ?_⟩
          rcases List.mem_append.1 hy with hy | hy
          · exact h3 y hy hyo
          · rw [List.mem_singleton] at hy; subst hy; exact absurd ho hyo
      · have kk : key counts (k : Int) = nth counts k := rfl
        rcases ih with ⟨h1, h2⟩ | ⟨h1, h2, h3⟩
        · have hb : bst counts c out (k + 1) = k := by rw [bst, if_pos]; exact ⟨hc, ho, .inl (by omega)⟩
          rw [hb, hi]
          refine .inr ⟨by simp, ho, fun y hy hyo => ?_⟩
          rcases List.mem_append.1 hy with hy | hy
          · exact absurd (h2 y hy) hyo
          · rw [List.mem_singleton] at hy; subst hy; exact .inr ⟨rfl, Int.le_refl _⟩
        · have hm := idx_mem h1
          by_cases hlt : nth counts k < nth counts (bst counts c out k).toNat
          · have hb : bst counts c out (k + 1) = k := by rw [bst, if_pos]; exact ⟨hc, ho, .inr hlt⟩
            rw [hb, hi]
            refine .inr ⟨by simp, ho, fun y hy hyo => ?_⟩
            rcases List.mem_append.1 hy with hy | hy
            · have := h3 y hy hyo
              have kb : key counts (bst counts c out k) = nth counts (bst counts c out k).toNat := rfl
              left; omega
            · rw [List.mem_singleton] at hy; subst hy; exact .inr ⟨rfl, Int.le_refl _⟩
          · have hb : bst counts c out (k + 1) = bst counts c out k := by
              rw [bst, if_neg]
              rintro ⟨_, _, h | h⟩
              · omega
              · exact hlt h
            rw [hb, hi]
            refine .inr ⟨List.mem_append_left _ h1, h2, fun y hy hyo => ?_⟩
            rcases List.mem_append.1 hy with hy | hy
            · exact h3 y hy hyo
            · rw [List.mem_singleton] at hy; subst hy
              have kb : key counts (bst counts c out k) = nth counts (bst counts c out k).toNat := rfl
              omega
    · have hi : idx counts c (k + 1) = idx counts c k := by rw [idx, if_neg hc]
      have hb : bst counts c out (k + 1) = bst counts c out k := by rw [bst, if_neg]; exact fun h => hc h.1
      rw [hb, hi]; exact ih
/-- the class in the order of counts and places -/
def srt (counts : List Int) (c : Nat) : List Int := sortS (ltK counts) (idx counts c counts.length)
theorem srt_mem {counts : List Int} {c : Nat} {x : Int} : x ∈ srt counts c ↔ x ∈ idx counts c counts.length := (sortS_stab (swo_key (key counts)) _).fil.mem
theorem srt_len (counts : List Int) (c : Nat) : (srt counts c).length = (idx counts c counts.length).length := sortS_len (swo_key (key counts)) _
theorem srt_lex (counts : List Int) (c : Nat) : (srt counts c).Pairwise (Lex counts) := sortS_lex (idx_asc counts c _)
theorem lex_irr {counts : List Int} {x : Int} : ¬ Lex counts x x := by unfold Lex; omega
theorem bst_none {counts : List Int} {c j : Nat} (h : (srt counts c).length ≤ j) : bst counts c ((srt counts c).take j) counts.length = -1 := by
  rcases bst_ok counts c ((srt counts c).take j) counts.length with h1 | ⟨h1, h2, _⟩
  · exact h1.1
  · rw [List.take_of_length_le h] at h2
    exact absurd (srt_mem.2 h1) (by rw [List.take_of_length_le h]; exact h2)
theorem bst_next {counts : List Int} {c j : Nat} (h : j < (srt counts c).length) : bst counts c ((srt counts c).take j) counts.length = nth (srt counts c) j := by
  have hS := srt_lex counts c
  have hd := drop_nth h
  have ht := List.take_append_drop j (srt counts c)
  have hp := hS
  rw [← ht, List.pairwise_append] at hp
  obtain ⟨_, p2, p3⟩ := hp
  rw [hd] at p2 p3
  have hin : nth (srt counts c) j ∈ srt counts c := List.mem_of_getElem? (nth_get h)
  have hno : nth (srt counts c) j ∉ (srt counts c).take j := fun hm => lex_irr (p3 _ hm _ (by simp))
  rcases bst_ok counts c ((srt counts c).take j) counts.length with h1 | ⟨h1, h2, h3⟩
  · exact absurd (h1.2 _ (srt_mem.1 hin)) hno
  · have h4 := h3 _ (srt_mem.1 hin) hno
    have h5 := srt_mem.2 h1
    generalize bst counts c ((srt counts c).take j) counts.length = v at *
    rw [← ht, hd] at h5
    rcases List.mem_append.1 h5 with h5 | h5
    · exact absurd h5 h2
    · rcases List.mem_cons.1 h5 with h5 | h5
      · exact h5
      · have := (List.pairwise_cons.1 p2).1 _ h5
        unfold Lex at this; omega
theorem asc_unique : ∀ {a b : List Int}, a.Pairwise (· < ·) → b.Pairwise (· < ·) → (∀ x, x ∈ a ↔ x ∈ b) → a = b := by
  intro a
  induction a with
  | nil =>
    intro b _ _ h
    cases b with
    | nil => rfl
    | cons y b => exact absurd ((h y).2 (by simp)) (by simp)
  | cons x a ih =>
    intro b ha hb h
    cases b with
    | nil => exact absurd ((h x).1 (by simp)) (by simp)
    | cons y b =>
      obtain ⟨a1, a2⟩ := List.pairwise_cons.1 ha
      obtain ⟨b1, b2⟩ := List.pairwise_cons.1 hb
      have e : x = y := by
        rcases List.mem_cons.1 ((h x).1 (by simp)) with h1 | h1
        · exact h1
        · rcases List.mem_cons.1 ((h y).2 (by simp)) with h2 | h2
          · exact h2.symm
          · have := a1 y h2; have := b1 x h1; omega
      subst e
      rw [ih a2 b2 fun z => ?_]
      constructor
      · intro hz
        rcases List.mem_cons.1 ((h z).1 (by simp [hz])) with h1 | h1
        · subst h1; exact absurd (a1 z hz) (by omega)
        · exact h1
      · intro hz
        rcases List.mem_cons.1 ((h z).2 (by simp [hz])) with h1 | h1
        · subst h1; exact absurd (b1 z hz) (by omega)
        · exact h1
/-- the places below k that stand in out -/
def upto (out : List Int) : Nat → List Int
  | 0 => []
  | k + 1 => if (k : Int) ∈ out then upto out k ++ [(k : Int)] else upto out k
theorem upto_mem {out : List Int} {x : Int} : ∀ {k : Nat}, x ∈ upto out k ↔ x ∈ out ∧ 0 ≤ x ∧ x < k := by
  intro k
  induction k with
  | zero => simp [upto]
  | succ k ih =>
    unfold upto
    split
    · rename_i h
      rw [List.mem_append, ih, List.mem_singleton]
      constructor
      · rintro (h1 | h1)
        · exact ⟨h1.1, h1.2.1, by omega⟩
        · subst h1; exact ⟨h, by omega, by omega⟩
      · rintro ⟨h1, h2, h3⟩
        by_cases e : x = k
        · exact .inr e
        · exact .inl ⟨h1, h2, by omega⟩
    · rename_i h
      rw [ih]
      constructor
      · rintro ⟨h1, h2, h3⟩; exact ⟨h1, h2, by omega⟩
      · rintro ⟨h1, h2, h3⟩
        refine ⟨h1, h2, ?_⟩
        have : x ≠ k := fun e => h (by rw [← e]; exact h1)
        omega
theorem upto_asc {out : List Int} : ∀ k, (upto out k).Pairwise (· < ·) := by
  intro k
  induction k with
  | zero => exact .nil
  | succ k ih =>
    unfold upto
    split
    · rw [List.pairwise_append]
      refine ⟨ih, List.pairwise_singleton .., fun x hx y hy => ?_⟩
      rw [List.mem_singleton] at hy; subst hy
      exact (upto_mem.1 hx).2.2
    · exact ih
theorem upto_four (counts : List Int) (c : Nat) : upto (four counts c) counts.length = sortS ltI (four counts c) := by
  refine asc_unique (upto_asc _) (sort_asc (four_ne counts c)) fun x => ?_
  rw [upto_mem, (sortS_stab swo_I (four counts c)).fil.mem]
  constructor
  · exact fun h => h.1
  · intro h
    have := idx_mem (four_mem h)
    exact ⟨h, this.1, this.2.1⟩
end Go.AM.T
/- merge.Settle. -/
namespace Go.AM.T
open Go Go.AM
def next (l ps : List Int) : List Int := (outS l ps).1 ++ [(outS l ps).2]
def settleF : Nat → List Int → Int → List Int × Int
  | 0, l, m => (l, m)
  | f + 1, l, m => if (pickM l).length = 0 then (l, m) else settleF f (next l (pickM l)) (m + (outS l (pickM l)).2)
def settleM (l : List Int) : List Int × Int := settleF l.length l 0
theorem next_len {l : List Int} (h : (pickM l).length ≠ 0) : (next l (pickM l)).length + 3 = l.length := by
  rcases pickM_ok l with e | ok
  · rw [e] at h; exact absurd rfl h
  · have := (outS_ok ok.asc ok.mem).len
    have := ok.len
    simp only [next, List.length_append, List.length_cons, List.length_nil]; omega
theorem settleF_more : ∀ (f : Nat) {l : List Int} {m : Int}, l.length ≤ f → settleF f l m = settleF l.length l m := by
  have key : ∀ (f g : Nat) (l : List Int) (m : Int), l.length ≤ f → l.length ≤ g → settleF f l m = settleF g l m := by
    intro f
    induction f with
    | zero =>
      intro g l m hf _
      have hl : l = [] := List.length_eq_zero_iff.1 (by omega)
      subst hl
      have hp : (pickM []).length = 0 := by
        rcases pickM_ok [] with e | ok
        · rw [e]; rfl
        · cases hq : pickM [] with
          | nil => rfl
          | cons p r => have := ok.mem p (by rw [hq]; simp); simp at this; omega
      cases g with
      | zero => rfl
      | succ g => simp only [settleF, hp, if_true]
    | succ f ih =>
      intro g l m hf hg
      cases g with
      | zero =>
        have hl : l = [] := List.length_eq_zero_iff.1 (by omega)
        subst hl
        have hp : (pickM []).length = 0 := by
          rcases pickM_ok [] with e | ok
          · rw [e]; rfl
          · cases hq : pickM [] with
            | nil => rfl
            | cons p r => have := ok.mem p (by rw [hq]; simp); simp at this; omega
        simp only [settleF, hp, if_true]
      | succ g =>
        simp only [settleF]
        split
        · rfl
        · rename_i hp
          have := next_len hp
          exact ih g _ _ (by omega) (by omega)
  intro f l m h
  exact key f l.length l m h (Nat.le_refl _)

theorem spr_append {H : AHeap} {v : AV} {j : Nat} {l : List Int} (h : Spr H v j l) (hj : j < H.nx) (hn : l.length ≤ 1000000) {x : Int} {k : Nat} (hk : H.get k = some (.cells [iv x] .own)) :
    ∃ v' H' j', appendOp 1 8 v (.sl k 0 1 1 1 true) H = some (v', H') ∧ Spr H' v' j' (l ++ [x]) ∧ H.nx ≤ H'.nx ∧ (j' = j ∨ j' = H.nx) ∧ j' < H'.nx ∧ ∀ i, i < H.nx → i ≠ j → H'.get i = H.get i := by
  obtain ⟨post, ex, rfl, hg, hpc⟩ := h
  obtain ⟨o1, o2⟩ := one_cells (es := 1) (enc := encI) (x := x) hk rfl
  have hlen : (l.flatMap encI).length = l.length := by rw [flatI, List.length_map]
  have b4 : Nat.ble ((l.length + 1 + 1) * 8) most = true := Nat.ble_eq_true_of_le (by unfold most; omega)
  have o1' : lenOf (.sl k 0 1 1 1 true) = some 1 := rfl
  have o2' : firstCells H 1 1 (.sl k 0 1 1 1 true) = some [iv x] := o2
  have ba : allCells [iv x] = true := rfl
  cases post with
  | cons c post =>
    have bb : Nat.ble (l.length + 1) (l.length + (c :: post).length) = true := Nat.ble_eq_true_of_le (by simp)
    have hw : write (0 + l.length * 1) [iv x] (l.flatMap encI ++ c :: post) = some ((l ++ [x]).flatMap encI ++ post) := by
      rw [write_one (by simp [hlen])]
      congr 1
      have e2 : 0 + l.length * 1 = (l.flatMap encI).length := by rw [hlen]; omega
      rw [e2, set_mid, List.flatMap_append]
      simp [encI]
    refine ⟨.sl j 0 (l.length + 1) (l.length + (c :: post).length) 1 ex, H.put j (.cells ((l ++ [x]).flatMap encI ++ post) .own), j, ?_, ⟨post, ex, ?_, get_put_same .., ?_⟩, Nat.le_refl _, .inl rfl, hj, fun i _ hi => get_put_ne _ _ _ _ (Ne.symm hi)⟩
    · simp only [appendOp, o1', o2', ba, Nat.ble, Bool.and_self, if_true, appTo, Nat.beq_refl, bb, appIn, store_eq hg hw]
    · simp only [List.length_append, List.length_cons, List.length_nil]; congr 1; omega
    · simp only [allCells, Bool.and_eq_true] at hpc; exact hpc.2
  | nil =>
    have bb : Nat.ble (l.length + 1) (l.length + ([] : List AV).length) = false := by
      cases e : Nat.ble (l.length + 1) (l.length + ([] : List AV).length) with
      | false => rfl
      | true => have := Nat.le_of_ble_eq_true e; simp at this; omega
    rw [List.append_nil] at hg
    have hr : rangeOf 0 (l.length * 1) (l.flatMap encI) = some (l.flatMap encI) := rangeOf_iff.2 ⟨by omega, by rw [List.drop_zero, List.take_of_length_le (by omega)]⟩
    have hfl : (l ++ [x]).flatMap encI = l.flatMap encI ++ [iv x] := by rw [List.flatMap_append]; rfl
    cases ex with
    | true =>
      refine ⟨.sl H.nx 0 (l.length + 1) (l.length + 1) 1 false, H.push (.cells ((l ++ [x]).flatMap encI) .own), H.nx, ?_, ⟨[], false, by simp, by rw [List.append_nil]; exact get_push_same .., rfl⟩, by simp, .inr rfl, by simp, fun i hi _ => get_push_ne _ _ _ (by omega)⟩
      simp only [appendOp, o1', o2', ba, Nat.ble, Bool.and_self, if_true, appTo, Nat.beq_refl, bb, Bool.false_eq_true, if_false, hg, appOut, hr, appNew, b4, hfl]
    | false =>
      refine ⟨.sl H.nx 0 (l.length + 1) (l.length + 1) 1 false, (H.put j .gone).push (.cells ((l ++ [x]).flatMap encI) .own), H.nx, ?_, ⟨[], false, by simp, by rw [List.append_nil]; exact get_push_same (H.put j .gone) _, rfl⟩, by simp, .inr rfl, by simp, fun i hi hij => ?_⟩
      · have b5 : Nat.beq l.length (l.length + ([] : List AV).length) = true := by simp
        have b6 : Nat.beq (0 + (l.length + ([] : List AV).length) * 1) (l.flatMap encI).length = true := by rw [hlen]; simp
        simp only [appendOp, o1', o2', ba, Nat.ble, Bool.and_self, if_true, appTo, Nat.beq_refl, bb, Bool.false_eq_true, if_false, hg, appOut, hr, b5, b6, appNew, b4, hfl, nx_put]
      · rw [get_push_ne _ _ _ (by simp; omega), get_put_ne _ _ _ _ (Ne.symm hij)]
theorem spr_frz {H : AHeap} {v : AV} {j : Nat} {l : List Int} (h : Spr H v j l) {N : Nat} (hN : N ≤ j) : Frz N H v (lstE 1 encI l) := by
  obtain ⟨post, ex, rfl, hg, _⟩ := h
  have hlen := flat_len (enc := encI) lenI l
  exact .sl j 0 l.length _ 1 ex _ .own _ _ hN hg (rangeOf_iff.2 ⟨by rw [List.length_append]; omega, by rw [List.drop_zero, List.take_append_of_le_length (by omega), List.take_of_length_le (by omega)]⟩) (by omega) (Frzs.pure (pure_flat pure_encI l))
theorem spr_len {H : AHeap} {v : AV} {j : Nat} {l : List Int} (h : Spr H v j l) : opLen false v = some (iv l.length) := by
  obtain ⟨post, ex, rfl, hg, _⟩ := h; rfl

structure SetL (H0 : AHeap) (l : List Int) (v v6 : AV) (b4 jl : Nat) (H : AHeap) : Prop where
  nx : H0.nx ≤ H.nx
  keep : ∀ i, i < H0.nx → H.get i = H0.get i
  loc : H0.nx ≤ b4 ∧ b4 < H.nx
  c4 : H.get b4 = some (.cells [v] .own)
  lv : (v = .nilsl ∧ l = []) ∨ (Spr H v jl l ∧ H0.nx ≤ jl ∧ jl < H.nx ∧ jl ≠ b4)
  pl : (v6 = .nilsl ∧ pickM l = []) ∨ ∃ jp ex, v6 = .sl jp 0 (pickM l).length (pickM l).length 1 ex ∧ H.get jp = some (.cells ((pickM l).flatMap encI) .own) ∧ H0.nx ≤ jp ∧ jp < H.nx ∧ jp ≠ b4 ∧ jp ≠ jl
theorem pl_len {l : List Int} {v6 : AV} {H H0 : AHeap} {b4 jl : Nat} (h : (v6 = .nilsl ∧ pickM l = []) ∨ ∃ jp ex, v6 = .sl jp 0 (pickM l).length (pickM l).length 1 ex ∧ H.get jp = some (.cells ((pickM l).flatMap encI) .own) ∧ H0.nx ≤ jp ∧ jp < H.nx ∧ jp ≠ b4 ∧ jp ≠ jl) : opLen false v6 = some (iv (pickM l).length) := by
  rcases h with ⟨rfl, h⟩ | ⟨jp, ex, rfl, _⟩
  · rw [h]; rfl
  · rfl
theorem rec_one {H : AHeap} {b : Nat} {x : Int} {st : BSt} {lo hi : Nat} (h : H.get b = some (.cells [iv x] st)) : Rcd.ok H (.cells b 0 1 [iv x] lo hi) = true := by
  have : H.load b 0 1 = some [iv x] := load_eq h rfl
  simp [Rcd.ok, this, avsEq, avEq, ikEq_refl, intEq_iff]
end Go.AM.T
/- merge.Settle, its loop. -/
namespace Go.AM.T
open Go Go.AM
theorem push_get_old {H : AHeap} {o : AObj} {i : Nat} (h : i < H.nx) : (H.push o).get i = H.get i := get_push_ne _ _ _ (by omega)
set_option maxHeartbeats 2000000 in
theorem settle_loop {H0 : AHeap} {b4 : Nat} {k : List KI} {Q : AExit → Fr → AHeap → Prop} : ∀ (f : Nat) (l : List Int) (moved : Int) (v v6 : AV) (jl : Nat) (T : Fr) (H : AHeap), l.length ≤ f → l.length ≤ 1000 → (∀ x, x ∈ l → 0 ≤ x ∧ x ≤ 4096) → 0 ≤ moved → moved + 4096 * f ≤ 1000000000 → SetL H0 l v v6 b4 jl H →
    gN T 4 = .ptr b4 0 → gN T 5 = iv moved → gN T 6 = v6 →
    (∀ T' H' l' v' v6' jl', SetL H0 l' v' v6' b4 jl' H' → (l', gN T' 5) = ((settleF f l moved).1, iv (settleF f l moved).2) → gN T' 4 = .ptr b4 0 → GoW tbl Q k (.exit 0) T' H') →
    GoS tbl (.code (.loop kc_merge_Settle_l0) :: k) .normal T H Q := by
  intro f
  induction f with
  | zero =>
    intro l moved v v6 jl T H hf hl1 hx hm0 hm1 hS t4 t5 t6 hk
    have hl : l = [] := List.length_eq_zero_iff.1 (by omega)
    subst hl
    have hp : (pickM []).length = 0 := by
      rcases pickM_ok [] with e | ok
      · rw [e]; rfl
      · cases hq : pickM [] with
        | nil => rfl
        | cons p r => have := ok.mem p (by rw [hq]; simp); simp at this; omega
    have ln := pl_len (H0 := H0) hS.pl
    refine GoS.loopD (a' := c_merge_Settle_l0) rfl (GoW.sound ?_)
    simp (disch := omega) only [c_merge_Settle_l0, go_sem, ↓reduceIte, Nat.reduceEqDiff, Nat.reduceAdd, t4, t5, t6, ln, dF, Bool.false_eq_true]
    refine hk _ H [] v v6 jl hS ?_ ?_
    · simp only [go_sem, ↓reduceIte, Nat.reduceEqDiff, t5, settleF]
    · simp only [go_sem, ↓reduceIte, Nat.reduceEqDiff, t4]
  | succ f ih =>
    intro l moved v v6 jl T H hf hl1 hx hm0 hm1 hS t4 t5 t6 hk
    have ln := pl_len (H0 := H0) hS.pl
    by_cases hp : (pickM l).length = 0
    · refine GoS.loopD (a' := c_merge_Settle_l0) rfl (GoW.sound ?_)
      simp (disch := omega) only [c_merge_Settle_l0, go_sem, ↓reduceIte, Nat.reduceEqDiff, Nat.reduceAdd, t4, t5, t6, ln, dF, Bool.false_eq_true]
      refine hk _ H l v v6 jl hS ?_ ?_
      · simp only [go_sem, ↓reduceIte, Nat.reduceEqDiff, t5, settleF, hp]
      · simp only [go_sem, ↓reduceIte, Nat.reduceEqDiff, t4]
    · have hnl := next_len hp
      have ok : PickOk l (pickM l) := (pickM_ok l).resolve_left fun e => hp (by rw [e]; rfl)
      have oo := outS_ok ok.asc ok.mem
      obtain ⟨jp, ex, rfl, gp, p1, p2, p3, p4⟩ := hS.pl.resolve_left fun h => hp (by rw [h.2]; rfl)
      obtain ⟨hsp, q1, q2, q3⟩ := hS.lv.resolve_left fun h => by have := ok.len; have := ok.mem; rw [h.2] at hnl; simp at hnl
      have hnx := hS.nx
      have hb4 := hS.loc
      generalize hps : pickM l = ps at hp ok oo ln gp hnl t6
      refine GoS.loopD (a' := c_merge_Settle_l0) rfl (GoW.sound ?_)
      have st0 : opStore (.ptr H.nx 0) (iv 0) 1 (lay [iv 0] H) = some (.undef, (lay [iv 0] H).put H.nx (.cells [iv 0] .own)) := cell_store (v := iv 0) (get_push_same ..) rfl rfl
      simp (disch := omega) only [c_merge_Settle_l0, go_sem, ↓reduceIte, Nat.reduceEqDiff, Nat.reduceAdd, t4, t5, t6, ln, dT, st0]
      generalize hHb : (lay [iv 0] H).put H.nx (.cells [iv 0] .own) = Hb
      have nb : Hb.nx = H.nx + 1 := by rw [← hHb]; rfl
      have gb : ∀ i, i < H.nx → Hb.get i = H.get i := fun i hi => by rw [← hHb, get_put_ne _ _ _ _ (by omega)]; exact push_get_old hi
      have gb7 : Hb.get H.nx = some (.cells [iv 0] .own) := by rw [← hHb]; exact get_put_same ..
      have gpb : Hb.get jp = some (.cells (ps.flatMap encI) .own) := by rw [gb jp p2]; exact gp
      have hfl := flat_len (enc := encI) lenI ps
      refine GoS.freeze (i := jp) rfl gpb (fz1_set (q := 19) (v := lstE 1 encI ps) ?_) ?_
      · simp only [go_sem, ↓reduceIte, Nat.reduceEqDiff]
        exact .sl 0 _ _ 1 ex _ (rangeOf_iff.2 ⟨by omega, by rw [List.drop_zero, List.take_of_length_le (by omega)]⟩) (Nat.le_refl _)
      refine GoS.call ?_
      simp only [go_sem, ↓reduceIte, Nat.reduceEqDiff]
      refine backward_does (GoW.sound ?_)
      simp only [go_sem, ↓reduceIte, Nat.reduceEqDiff, Nat.reduceAdd]
      generalize hHc : Hb.put jp .gone = Hc
      have nc : Hc.nx = H.nx + 1 := by rw [← hHc]; exact nb
      have gc : ∀ i, i ≠ jp → Hc.get i = Hb.get i := fun i hi => by rw [← hHc, get_put_ne _ _ _ _ (Ne.symm hi)]
      -- the range over the places
      refine GoS.rangef (g := f_slices_Backward_int_int_1) (first := []) (cap := [.fp 0 [lstE 1 encI ps]]) (by simp only [go_sem, ↓reduceIte, Nat.reduceEqDiff]) ?_
      generalize hTr : sN (sN _ 19 (lstE 1 encI ps)) 20 _ = Tr
      have r4 : gN Tr 4 = .ptr b4 0 := by rw [← hTr]; simp only [go_sem, ↓reduceIte, Nat.reduceEqDiff, t4]
      have r5 : gN Tr 5 = iv moved := by rw [← hTr]; simp only [go_sem, ↓reduceIte, Nat.reduceEqDiff, t5]
      have r7 : gN Tr 7 = .ptr H.nx 0 := by rw [← hTr]; simp only [go_sem, ↓reduceIte, Nat.reduceEqDiff]
      generalize hH1 : Hc.push (.loop { st := .ready, pend := none, T := Tr, ps := [p21, p22], assign := .region [o (some p9) (.mov x22)], body := kc_merge_Settle_l1 }) = H1
      have n1 : H1.nx = H.nx + 2 := by rw [← hH1]; simp [nc]
      have g1 : ∀ i, i < H.nx → i ≠ jp → H1.get i = H.get i := fun i hi hj => by rw [← hH1, get_push_ne _ _ _ (by omega), gc i hj, gb i hi]
      have g17 : H1.get H.nx = some (.cells [iv 0] .own) := by rw [← hH1, get_push_ne _ _ _ (by omega), gc _ (by omega)]; exact gb7
      have g1y : H1.get (H.nx + 1) = some (.loop { st := .ready, pend := none, T := Tr, ps := [p21, p22], assign := .region [o (some p9) (.mov x22)], body := kc_merge_Settle_l1 }) := by rw [← hH1, ← nc]; exact get_push_same ..
      rw [nc]
      have hbound : ∀ i, i < ps.length → 0 ≤ nth ps i ∧ nth ps i < (outS l (ps.drop (i + 1))).1.length ∧ (outS l (ps.drop (i + 1))).1.length ≤ 1000000 ∧ InR ((outS l (ps.drop (i + 1))).2 + nth (outS l (ps.drop (i + 1))).1 (nth ps i).toNat) := by
        intro i hi
        have hdr : ps.drop i = nth ps i :: ps.drop (i + 1) := drop_nth hi
        have ha : (nth ps i :: ps.drop (i + 1)).Pairwise (· < ·) := by rw [← hdr]; exact ok.asc.sublist (List.drop_sublist _ _)
        have hmm : ∀ p, p ∈ nth ps i :: ps.drop (i + 1) → 0 ≤ p ∧ p < l.length := fun p hp => ok.mem p (List.mem_of_mem_drop (by rw [hdr]; exact hp))
        have o1 := outS_ok (List.pairwise_cons.1 ha).2 fun p hp => hmm p (by simp [hp])
        have hroom := asc_room ha fun x hx => (hmm x hx).2
        have hp0 := hmm (nth ps i) (by simp)
        have hlen := o1.len
        refine ⟨hp0.1, by omega, by omega, ?_⟩
        have e1 := outS_ok ha hmm
        have e2 : (outS l (nth ps i :: ps.drop (i + 1))).2 = (outS l (ps.drop (i + 1))).2 + nth (outS l (ps.drop (i + 1))).1 (nth ps i).toNat := rfl
        rw [← e2, e1.sum]
        -- the sum of four counts at most
        have b : ∀ q : List Int, (∀ x, x ∈ q → 0 ≤ x ∧ x < l.length) → 0 ≤ tot l q ∧ tot l q ≤ 4096 * q.length := by
          intro q
          induction q with
          | nil => intro _; simp [tot]
          | cons x q ihq =>
            intro h
            have h1 := ihq fun y hy => h y (by simp [hy])
            have h2 := h x (by simp)
            have h3 := hx (key l x) (List.mem_of_getElem? (nth_get (l := l) (k := x.toNat) (by omega)))
            simp only [tot, List.length_cons]
            omega
        have hb := b _ hmm
        have : (nth ps i :: ps.drop (i + 1)).length ≤ 4 := by rw [← hdr, List.length_drop, ok.len]; omega
        unfold InR; omega
      have hne : H.nx + 1 ≠ b4 ∧ H.nx + 1 ≠ H.nx ∧ H.nx + 1 ≠ jl ∧ b4 ≠ H.nx ∧ b4 ≠ jl ∧ H.nx ≠ jl := by omega
      refine back_does (l := ps) (by rw [ok.len]; omega) (I := fun i H' => SetI H1 (H.nx + 1) b4 H.nx jl Tr l ps i H') (fun i H' hi hI => settle_yld hne r4 r7 (by omega) hi ⟨(hbound i hi).1, (hbound i hi).2.1⟩ (hbound i hi).2.2.1 (hbound i hi).2.2.2 hI) ?_ fun r H' hI => ?_
      · refine { nx := rfl, lp := g1y, c4 := ⟨v, ?_, ?_⟩, c7 := ?_, other := fun _ _ _ _ _ => rfl }
        · rw [g1 b4 hb4.2 (Ne.symm p3)]; exact hS.c4
        · rw [List.drop_length]; exact hsp.keep (g1 jl q2 (Ne.symm p4))
        · rw [List.drop_length]; exact g17
      · obtain ⟨i1, i2, ⟨v', i3, i4⟩, i5, i6⟩ := hI
        rw [List.drop_zero] at i4 i5
        refine ⟨_, i2, by simp, GoW.sound ?_⟩
        generalize hHd : H'.put (H.nx + 1) _ = Hd
        have nd : Hd.nx = H.nx + 2 := by rw [← hHd, nx_put, i1, n1]
        have gd : ∀ i, i ≠ H.nx + 1 → Hd.get i = H'.get i := fun i hi => by rw [← hHd, get_put_ne _ _ _ _ (Ne.symm hi)]
        have d4 : Hd.get b4 = some (.cells [v'] .own) := by rw [gd _ (by omega)]; exact i3
        have d7 : Hd.get H.nx = some (.cells [iv (outS l ps).2] .own) := by rw [gd _ (by omega)]; exact i5
        have ds : Spr Hd v' jl (outS l ps).1 := i4.keep (gd _ (by omega))
        have dold : ∀ i, i < H.nx → i ≠ b4 → i ≠ jl → i ≠ jp → Hd.get i = H.get i := fun i h1 h2 h3 h4 => by
          rw [gd i (by omega), i6 i (by omega) h2 (by omega) h3, g1 i h1 h4]
        have e1 := cell_load d4
        have e2 := cell_load d7
        have e3 : opBslice 1 1 [iv 0] [(0, 1, iv (outS l ps).2)] Hd = some (.sl Hd.nx 0 1 1 1 true, lay [iv (outS l ps).2] Hd) := rfl
        have hos := oo.len
        have hops := ok.len
        obtain ⟨v2, Hf, j2, a1, a2, a3, a4, a5, a6⟩ := spr_append (k := Hd.nx) (x := (outS l ps).2) (ds.keep (push_get_old (o := .cells [iv (outS l ps).2] .own) (by omega))) (by simp; omega) (by omega) (get_push_same ..)
        have hHe : Hd.push (.cells [iv (outS l ps).2] .own) = lay [iv (outS l ps).2] Hd := rfl
        rw [hHe] at a1 a3 a4 a6
        have ne' : (lay [iv (outS l ps).2] Hd).nx = H.nx + 3 := by show Hd.nx + 1 = _; omega
        have f7 : Hf.get H.nx = some (.cells [iv (outS l ps).2] .own) := by rw [a6 _ (by omega) (by omega)]; exact (push_get_old (by omega)).trans d7
        have f4 : Hf.get b4 = some (.cells [v'] .own) := by rw [a6 _ (by omega) (by omega)]; exact (push_get_old (by omega)).trans d4
        have e4 := cell_load f7
        have ld7 : Hf.load H.nx 0 1 = some [iv (outS l ps).2] := load_eq f7 rfl
        obtain ⟨c1, c2⟩ := spr_cell a2
        have e5 := cell_store f4 c1 c2
        have hsum := oo.sum
        have htot : 0 ≤ (outS l ps).2 ∧ (outS l ps).2 ≤ 4096 := by
          rw [hsum]
          refine ⟨?_, ok.sum⟩
          have b : ∀ q : List Int, (∀ x, x ∈ q → 0 ≤ x ∧ x < l.length) → 0 ≤ tot l q := by
            intro q
            induction q with
            | nil => intro _; simp [tot]
            | cons x q ihq =>
              intro h
              have h1 := ihq fun y hy => h y (by simp [hy])
              have h2 := h x (by simp)
              have h3 := hx (key l x) (List.mem_of_getElem? (nth_get (l := l) (k := x.toNat) (by omega)))
              simp only [tot]
              omega
          exact b ps ok.mem
        have e6 : bin .add (iv moved) (iv (outS l ps).2) = some (iv (moved + (outS l ps).2)) := bin_add (by unfold InR; omega)
        generalize hHg : Hf.put b4 (.cells [v2] .own) = Hg at e5
        have k1 : Rcd.ok (lay [iv (outS l ps).2] Hd) (.cells H.nx 0 1 [iv (outS l ps).2] 0 2) = true := rec_one (st := .own) ((push_get_old (by omega)).trans d7)
        have k2 : Rcd.ok Hf (.cells H.nx 0 1 [iv (outS l ps).2] 0 2) = true := rec_one f7
        have k3 : Rcd.ok Hg (.cells H.nx 0 1 [iv (outS l ps).2] 0 2) = true := rec_one (st := .own) (by rw [← hHg, get_put_ne _ _ _ _ (by omega)]; exact f7)
        have hHg4 : Hg.get b4 = some (.cells [v2] .own) := by rw [← hHg]; exact get_put_same ..
        have e7 := cell_load hHg4
        simp (disch := omega) only [Option.getD_none, go_sem, ↓reduceIte, Nat.reduceEqDiff, Nat.reduceAdd, r4, r5, r7, e1, e2, e3, a1, e4, e5, e6, e7, lOk, recD, rcdOf, wants, ld7, Nat.beq, Nat.ble, Bool.false_eq_true, if_false, Option.isSome, true_and, List.nil_append, List.reverse_cons, List.reverse_nil, List.cons_append, stagesOk, Rcd.lo, Rcd.hi, k1, k2, k3, Bool.and_self]
        -- Pick again
        have hsg : Spr Hg v2 j2 (next l ps) := a2.keep (by rw [← hHg, get_put_ne _ _ _ _ (by omega)])
        have ng : Hg.nx = Hf.nx := by rw [← hHg]; rfl
        refine GoS.call ?_
        simp only [go_sem, ↓reduceIte, Nat.reduceEqDiff, r4, r5, r7]
        have hnx2 : ∀ x, x ∈ next l ps → 0 ≤ x ∧ x ≤ 4096 := fun x hx' => by
          rcases List.mem_append.1 hx' with h | h
          · exact hx x (oo.mem x h)
          · rw [List.mem_singleton] at h; subst h; exact htot
        refine (CallV.viewN (es := 1) (enc := encI) (l := pickM (next l ps)) (fun _ => rfl) (.cons _ _ _ _ (spr_frz hsg (Nat.zero_le _)) .nil) fun H9 => pick_own (by omega) hnx2 fun v H' hN => hN).mono ?_
        rintro v9 H9 ⟨m1, m2, m3⟩
        refine GoW.sound ?_
        simp only [go_sem, ↓reduceIte, Nat.reduceEqDiff, Nat.reduceAdd, r4, r5, r7]
        have hj2 : j2 < Hg.nx := by omega
        refine ih (next l ps) (moved + (outS l ps).2) v2 v9 j2 _ H9 (by omega) (by omega) hnx2 (by omega) (by omega) ?_ ?_ ?_ ?_ fun T' H' l' v' v6' jl' q1 q2 q3 => hk T' H' l' v' v6' jl' q1 ?_ q3
        · refine { nx := by omega, keep := fun i hi => ?_, loc := ⟨hb4.1, by omega⟩, c4 := (m2 b4 (by omega)).trans hHg4, lv := .inr ⟨hsg.keep (m2 j2 hj2), by omega, by omega, by omega⟩, pl := ?_ }
          · rw [m2 i (by omega), ← hHg, get_put_ne _ _ _ _ (by omega), a6 i (by omega) (by omega)]
            exact (push_get_old (by omega)).trans ((dold i (by omega) (by omega) (by omega) (by omega)).trans (hS.keep i hi))
          · rcases m3 with m3 | ⟨j9, ex9, w1, w2, w3, w4⟩
            · exact .inl m3
            · exact .inr ⟨j9, ex9, w3, w4, by omega, w2, by omega, by omega⟩
        · simp only [go_sem, ↓reduceIte, Nat.reduceEqDiff, r4]
        · simp only [go_sem, ↓reduceIte, Nat.reduceEqDiff]
        · simp only [go_sem, ↓reduceIte, Nat.reduceEqDiff]
        · rw [q2, settleF, hps, if_neg hp]
end Go.AM.T
/- merge.Settle, whole. -/
namespace Go.AM.T
open Go Go.AM
theorem settle_does {counts : List Int} (hlen : counts.length ≤ 1000) (hcs : ∀ x, x ∈ counts → 0 ≤ x ∧ x ≤ 4096) {H : AHeap} {R : AV → AHeap → Prop} (hR : R (.tup [lstE 1 encI (settleM counts).1, iv (settleM counts).2]) H) : CallV tbl f_merge_Settle [lstE 1 encI counts] H R := by
  refine CallV.fresh fun hf => ?_
  refine T.callW rfl ?_
  simp only [c_merge_Settle, a10, go_sem, ↓reduceIte, Nat.reduceEqDiff, Nat.reduceAdd]
  refine GoS.call ?_
  simp only [go_sem, ↓reduceIte, Nat.reduceEqDiff]
  refine clone_does (es := 1) (by_ := 8) lenI (fun _ => rfl) (by omega) (by omega) (by omega) rfl (by omega) fun v H1 ⟨n1, n2, n3⟩ => GoW.sound ?_
  have hcell : cellsOf v = some [v] ∧ isCell v = true := by
    rcases n3 with ⟨rfl, _⟩ | ⟨j, ex, _, _, rfl, _⟩ <;> exact ⟨rfl, rfl⟩
  have st : opStore (.ptr H1.nx 0) v 1 (lay [.nilsl] H1) = some (.undef, (lay [.nilsl] H1).put H1.nx (.cells [v] .own)) := cell_store (v := .nilsl) (get_push_same ..) hcell.1 hcell.2
  generalize hH2 : (lay [.nilsl] H1).put H1.nx (.cells [v] .own) = H2 at st
  have nx2 : H2.nx = H1.nx + 1 := by rw [← hH2]; rfl
  have g4 : H2.get H1.nx = some (.cells [v] .own) := by rw [← hH2]; exact get_put_same ..
  have g2 : ∀ i, i < H1.nx → H2.get i = H1.get i := fun i hi => by rw [← hH2, get_put_ne _ _ _ _ (by omega)]; exact push_get_old hi
  have ld := cell_load g4
  simp only [go_sem, ↓reduceIte, Nat.reduceEqDiff, Nat.reduceAdd, st, ld]
  refine GoS.call ?_
  simp only [go_sem, ↓reduceIte, Nat.reduceEqDiff]
  have hlv : ∃ jl, jl < H2.nx ∧ ((v = .nilsl ∧ counts = []) ∨ (Spr H2 v jl counts ∧ H.nx ≤ jl ∧ jl < H1.nx)) := by
    rcases n3 with h | ⟨j, ex, m1, m2, rfl, m3⟩
    · exact ⟨0, by omega, .inl h⟩
    · exact ⟨j, by omega, .inr ⟨⟨[], ex, by simp, by rw [List.append_nil, g2 j m2]; exact m3, rfl⟩, m1, m2⟩⟩
  obtain ⟨jl, hjl, hlv⟩ := hlv
  have hfz : Frz 0 H2 v (lstE 1 encI counts) := by
    rcases hlv with ⟨rfl, rfl⟩ | ⟨h, _⟩
    · exact .nilsl 1
    · exact spr_frz h (Nat.zero_le _)
  refine (CallV.viewN (es := 1) (enc := encI) (l := pickM counts) (fun _ => rfl) (.cons _ _ _ _ hfz .nil) fun H9 => pick_own (by omega) hcs fun v H' hN => hN).mono ?_
  rintro v9 H9 ⟨m1, m2, m3⟩
  refine GoW.sound ?_
  simp only [go_sem, ↓reduceIte, Nat.reduceEqDiff, Nat.reduceAdd]
  refine settle_loop (H0 := H) (b4 := H1.nx) counts.length counts 0 v v9 jl _ H9 (Nat.le_refl _) hlen hcs (by omega) (by omega) ?_ ?_ ?_ ?_ fun T' H' l' v' v6' jl' q1 q2 q3 => ?_
  · refine { nx := by omega, keep := fun i hi => ?_, loc := ⟨by omega, by omega⟩, c4 := (m2 _ (by omega)).trans g4, lv := ?_, pl := ?_ }
    · rw [m2 i (by omega), g2 i (by omega), n2 i hi]
    · rcases hlv with h | ⟨h, h1, h2⟩
      · exact .inl h
      · exact .inr ⟨h.keep (m2 jl (by omega)), h1, by omega, by omega⟩
    · rcases m3 with m3 | ⟨j9, ex9, w1, w2, w3, w4⟩
      · exact .inl m3
      · refine .inr ⟨j9, ex9, w3, w4, by omega, w2, by omega, by omega⟩
  · simp only [go_sem, ↓reduceIte, Nat.reduceEqDiff]
  · simp only [go_sem, ↓reduceIte, Nat.reduceEqDiff]
  · simp only [go_sem, ↓reduceIte, Nat.reduceEqDiff]
  · have ld' := cell_load q1.c4
    injection q2 with q2 q4
    simp only [go_sem, ↓reduceIte, Nat.reduceEqDiff, Nat.reduceAdd, q3, ld', q4]
    have hv : Frz H.nx H' v' (lstE 1 encI l') := by
      rcases q1.lv with ⟨rfl, rfl⟩ | ⟨h, h1, _⟩
      · exact .nilsl 1
      · exact spr_frz h h1
    have hR' : R (.tup [lstE 1 encI l', iv (settleF counts.length counts 0).2]) H := by rw [q2]; exact hR
    exact Fin.reset hf q1.keep (.tup _ _ (.cons _ _ _ _ hv (.cons _ _ _ _ (.pure _ rfl) .nil))) hR'
end Go.AM.T
/- A list that begins empty; Class without freezing. -/
namespace Go.AM.T
open Go Go.AM
theorem app0 {H : AHeap} {v : AV} {l : List Int} (hv : (v = .nilsl ∧ l = []) ∨ v = lstE 1 encI l) (hl : l.length ≤ 1000) :
    ∃ v' H' j, appendOp 1 8 (.sl H.nx 0 0 0 1 true) v (lay [] H) = some (v', H') ∧ Spr H' v' j l ∧ H.nx ≤ j ∧ j < H'.nx ∧ ∀ i, i < H.nx → H'.get i = H.get i := by
  by_cases hnil : l = []
  · subst hnil
    refine ⟨.sl H.nx 0 0 0 1 true, lay [] H, H.nx, ?_, ⟨[], true, rfl, get_push_same .., rfl⟩, Nat.le_refl _, by simp [lay], fun i hi => get_push_ne _ _ _ (by omega)⟩
    rcases hv with ⟨rfl, _⟩ | rfl <;> rfl
  · rcases hv with ⟨_, h⟩ | rfl
    · exact absurd h hnil
    have hpos : 0 < l.length := List.length_pos_iff.2 hnil
    refine ⟨.sl (H.nx + 1) 0 l.length l.length 1 false, (lay [] H).push (.cells (l.flatMap encI) .own), H.nx + 1, ?_, ⟨[], false, by simp, by rw [List.append_nil]; exact get_push_same (lay [] H) _, rfl⟩, by omega, by simp [lay], fun i hi => ?_⟩
    · have b3 : Nat.ble l.length 0 = false := by
        cases e : Nat.ble l.length 0 with
        | false => rfl
        | true => have := Nat.le_of_ble_eq_true e; omega
      have b4 : Nat.ble ((l.length + 1) * 8) most = true := Nat.ble_eq_true_of_le (by unfold most; omega)
      have hlen : lenOf (lstE 1 encI l) = some l.length := rfl
      have hg : (lay [] H).get H.nx = some (.cells [] .own) := get_push_same ..
      have hr : rangeOf 0 (0 * 1) ([] : List AV) = some [] := by simp [rangeOf, dropN, takeN]
      have b1 : Nat.ble 1 1 = true := rfl
      have b2 : Nat.ble 1 8 = true := rfl
      simp only [appendOp, hlen, lstE_cells (enc := encI) lenI, allCells_flat (enc := encI) (fun _ => rfl), b1, b2, Bool.and_self, if_true, appTo, Nat.beq_refl, Nat.zero_add, b3, Bool.false_eq_true, if_false, hg, appOut, hr, appNew, b4, List.nil_append]
      rfl
    · rw [get_push_ne _ _ _ (by simp [lay]; omega)]; exact get_push_ne _ _ _ (by omega)

theorem class_callF {n : Int} (h : n ≤ 4096) {H : AHeap} : CallF tbl f_merge_Class [iv n] H fun r H2 => r = iv (cls n) ∧ H2 = H :=
  CallF.view (P0 := fun r _ => r = iv (cls n)) (P1 := fun r => r = iv (cls n)) (Frzs.pure rfl) (class_does h rfl) fun r H' e => ⟨by rw [e]; rfl, e⟩

end Go.AM.T
