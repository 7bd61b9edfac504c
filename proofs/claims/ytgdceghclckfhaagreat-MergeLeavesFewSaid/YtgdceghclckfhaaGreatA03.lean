/- A part of an abstract machine, its soundness, and contracts of the program's functions in it. -/
import Derived.Test.YtgdceghclckfhaaGreatA00
set_option linter.unusedVariables false
set_option linter.unusedSimpArgs false
namespace Go.AM.T
open Go Go.AM
abbrev iv (n : Int) : AV := .int .i64 n
abbrev o (d : Option (List Bool)) (x : AOp) : AOper := ⟨d, x, none⟩
abbrev og (d : Option (List Bool)) (x : AOp) (g : List Bool) (b : Bool) : AOper := ⟨d, x, some (g, b)⟩
abbrev bs (l : List Nat) : ByteArray := ⟨(l.map UInt8.ofNat).toArray⟩
def p0 : List Bool := []
def x0 : AX := .t p0
def p1 : List Bool := [false]
def x1 : AX := .t p1
def p2 : List Bool := [true]
def x2 : AX := .t p2
def p3 : List Bool := [false, false]
def x3 : AX := .t p3
def p4 : List Bool := [true, false]
def x4 : AX := .t p4
def p5 : List Bool := [false, true]
def x5 : AX := .t p5
def p6 : List Bool := [true, true]
def x6 : AX := .t p6
def p7 : List Bool := [false, false, false]
def x7 : AX := .t p7
def p8 : List Bool := [true, false, false]
def x8 : AX := .t p8
def p9 : List Bool := [false, true, false]
def x9 : AX := .t p9
def p10 : List Bool := [true, true, false]
def x10 : AX := .t p10
def p11 : List Bool := [false, false, true]
def x11 : AX := .t p11
def p12 : List Bool := [true, false, true]
def x12 : AX := .t p12
def p13 : List Bool := [false, true, true]
def x13 : AX := .t p13
def p14 : List Bool := [true, true, true]
def x14 : AX := .t p14
def p15 : List Bool := [false, false, false, false]
def x15 : AX := .t p15
def p16 : List Bool := [true, false, false, false]
def x16 : AX := .t p16
def p17 : List Bool := [false, true, false, false]
def x17 : AX := .t p17
def p18 : List Bool := [true, true, false, false]
def x18 : AX := .t p18
def p19 : List Bool := [false, false, true, false]
def x19 : AX := .t p19
def p20 : List Bool := [true, false, true, false]
def x20 : AX := .t p20
def p21 : List Bool := [false, true, true, false]
def x21 : AX := .t p21
def p22 : List Bool := [true, true, true, false]
def x22 : AX := .t p22
def p23 : List Bool := [false, false, false, true]
def x23 : AX := .t p23
def p24 : List Bool := [true, false, false, true]
def x24 : AX := .t p24
def p25 : List Bool := [false, true, false, true]
def x25 : AX := .t p25
def p26 : List Bool := [true, true, false, true]
def x26 : AX := .t p26
def p27 : List Bool := [false, false, true, true]
def x27 : AX := .t p27
def p28 : List Bool := [true, false, true, true]
def x28 : AX := .t p28
def p29 : List Bool := [false, true, true, true]
def x29 : AX := .t p29
def p30 : List Bool := [true, true, true, true]
def x30 : AX := .t p30
def p31 : List Bool := [false, false, false, false, false]
def x31 : AX := .t p31
def p32 : List Bool := [true, false, false, false, false]
def x32 : AX := .t p32
def p33 : List Bool := [false, true, false, false, false]
def x33 : AX := .t p33
def p34 : List Bool := [true, true, false, false, false]
def x34 : AX := .t p34
def p35 : List Bool := [false, false, true, false, false]
def x35 : AX := .t p35
def p36 : List Bool := [true, false, true, false, false]
def x36 : AX := .t p36
def p37 : List Bool := [false, true, true, false, false]
def x37 : AX := .t p37
def p38 : List Bool := [true, true, true, false, false]
def x38 : AX := .t p38
def p39 : List Bool := [false, false, false, true, false]
def x39 : AX := .t p39
def p40 : List Bool := [true, false, false, true, false]
def x40 : AX := .t p40
def p41 : List Bool := [false, true, false, true, false]
def x41 : AX := .t p41
def p42 : List Bool := [true, true, false, true, false]
def x42 : AX := .t p42
def p43 : List Bool := [false, false, true, true, false]
def x43 : AX := .t p43
def p44 : List Bool := [true, false, true, true, false]
def x44 : AX := .t p44
def p45 : List Bool := [false, true, true, true, false]
def x45 : AX := .t p45
def p46 : List Bool := [true, true, true, true, false]
def x46 : AX := .t p46
def p47 : List Bool := [false, false, false, false, true]
def x47 : AX := .t p47
def p48 : List Bool := [true, false, false, false, true]
def x48 : AX := .t p48
def p49 : List Bool := [false, true, false, false, true]
def x49 : AX := .t p49
def p50 : List Bool := [true, true, false, false, true]
def x50 : AX := .t p50
def p51 : List Bool := [false, false, true, false, true]
def x51 : AX := .t p51
def p52 : List Bool := [true, false, true, false, true]
def x52 : AX := .t p52
def p53 : List Bool := [false, true, true, false, true]
def x53 : AX := .t p53
def p54 : List Bool := [true, true, true, false, true]
def x54 : AX := .t p54
def p55 : List Bool := [false, false, false, true, true]
def x55 : AX := .t p55
def p56 : List Bool := [true, false, false, true, true]
def x56 : AX := .t p56
def p57 : List Bool := [false, true, false, true, true]
def x57 : AX := .t p57
def p58 : List Bool := [true, true, false, true, true]
def x58 : AX := .t p58
def p59 : List Bool := [false, false, true, true, true]
def x59 : AX := .t p59
def p60 : List Bool := [true, false, true, true, true]
def x60 : AX := .t p60
def p61 : List Bool := [false, true, true, true, true]
def x61 : AX := .t p61
def p62 : List Bool := [true, true, true, true, true]
def x62 : AX := .t p62
def p63 : List Bool := [false, false, false, false, false, false]
def x63 : AX := .t p63
def p64 : List Bool := [true, false, false, false, false, false]
def x64 : AX := .t p64
def p65 : List Bool := [false, true, false, false, false, false]
def x65 : AX := .t p65
def p66 : List Bool := [true, true, false, false, false, false]
def x66 : AX := .t p66
def p67 : List Bool := [false, false, true, false, false, false]
def x67 : AX := .t p67
def p68 : List Bool := [true, false, true, false, false, false]
def x68 : AX := .t p68
def p69 : List Bool := [false, true, true, false, false, false]
def x69 : AX := .t p69
def p70 : List Bool := [true, true, true, false, false, false]
def x70 : AX := .t p70
def p71 : List Bool := [false, false, false, true, false, false]
def x71 : AX := .t p71
def p72 : List Bool := [true, false, false, true, false, false]
def x72 : AX := .t p72
def p73 : List Bool := [false, true, false, true, false, false]
def x73 : AX := .t p73
def p74 : List Bool := [true, true, false, true, false, false]
def x74 : AX := .t p74
def p75 : List Bool := [false, false, true, true, false, false]
def x75 : AX := .t p75
def p76 : List Bool := [true, false, true, true, false, false]
def x76 : AX := .t p76
def p77 : List Bool := [false, true, true, true, false, false]
def x77 : AX := .t p77
def p78 : List Bool := [true, true, true, true, false, false]
def x78 : AX := .t p78
def p79 : List Bool := [false, false, false, false, true, false]
def x79 : AX := .t p79
def p80 : List Bool := [true, false, false, false, true, false]
def x80 : AX := .t p80
def p81 : List Bool := [false, true, false, false, true, false]
def x81 : AX := .t p81
def p82 : List Bool := [true, true, false, false, true, false]
def x82 : AX := .t p82
def p83 : List Bool := [false, false, true, false, true, false]
def x83 : AX := .t p83
def p84 : List Bool := [true, false, true, false, true, false]
def x84 : AX := .t p84
def p85 : List Bool := [false, true, true, false, true, false]
def x85 : AX := .t p85
def p86 : List Bool := [true, true, true, false, true, false]
def x86 : AX := .t p86
def p87 : List Bool := [false, false, false, true, true, false]
def x87 : AX := .t p87
def p88 : List Bool := [true, false, false, true, true, false]
def x88 : AX := .t p88
def p89 : List Bool := [false, true, false, true, true, false]
def x89 : AX := .t p89
def p90 : List Bool := [true, true, false, true, true, false]
def x90 : AX := .t p90
def p91 : List Bool := [false, false, true, true, true, false]
def x91 : AX := .t p91
def p92 : List Bool := [true, false, true, true, true, false]
def x92 : AX := .t p92
def p93 : List Bool := [false, true, true, true, true, false]
def x93 : AX := .t p93
def p94 : List Bool := [true, true, true, true, true, false]
def x94 : AX := .t p94
def p95 : List Bool := [false, false, false, false, false, true]
def x95 : AX := .t p95
def p96 : List Bool := [true, false, false, false, false, true]
def x96 : AX := .t p96
def p97 : List Bool := [false, true, false, false, false, true]
def x97 : AX := .t p97
def p98 : List Bool := [true, true, false, false, false, true]
def x98 : AX := .t p98
def p99 : List Bool := [false, false, true, false, false, true]
def x99 : AX := .t p99
def p100 : List Bool := [true, false, true, false, false, true]
def x100 : AX := .t p100
def p101 : List Bool := [false, true, true, false, false, true]
def x101 : AX := .t p101
def p102 : List Bool := [true, true, true, false, false, true]
def x102 : AX := .t p102
def p103 : List Bool := [false, false, false, true, false, true]
def x103 : AX := .t p103
def p104 : List Bool := [true, false, false, true, false, true]
def x104 : AX := .t p104
def p105 : List Bool := [false, true, false, true, false, true]
def x105 : AX := .t p105
def p106 : List Bool := [true, true, false, true, false, true]
def x106 : AX := .t p106
def p107 : List Bool := [false, false, true, true, false, true]
def x107 : AX := .t p107
def p108 : List Bool := [true, false, true, true, false, true]
def x108 : AX := .t p108
def p109 : List Bool := [false, true, true, true, false, true]
def x109 : AX := .t p109
def p110 : List Bool := [true, true, true, true, false, true]
def x110 : AX := .t p110
def p111 : List Bool := [false, false, false, false, true, true]
def x111 : AX := .t p111
def p112 : List Bool := [true, false, false, false, true, true]
def x112 : AX := .t p112
def p113 : List Bool := [false, true, false, false, true, true]
def x113 : AX := .t p113
def p114 : List Bool := [true, true, false, false, true, true]
def x114 : AX := .t p114
def p115 : List Bool := [false, false, true, false, true, true]
def x115 : AX := .t p115
def p116 : List Bool := [true, false, true, false, true, true]
def x116 : AX := .t p116
def p117 : List Bool := [false, true, true, false, true, true]
def x117 : AX := .t p117
def p118 : List Bool := [true, true, true, false, true, true]
def x118 : AX := .t p118
def p119 : List Bool := [false, false, false, true, true, true]
def x119 : AX := .t p119
def p120 : List Bool := [true, false, false, true, true, true]
def x120 : AX := .t p120
def p121 : List Bool := [false, true, false, true, true, true]
def x121 : AX := .t p121
def p122 : List Bool := [true, true, false, true, true, true]
def x122 : AX := .t p122
def p123 : List Bool := [false, false, true, true, true, true]
def x123 : AX := .t p123
def p124 : List Bool := [true, false, true, true, true, true]
def x124 : AX := .t p124
def p125 : List Bool := [false, true, true, true, true, true]
def x125 : AX := .t p125
def p126 : List Bool := [true, true, true, true, true, true]
def x126 : AX := .t p126
def p127 : List Bool := [false, false, false, false, false, false, false]
def x127 : AX := .t p127
def p128 : List Bool := [true, false, false, false, false, false, false]
def x128 : AX := .t p128
def p129 : List Bool := [false, true, false, false, false, false, false]
def x129 : AX := .t p129
def p130 : List Bool := [true, true, false, false, false, false, false]
def x130 : AX := .t p130
def p131 : List Bool := [false, false, true, false, false, false, false]
def x131 : AX := .t p131
def p132 : List Bool := [true, false, true, false, false, false, false]
def x132 : AX := .t p132
def p133 : List Bool := [false, true, true, false, false, false, false]
def x133 : AX := .t p133
def p134 : List Bool := [true, true, true, false, false, false, false]
def x134 : AX := .t p134
def p135 : List Bool := [false, false, false, true, false, false, false]
def x135 : AX := .t p135
def p136 : List Bool := [true, false, false, true, false, false, false]
def x136 : AX := .t p136
def p137 : List Bool := [false, true, false, true, false, false, false]
def x137 : AX := .t p137
def p138 : List Bool := [true, true, false, true, false, false, false]
def x138 : AX := .t p138
def p139 : List Bool := [false, false, true, true, false, false, false]
def x139 : AX := .t p139
def p140 : List Bool := [true, false, true, true, false, false, false]
def x140 : AX := .t p140
def p141 : List Bool := [false, true, true, true, false, false, false]
def x141 : AX := .t p141
def p142 : List Bool := [true, true, true, true, false, false, false]
def x142 : AX := .t p142
def p143 : List Bool := [false, false, false, false, true, false, false]
def x143 : AX := .t p143
def p144 : List Bool := [true, false, false, false, true, false, false]
def x144 : AX := .t p144
def p145 : List Bool := [false, true, false, false, true, false, false]
def x145 : AX := .t p145
def p146 : List Bool := [true, true, false, false, true, false, false]
def x146 : AX := .t p146
def p147 : List Bool := [false, false, true, false, true, false, false]
def x147 : AX := .t p147
def p148 : List Bool := [true, false, true, false, true, false, false]
def x148 : AX := .t p148
def p149 : List Bool := [false, true, true, false, true, false, false]
def x149 : AX := .t p149
def p150 : List Bool := [true, true, true, false, true, false, false]
def x150 : AX := .t p150
def p151 : List Bool := [false, false, false, true, true, false, false]
def x151 : AX := .t p151
def p152 : List Bool := [true, false, false, true, true, false, false]
def x152 : AX := .t p152
def p153 : List Bool := [false, true, false, true, true, false, false]
def x153 : AX := .t p153
def p154 : List Bool := [true, true, false, true, true, false, false]
def x154 : AX := .t p154
def p155 : List Bool := [false, false, true, true, true, false, false]
def x155 : AX := .t p155
def p156 : List Bool := [true, false, true, true, true, false, false]
def x156 : AX := .t p156
def p157 : List Bool := [false, true, true, true, true, false, false]
def x157 : AX := .t p157
def p158 : List Bool := [true, true, true, true, true, false, false]
def x158 : AX := .t p158
def p159 : List Bool := [false, false, false, false, false, true, false]
def x159 : AX := .t p159
def p160 : List Bool := [true, false, false, false, false, true, false]
def x160 : AX := .t p160
def p161 : List Bool := [false, true, false, false, false, true, false]
def x161 : AX := .t p161
def p162 : List Bool := [true, true, false, false, false, true, false]
def x162 : AX := .t p162
def p163 : List Bool := [false, false, true, false, false, true, false]
def x163 : AX := .t p163
def p164 : List Bool := [true, false, true, false, false, true, false]
def x164 : AX := .t p164
def p165 : List Bool := [false, true, true, false, false, true, false]
def x165 : AX := .t p165
def p166 : List Bool := [true, true, true, false, false, true, false]
def x166 : AX := .t p166
def p167 : List Bool := [false, false, false, true, false, true, false]
def x167 : AX := .t p167
def p168 : List Bool := [true, false, false, true, false, true, false]
def x168 : AX := .t p168
def p169 : List Bool := [false, true, false, true, false, true, false]
def x169 : AX := .t p169
def p170 : List Bool := [true, true, false, true, false, true, false]
def x170 : AX := .t p170
def p171 : List Bool := [false, false, true, true, false, true, false]
def x171 : AX := .t p171
def p172 : List Bool := [true, false, true, true, false, true, false]
def x172 : AX := .t p172
def p173 : List Bool := [false, true, true, true, false, true, false]
def x173 : AX := .t p173
def p174 : List Bool := [true, true, true, true, false, true, false]
def x174 : AX := .t p174
def p175 : List Bool := [false, false, false, false, true, true, false]
def x175 : AX := .t p175
def p176 : List Bool := [true, false, false, false, true, true, false]
def x176 : AX := .t p176
def p177 : List Bool := [false, true, false, false, true, true, false]
def x177 : AX := .t p177
def p178 : List Bool := [true, true, false, false, true, true, false]
def x178 : AX := .t p178
def p179 : List Bool := [false, false, true, false, true, true, false]
def x179 : AX := .t p179
def p180 : List Bool := [true, false, true, false, true, true, false]
def x180 : AX := .t p180
def p181 : List Bool := [false, true, true, false, true, true, false]
def x181 : AX := .t p181
def p182 : List Bool := [true, true, true, false, true, true, false]
def x182 : AX := .t p182
def p183 : List Bool := [false, false, false, true, true, true, false]
def x183 : AX := .t p183
def p184 : List Bool := [true, false, false, true, true, true, false]
def x184 : AX := .t p184
def p185 : List Bool := [false, true, false, true, true, true, false]
def x185 : AX := .t p185
def p186 : List Bool := [true, true, false, true, true, true, false]
def x186 : AX := .t p186
def p187 : List Bool := [false, false, true, true, true, true, false]
def x187 : AX := .t p187
def p188 : List Bool := [true, false, true, true, true, true, false]
def x188 : AX := .t p188
def p189 : List Bool := [false, true, true, true, true, true, false]
def x189 : AX := .t p189
def p190 : List Bool := [true, true, true, true, true, true, false]
def x190 : AX := .t p190
def p191 : List Bool := [false, false, false, false, false, false, true]
def x191 : AX := .t p191
def p192 : List Bool := [true, false, false, false, false, false, true]
def x192 : AX := .t p192
def p193 : List Bool := [false, true, false, false, false, false, true]
def x193 : AX := .t p193
def p194 : List Bool := [true, true, false, false, false, false, true]
def x194 : AX := .t p194
def p195 : List Bool := [false, false, true, false, false, false, true]
def x195 : AX := .t p195
def p196 : List Bool := [true, false, true, false, false, false, true]
def x196 : AX := .t p196
def p197 : List Bool := [false, true, true, false, false, false, true]
def x197 : AX := .t p197
def p198 : List Bool := [true, true, true, false, false, false, true]
def x198 : AX := .t p198
def p199 : List Bool := [false, false, false, true, false, false, true]
def x199 : AX := .t p199
def p200 : List Bool := [true, false, false, true, false, false, true]
def x200 : AX := .t p200
def p201 : List Bool := [false, true, false, true, false, false, true]
def x201 : AX := .t p201
def p202 : List Bool := [true, true, false, true, false, false, true]
def x202 : AX := .t p202
def p203 : List Bool := [false, false, true, true, false, false, true]
def x203 : AX := .t p203
def p204 : List Bool := [true, false, true, true, false, false, true]
def x204 : AX := .t p204
def p205 : List Bool := [false, true, true, true, false, false, true]
def x205 : AX := .t p205
def p206 : List Bool := [true, true, true, true, false, false, true]
def x206 : AX := .t p206
def p207 : List Bool := [false, false, false, false, true, false, true]
def x207 : AX := .t p207
def p208 : List Bool := [true, false, false, false, true, false, true]
def x208 : AX := .t p208
def p209 : List Bool := [false, true, false, false, true, false, true]
def x209 : AX := .t p209
def p210 : List Bool := [true, true, false, false, true, false, true]
def x210 : AX := .t p210
def p211 : List Bool := [false, false, true, false, true, false, true]
def x211 : AX := .t p211
def p212 : List Bool := [true, false, true, false, true, false, true]
def x212 : AX := .t p212
def p213 : List Bool := [false, true, true, false, true, false, true]
def x213 : AX := .t p213
def p214 : List Bool := [true, true, true, false, true, false, true]
def x214 : AX := .t p214
def p215 : List Bool := [false, false, false, true, true, false, true]
def x215 : AX := .t p215
def p216 : List Bool := [true, false, false, true, true, false, true]
def x216 : AX := .t p216
def p217 : List Bool := [false, true, false, true, true, false, true]
def x217 : AX := .t p217
def p218 : List Bool := [true, true, false, true, true, false, true]
def x218 : AX := .t p218
def p219 : List Bool := [false, false, true, true, true, false, true]
def x219 : AX := .t p219
def c_gosem_cut_init : ACode := .region [o (some p0) (.call 1 [])]
def a2 : AFn := ⟨c_gosem_cut_init, []⟩
abbrev f_gosem_cut_init : Nat := 2
def c_law33_MergePicksAsSpecified_l0 : ACode := .seq (.seq (.region [o (some p11) (.mov x3),
  o (some p12) (.mov x0),
  o (some p13) (.len false x12),
  o (some p14) (.bin .lss x11 x13)]) (.cond x14 (.skip) (.exit 0))) (.seq (.block 1 (.seq (.draw [(.p, o (some p17) (.mov x0)),
  (.p, o (some p18) (.mov x3)),
  (.p, o (some p19) (.iaddrS 1 x17 x18)),
  (.l 0 0, o (some p20) (.load x19 false 1)),
  (.e, o (some p21) (.call 8 [x20])),
  (.p, o (some p22) (.mov x0)),
  (.p, o (some p23) (.mov x3)),
  (.p, o (some p24) (.iaddrS 1 x22 x23)),
  (.l 0 1, o (some p25) (.load x24 false 1)),
  (.e, o (some p26) (.call 9 [x25])),
  (.p, o (some p27) (.bin .neq x21 x26))]) (.cond x27 (.seq (.region [o (some p2) (.mov (.c (.bool false)))]) (.ret)) (.skip)))) (.region [o (some p15) (.mov x3),
  o (some p16) (.bin .add x15 (.c (iv 1))),
  o (some p3) (.mov x16)]))
def kc_law33_MergePicksAsSpecified_l0 : ACode := c_law33_MergePicksAsSpecified_l0
def c_law33_MergePicksAsSpecified : ACode := .seq (.region [o (some p2) (.mov (.c (.bool false)))]) (.seq (.seq (.region [o (some p7) (.mov x0),
  o (some p8) (.call 6 [x7, (.c (iv 80))]),
  o (some p9) (.un .not x8)]) (.cond x9 (.seq (.region [o (some p10) (.call 7 []),
  o (some p2) (.mov x10)]) (.ret)) (.skip))) (.seq (.seq (.region [o (some p3) (.mov (.c (iv 0)))]) (.block 0 (.loop kc_law33_MergePicksAsSpecified_l0))) (.seq (.region [o (some p29) (.mov x0),
  o (some p30) (.call 10 [x29]),
  o (some p28) (.mov x30),
  o (some p31) (.extract x28 0),
  o (some p32) (.extract x28 1),
  o (some p4) (.mov x31),
  o (some p5) (.mov x32)]) (.seq (.region [o (some p33) (.mov x0),
  o (some p34) (.call 11 [x33]),
  o (some p6) (.alloc [.nilsl, (iv 0)]),
  o none (.store x6 x34 2)]) (.seq (.region [o (some p35) (.call 7 []),
  o (some p36) (.mov x35),
  og (some p37) (.mov x0) p36 true,
  og (some p38) (.call 13 [x37]) p36 true,
  og (some p39) (.mov x0) p36 true,
  og (some p40) (.call 14 [x39]) p36 true,
  og (some p41) (.call 12 [x38, x40]) p36 true,
  o (some p42) (.pick x36 x41 (.c (.bool false))),
  o (some p43) (.mov x42),
  og (some p44) (.mov x4) p43 true,
  og (some p45) (.faddr 0 x6) p43 true,
  og (some p46) (.load x45 false 1) p43 true,
  og (some p47) (.call 12 [x44, x46]) p43 true,
  o (some p48) (.pick x43 x47 (.c (.bool false))),
  o (some p49) (.mov x48),
  og (some p50) (.mov x5) p49 true,
  og (some p51) (.faddr 1 x6) p49 true,
  og (some p52) (.load x51 false 1) p49 true,
  og (some p53) (.bin .eql x50 x52) p49 true,
  o (some p54) (.pick x49 x53 (.c (.bool false))),
  o (some p2) (.mov x54)]) (.ret))))))
def a3 : AFn := ⟨c_law33_MergePicksAsSpecified, [.t p2]⟩
abbrev f_law33_MergePicksAsSpecified : Nat := 3
def c_law33_MergeLeavesFew_l0 : ACode := .seq (.seq (.region [o (some p18) (.mov x4),
  o (some p19) (.mov x0),
  o (some p20) (.len false x19),
  o (some p21) (.bin .lss x18 x20)]) (.cond x21 (.skip) (.exit 0))) (.seq (.block 1 (.region [o (some p24) (.mov x3),
  o (some p25) (.mov x0),
  o (some p26) (.mov x4),
  o (some p27) (.iaddrS 1 x25 x26),
  o (some p28) (.load x27 false 1),
  o (some p29) (.bin .add x24 x28),
  o (some p3) (.mov x29)])) (.region [o (some p22) (.mov x4),
  o (some p23) (.bin .add x22 (.c (iv 1))),
  o (some p4) (.mov x23)]))
def kc_law33_MergeLeavesFew_l0 : ACode := c_law33_MergeLeavesFew_l0
def c_law33_MergeLeavesFew_l1 : ACode := .seq (.seq (.region [o (some p32) (.mov x6),
  o (some p33) (.mov x5),
  o (some p34) (.len false x33),
  o (some p35) (.bin .lss x32 x34)]) (.cond x35 (.skip) (.exit 2))) (.seq (.block 3 (.seq (.draw [(.p, o (some p38) (.mov x5)),
  (.p, o (some p39) (.mov x6)),
  (.p, o (some p40) (.iaddrS 1 x38 x39)),
  (.l 0 0, o (some p41) (.load x40 false 1)),
  (.p, o (some p42) (.bin .lss x41 (.c (iv 0)))),
  (.p, o (some p43) (.mov x42)),
  (.p, og (some p44) (.mov x5) p43 false),
  (.p, og (some p45) (.mov x6) p43 false),
  (.p, og (some p46) (.iaddrS 1 x44 x45) p43 false),
  (.l 0 0, og (some p47) (.load x46 false 1) p43 false),
  (.p, og (some p48) (.mov x0) p43 false),
  (.l 0 0, og (some p49) (.len false x48) p43 false),
  (.p, og (some p50) (.bin .geq x47 x49) p43 false),
  (.p, o (some p51) (.pick x43 (.c (.bool true)) x50)),
  (.p, o (some p52) (.mov x51)),
  (.p, og (some p53) (.mov x6) p52 false),
  (.p, og (some p54) (.bin .gtr x53 (.c (iv 0))) p52 false),
  (.p, og (some p55) (.mov x54) p52 false),
  (.p, og (some p56) (.mov x5) p55 true),
  (.p, og (some p57) (.mov x6) p55 true),
  (.p, og (some p58) (.iaddrS 1 x56 x57) p55 true),
  (.l 0 0, og (some p59) (.load x58 false 1) p55 true),
  (.p, og (some p60) (.mov x5) p55 true),
  (.p, og (some p61) (.mov x6) p55 true),
  (.p, og (some p62) (.bin .sub x61 (.c (iv 1))) p55 true),
  (.p, og (some p63) (.iaddrS 1 x60 x62) p55 true),
  (.l 0 0, og (some p64) (.load x63 false 1) p55 true),
  (.p, og (some p65) (.bin .leq x59 x64) p55 true),
  (.p, og (some p66) (.pick x55 x65 (.c (.bool false))) p52 false),
  (.p, o (some p67) (.pick x52 (.c (.bool true)) x66)),
  (.p, o (some p68) (.mov x67)),
  (.p, og (some p69) (.mov x0) p68 false),
  (.p, og (some p70) (.mov x5) p68 false),
  (.p, og (some p71) (.mov x6) p68 false),
  (.p, og (some p72) (.iaddrS 1 x70 x71) p68 false),
  (.l 0 0, og (some p73) (.load x72 false 1) p68 false),
  (.p, og (some p74) (.iaddrS 1 x69 x73) p68 false),
  (.l 0 0, og (some p75) (.load x74 false 1) p68 false),
  (.e, og (some p76) (.call 8 [x75]) p68 false),
  (.p, og (some p77) (.mov x0) p68 false),
  (.p, og (some p78) (.mov x5) p68 false),
  (.p, og (some p79) (.iaddrS 1 x78 (.c (iv 0))) p68 false),
  (.l 0 1, og (some p80) (.load x79 false 1) p68 false),
  (.p, og (some p81) (.iaddrS 1 x77 x80) p68 false),
  (.l 0 1, og (some p82) (.load x81 false 1) p68 false),
  (.e, og (some p83) (.call 8 [x82]) p68 false),
  (.p, og (some p84) (.bin .neq x76 x83) p68 false),
  (.p, o (some p85) (.pick x68 (.c (.bool true)) x84))]) (.cond x85 (.seq (.region [o (some p2) (.mov (.c (.bool false)))]) (.ret)) (.skip)))) (.region [o (some p36) (.mov x6),
  o (some p37) (.bin .add x36 (.c (iv 1))),
  o (some p6) (.mov x37)]))
def kc_law33_MergeLeavesFew_l1 : ACode := c_law33_MergeLeavesFew_l1
def c_law33_MergeLeavesFew_l2 : ACode := .seq (.seq (.region [o (some p105) (.mov x11),
  o (some p106) (.mov x7),
  o (some p107) (.len false x106),
  o (some p108) (.bin .lss x105 x107)]) (.cond x108 (.skip) (.exit 4))) (.seq (.block 5 (.seq (.seq (.region [o (some p111) (.mov x7),
  o (some p112) (.mov x11),
  o (some p113) (.iaddrS 1 x111 x112),
  o (some p114) (.load x113 false 1),
  o (some p115) (.bin .lss x114 (.c (iv 1))),
  o (some p116) (.mov x115),
  og (some p117) (.mov x7) p116 false,
  og (some p118) (.mov x11) p116 false,
  og (some p119) (.iaddrS 1 x117 x118) p116 false,
  og (some p120) (.load x119 false 1) p116 false,
  og (some p121) (.bin .gtr x120 (.c (iv 4096))) p116 false,
  o (some p122) (.pick x116 (.c (.bool true)) x121)]) (.cond x122 (.seq (.region [o (some p2) (.mov (.c (.bool false)))]) (.ret)) (.skip))) (.seq (.region [o (some p123) (.mov x9),
  o (some p124) (.mov x7),
  o (some p125) (.mov x11),
  o (some p126) (.iaddrS 1 x124 x125),
  o (some p127) (.load x126 false 1),
  o (some p128) (.bin .add x123 x127),
  o (some p9) (.mov x128)]) (.seq (.region [o (some p129) (.mov x7),
  o (some p130) (.mov x11),
  o (some p131) (.iaddrS 1 x129 x130),
  o (some p132) (.load x131 false 1),
  o (some p133) (.call 8 [x132]),
  o (some p12) (.mov x133)]) (.seq (.seq (.region [o (some p134) (.mov x12),
  o (some p135) (.bin .lss x134 (.c (iv 0))),
  o (some p136) (.mov x135),
  og (some p137) (.mov x12) p136 false,
  og (some p138) (.bin .gtr x137 (.c (iv 4))) p136 false,
  o (some p139) (.pick x136 (.c (.bool true)) x138)]) (.cond x139 (.seq (.region [o (some p2) (.mov (.c (.bool false)))]) (.ret)) (.skip))) (.region [o (some p140) (.mov x12),
  o (some p141) (.iaddrA 5 1 x10 x140),
  o (some p142) (.load x141 false 1),
  o (some p143) (.bin .add x142 (.c (iv 1))),
  o (some p144) (.iaddrA 5 1 x10 x140),
  o none (.store x144 x143 1)])))))) (.region [o (some p109) (.mov x11),
  o (some p110) (.bin .add x109 (.c (iv 1))),
  o (some p11) (.mov x110)]))
def kc_law33_MergeLeavesFew_l2 : ACode := c_law33_MergeLeavesFew_l2
def c_law33_MergeLeavesFew_l3 : ACode := .seq (.seq (.region [o (some p145) (.mov x13),
  o (some p146) (.bin .lss x145 (.c (iv 4)))]) (.cond x146 (.skip) (.exit 6))) (.seq (.block 7 (.seq (.region [o (some p149) (.mov x13),
  o (some p150) (.iaddrA 5 1 x10 x149),
  o (some p151) (.load x150 false 1),
  o (some p152) (.bin .geq x151 (.c (iv 4)))]) (.cond x152 (.seq (.region [o (some p2) (.mov (.c (.bool false)))]) (.ret)) (.skip)))) (.region [o (some p147) (.mov x13),
  o (some p148) (.bin .add x147 (.c (iv 1))),
  o (some p13) (.mov x148)]))
def kc_law33_MergeLeavesFew_l3 : ACode := c_law33_MergeLeavesFew_l3
def c_law33_MergeLeavesFew : ACode := .seq (.region [o (some p2) (.mov (.c (.bool false)))]) (.seq (.seq (.region [o (some p14) (.mov x0),
  o (some p15) (.call 6 [x14, (.c (iv 80))]),
  o (some p16) (.un .not x15)]) (.cond x16 (.seq (.region [o (some p17) (.call 7 []),
  o (some p2) (.mov x17)]) (.ret)) (.skip))) (.seq (.region [o (some p3) (.mov (.c (iv 0)))]) (.seq (.seq (.region [o (some p4) (.mov (.c (iv 0)))]) (.block 0 (.loop kc_law33_MergeLeavesFew_l0))) (.seq (.region [o (some p30) (.mov x0),
  o (some p31) (.call 13 [x30]),
  o (some p5) (.mov x31)]) (.seq (.seq (.region [o (some p6) (.mov (.c (iv 0)))]) (.block 2 (.loop kc_law33_MergeLeavesFew_l1))) (.seq (.seq (.region [o (some p86) (.mov x5),
  o (some p87) (.len false x86),
  o (some p88) (.bin .neq x87 (.c (iv 0))),
  o (some p89) (.mov x88),
  og (some p90) (.mov x5) p89 true,
  og (some p91) (.len false x90) p89 true,
  og (some p92) (.bin .neq x91 (.c (iv 4))) p89 true,
  og (some p93) (.mov x92) p89 true,
  og (some p94) (.mov x0) p93 false,
  og (some p95) (.mov x5) p93 false,
  og (some p96) (.call 15 [x94, x95]) p93 false,
  og (some p97) (.bin .gtr x96 (.c (iv 4096))) p93 false,
  og (some p98) (.pick x93 (.c (.bool true)) x97) p89 true,
  o (some p99) (.pick x89 x98 (.c (.bool false)))]) (.cond x99 (.seq (.region [o (some p2) (.mov (.c (.bool false)))]) (.ret)) (.skip))) (.seq (.region [o (some p101) (.mov x0),
  o (some p102) (.call 10 [x101]),
  o (some p100) (.mov x102),
  o (some p103) (.extract x100 0),
  o (some p104) (.extract x100 1),
  o (some p7) (.mov x103),
  o (some p8) (.mov x104)]) (.seq (.region [o (some p9) (.mov (.c (iv 0)))]) (.seq (.region [o (some p10) (.alloc [(iv 0), (iv 0), (iv 0), (iv 0), (iv 0)])]) (.seq (.seq (.region [o (some p11) (.mov (.c (iv 0)))]) (.block 4 (.loop kc_law33_MergeLeavesFew_l2))) (.seq (.seq (.region [o (some p13) (.mov (.c (iv 0)))]) (.block 6 (.loop kc_law33_MergeLeavesFew_l3))) (.seq (.region [o (some p153) (.call 7 []),
  o (some p154) (.mov x153),
  og (some p155) (.mov x9) p154 true,
  og (some p156) (.mov x3) p154 true,
  og (some p157) (.bin .eql x155 x156) p154 true,
  o (some p158) (.pick x154 x157 (.c (.bool false))),
  o (some p159) (.mov x158),
  og (some p160) (.mov x7) p159 true,
  og (some p161) (.call 13 [x160]) p159 true,
  og (some p162) (.len false x161) p159 true,
  og (some p163) (.bin .eql x162 (.c (iv 0))) p159 true,
  o (some p164) (.pick x159 x163 (.c (.bool false))),
  o (some p165) (.mov x164),
  og (some p166) (.mov x7) p165 true,
  og (some p167) (.len false x166) p165 true,
  og (some p168) (.mov x3) p165 true,
  og (some p169) (.bin .quo x168 (.c (iv 1025))) p165 true,
  og (some p170) (.bin .add (.c (iv 12)) x169) p165 true,
  og (some p171) (.bin .leq x167 x170) p165 true,
  o (some p172) (.pick x165 x171 (.c (.bool false))),
  o (some p173) (.mov x172),
  og (some p174) (.mov x8) p173 true,
  og (some p175) (.bin .geq x174 (.c (iv 0))) p173 true,
  o (some p176) (.pick x173 x175 (.c (.bool false))),
  o (some p177) (.mov x176),
  og (some p178) (.mov x8) p177 true,
  og (some p179) (.bin .eql x178 (.c (iv 0))) p177 true,
  og (some p180) (.mov x5) p177 true,
  og (some p181) (.len false x180) p177 true,
  og (some p182) (.bin .eql x181 (.c (iv 0))) p177 true,
  og (some p183) (.eqv false .bool x179 x182) p177 true,
  o (some p184) (.pick x177 x183 (.c (.bool false))),
  o (some p2) (.mov x184)]) (.ret)))))))))))))
def a4 : AFn := ⟨c_law33_MergeLeavesFew, [.t p2]⟩
abbrev f_law33_MergeLeavesFew : Nat := 4
def c_law33_MergeMovesLittle_l0 : ACode := .seq (.seq (.region [o (some p8) (.mov x5),
  o (some p9) (.mov x0),
  o (some p10) (.convI .i64 x9),
  o (some p11) (.bin .rem x10 (.c (iv 401))),
  o (some p12) (.bin .leq x8 x11)]) (.cond x12 (.skip) (.exit 0))) (.seq (.block 1 (.seq (.region [o (some p16) (.bslice 1 0 [] []),
  o (some p17) (.mov x3),
  o (some p18) (.append 1 8 x16 x17),
  o (some p19) (.bslice 1 1 [(iv 0)] [(0, 1, (.c (iv 1)))]),
  o (some p20) (.append 1 8 x18 x19),
  o (some p21) (.call 10 [x20]),
  o (some p15) (.mov x21),
  o (some p22) (.extract x15 0),
  o (some p23) (.extract x15 1),
  o (some p6) (.mov x22),
  o (some p7) (.mov x23)]) (.seq (.region [o (some p24) (.mov x6),
  o (some p3) (.mov x24)]) (.seq (.region [o (some p25) (.mov x4),
  o (some p26) (.mov x7),
  o (some p27) (.bin .add x25 x26),
  o (some p4) (.mov x27)]) (.seq (.region [o (some p28) (.mov x7),
  o (some p29) (.bin .lss x28 (.c (iv 0))),
  o (some p30) (.mov x29),
  og (some p31) (.mov x4) p30 false,
  og (some p32) (.mov x5) p30 false,
  og (some p33) (.bin .mul (.c (iv 7)) x32) p30 false,
  og (some p34) (.bin .gtr x31 x33) p30 false,
  o (some p35) (.pick x30 (.c (.bool true)) x34),
  o (some p36) (.mov x35),
  og (some p37) (.mov x3) p36 false,
  og (some p38) (.len false x37) p36 false,
  og (some p39) (.mov x5) p36 false,
  og (some p40) (.bin .quo x39 (.c (iv 1025))) p36 false,
  og (some p41) (.bin .add (.c (iv 12)) x40) p36 false,
  og (some p42) (.bin .gtr x38 x41) p36 false,
  o (some p43) (.pick x36 (.c (.bool true)) x42)]) (.cond x43 (.seq (.region [o (some p2) (.mov (.c (.bool false)))]) (.ret)) (.skip))))))) (.region [o (some p13) (.mov x5),
  o (some p14) (.bin .add x13 (.c (iv 1))),
  o (some p5) (.mov x14)]))
def kc_law33_MergeMovesLittle_l0 : ACode := c_law33_MergeMovesLittle_l0
def c_law33_MergeMovesLittle : ACode := .seq (.region [o (some p2) (.mov (.c (.bool false)))]) (.seq (.region [o (some p3) (.mov (.c .nilsl))]) (.seq (.region [o (some p4) (.mov (.c (iv 0)))]) (.seq (.seq (.region [o (some p5) (.mov (.c (iv 1)))]) (.block 0 (.loop kc_law33_MergeMovesLittle_l0))) (.seq (.region [o (some p44) (.call 7 []),
  o (some p2) (.mov x44)]) (.ret)))))
def a5 : AFn := ⟨c_law33_MergeMovesLittle, [.t p2]⟩
abbrev f_law33_MergeMovesLittle : Nat := 5
def c_ref33_Counts_l0 : ACode := .seq (.seq (.region [o (some p6) (.mov x5),
  o (some p7) (.mov x0),
  o (some p8) (.len false x7),
  o (some p9) (.bin .lss x6 x8)]) (.cond x9 (.skip) (.exit 0))) (.seq (.block 1 (.seq (.region [o (some p12) (.mov x0),
  o (some p13) (.mov x5),
  o (some p14) (.iaddrS 1 x12 x13),
  o (some p15) (.load x14 false 1),
  o (some p16) (.bin .lss x15 (.c (iv 1))),
  o (some p17) (.mov x16),
  og (some p18) (.mov x0) p17 false,
  og (some p19) (.mov x5) p17 false,
  og (some p20) (.iaddrS 1 x18 x19) p17 false,
  og (some p21) (.load x20 false 1) p17 false,
  og (some p22) (.bin .gtr x21 (.c (iv 4096))) p17 false,
  o (some p23) (.pick x17 (.c (.bool true)) x22)]) (.cond x23 (.seq (.region [o (some p4) (.mov (.c (.bool false)))]) (.ret)) (.skip)))) (.region [o (some p10) (.mov x5),
  o (some p11) (.bin .add x10 (.c (iv 1))),
  o (some p5) (.mov x11)]))
def kc_ref33_Counts_l0 : ACode := c_ref33_Counts_l0
def c_ref33_Counts : ACode := .seq (.region [o (some p4) (.mov (.c (.bool false)))]) (.seq (.seq (.region [o (some p5) (.mov (.c (iv 0)))]) (.block 0 (.loop kc_ref33_Counts_l0))) (.seq (.region [o (some p24) (.mov x0),
  o (some p25) (.len false x24),
  o (some p26) (.mov x1),
  o (some p27) (.bin .leq x25 x26),
  o (some p4) (.mov x27)]) (.ret)))
def a6 : AFn := ⟨c_ref33_Counts, [.t p4]⟩
abbrev f_ref33_Counts : Nat := 6
def c_law33_sanity_l0 : ACode := .seq (.seq (.region [o (some p18) (.mov x3),
  o (some p19) (.mov x1),
  o (some p20) (.len false x19),
  o (some p21) (.bin .lss x18 x20)]) (.cond x21 (.skip) (.exit 0))) (.seq (.block 1 (.seq (.draw [(.p, o (some p24) (.mov x1)),
  (.p, o (some p25) (.mov x3)),
  (.p, o (some p26) (.iaddrS 1 x24 x25)),
  (.l 0 0, o (some p27) (.load x26 false 1)),
  (.e, o (some p28) (.call 8 [x27])),
  (.p, o (some p29) (.mov x2)),
  (.p, o (some p30) (.mov x3)),
  (.p, o (some p31) (.iaddrS 1 x29 x30)),
  (.l 0 1, o (some p32) (.load x31 false 1)),
  (.p, o (some p33) (.bin .neq x28 x32))]) (.cond x33 (.seq (.region [o (some p0) (.mov (.c (.bool false)))]) (.ret)) (.skip)))) (.region [o (some p22) (.mov x3),
  o (some p23) (.bin .add x22 (.c (iv 1))),
  o (some p3) (.mov x23)]))
def kc_law33_sanity_l0 : ACode := c_law33_sanity_l0
def c_law33_sanity : ACode := .seq (.region [o (some p0) (.mov (.c (.bool false)))]) (.seq (.region [o (some p16) (.bslice 1 6 [(iv 0), (iv 0), (iv 0), (iv 0), (iv 0), (iv 0)] [(0, 1, (.c (iv 1))), (1, 1, (.c (iv 16))), (2, 1, (.c (iv 17))), (3, 1, (.c (iv 64))), (4, 1, (.c (iv 65))), (5, 1, (.c (iv 4096)))]),
  o (some p1) (.mov x16)]) (.seq (.region [o (some p17) (.bslice 1 6 [(iv 0), (iv 0), (iv 0), (iv 0), (iv 0), (iv 0)] [(0, 1, (.c (iv 0))), (1, 1, (.c (iv 0))), (2, 1, (.c (iv 1))), (3, 1, (.c (iv 1))), (4, 1, (.c (iv 2))), (5, 1, (.c (iv 4)))]),
  o (some p2) (.mov x17)]) (.seq (.seq (.region [o (some p3) (.mov (.c (iv 0)))]) (.block 0 (.loop kc_law33_sanity_l0))) (.seq (.seq (.region [o (some p34) (.bslice 1 7 [(iv 0), (iv 0), (iv 0), (iv 0), (iv 0), (iv 0), (iv 0)] [(0, 1, (.c (iv 20))), (1, 1, (.c (iv 1))), (2, 1, (.c (iv 3))), (3, 1, (.c (iv 30))), (4, 1, (.c (iv 2))), (5, 1, (.c (iv 2))), (6, 1, (.c (iv 9)))]),
  o (some p35) (.call 13 [x34]),
  o (some p36) (.bslice 1 4 [(iv 0), (iv 0), (iv 0), (iv 0)] [(0, 1, (.c (iv 1))), (1, 1, (.c (iv 2))), (2, 1, (.c (iv 4))), (3, 1, (.c (iv 5)))]),
  o (some p37) (.call 12 [x35, x36]),
  o (some p38) (.un .not x37),
  o (some p39) (.mov x38),
  og (some p40) (.bslice 1 4 [(iv 0), (iv 0), (iv 0), (iv 0)] [(0, 1, (.c (iv 4000))), (1, 1, (.c (iv 4000))), (2, 1, (.c (iv 4000))), (3, 1, (.c (iv 4000)))]) p39 false,
  og (some p41) (.call 13 [x40]) p39 false,
  og (some p42) (.len false x41) p39 false,
  og (some p43) (.bin .neq x42 (.c (iv 0))) p39 false,
  o (some p44) (.pick x39 (.c (.bool true)) x43),
  o (some p45) (.mov x44),
  og (some p46) (.bslice 1 4 [(iv 0), (iv 0), (iv 0), (iv 0)] [(0, 1, (.c (iv 1))), (1, 1, (.c (iv 1))), (2, 1, (.c (iv 1))), (3, 1, (.c (iv 17)))]) p45 false,
  og (some p47) (.call 13 [x46]) p45 false,
  og (some p48) (.len false x47) p45 false,
  og (some p49) (.bin .neq x48 (.c (iv 0))) p45 false,
  o (some p50) (.pick x45 (.c (.bool true)) x49)]) (.cond x50 (.seq (.region [o (some p0) (.mov (.c (.bool false)))]) (.ret)) (.skip))) (.seq (.region [o (some p52) (.bslice 1 6 [(iv 0), (iv 0), (iv 0), (iv 0), (iv 0), (iv 0)] [(0, 1, (.c (iv 1))), (1, 1, (.c (iv 1))), (2, 1, (.c (iv 1))), (3, 1, (.c (iv 1))), (4, 1, (.c (iv 5))), (5, 1, (.c (iv 20)))]),
  o (some p53) (.call 10 [x52]),
  o (some p51) (.mov x53),
  o (some p54) (.extract x51 0),
  o (some p55) (.extract x51 1),
  o (some p4) (.mov x54),
  o (some p5) (.mov x55)]) (.seq (.region [o (some p56) (.build [(iv 0), (iv 0), .nilsl] [(0, 1, (.c (iv 1))), (1, 1, (.c (iv 1)))]),
  o (some p6) (.alloc [(iv 0), (iv 0), .nilsl]),
  o none (.store x6 x56 3)]) (.seq (.draw [(.l 0 2, o (some p58) (.load x6 true 3)),
  (.e, o (some p59) (.call 17 [(.c (iv 1)), (.c (iv 1)), (.c (iv 1))])),
  (.e, o (some p60) (.call 17 [(.c (iv 2)), (.c (iv 1)), (.c (iv 2))])),
  (.p, o (some p61) (.bslice 9 2 [(iv 0), (iv 0), (iv 0), (iv 0), (iv 0), (iv 0), (iv 0), .nilsl, .nilsl, (iv 0), (iv 0), (iv 0), (iv 0), (iv 0), (iv 0), (iv 0), .nilsl, .nilsl] [(0, 9, x59), (9, 9, x60)])),
  (.e, o (some p62) (.call 16 [x58, (.c (iv 1)), (.c (iv 0)), x61])),
  (.p, o (some p57) (.mov x62)),
  (.p, o (some p63) (.extract x57 0)),
  (.p, o (some p64) (.extract x57 1)),
  (.pre 0 3, o (some p7) (.alloc [(iv 0), (iv 0), .nilsl, (iv 0), .nilsl, .nilsl, .nilsl, (iv 0), (iv 0), (iv 0), (iv 0), (iv 0), .nilsl, .nilsl, .nilsl, .nilsl, .nilsl])),
  (.e, o none (.store x7 x63 17)),
  (.p, o (some p8) (.mov x64))]) (.seq (.draw [(.l 0 1, o (some p66) (.load x6 true 3)),
  (.e, o (some p67) (.call 17 [(.c (iv 1)), (.c (iv 2)), (.c (iv 3))])),
  (.p, o (some p68) (.bslice 9 1 [(iv 0), (iv 0), (iv 0), (iv 0), (iv 0), (iv 0), (iv 0), .nilsl, .nilsl] [(0, 9, x67)])),
  (.e, o (some p69) (.call 16 [x66, (.c (iv 2)), (.c (iv 1)), x68])),
  (.p, o (some p65) (.mov x69)),
  (.p, o (some p70) (.extract x65 0)),
  (.p, o (some p71) (.extract x65 1)),
  (.pre 0 2, o (some p9) (.alloc [(iv 0), (iv 0), .nilsl, (iv 0), .nilsl, .nilsl, .nilsl, (iv 0), (iv 0), (iv 0), (iv 0), (iv 0), .nilsl, .nilsl, .nilsl, .nilsl, .nilsl])),
  (.e, o none (.store x9 x70 17)),
  (.p, o (some p10) (.mov x71))]) (.seq (.region [o (some p73) (.load x7 true 17),
  o (some p74) (.call 18 [x73, (.c (iv 1)), (.c (iv 1)), (.c (iv 3))]),
  o (some p72) (.mov x74),
  o (some p75) (.extract x72 0),
  o (some p76) (.extract x72 1),
  o none (.store x7 x75 17),
  o (some p11) (.mov x76)]) (.seq (.seq (.region [o (some p77) (.mov x4),
  o (some p78) (.bslice 1 3 [(iv 0), (iv 0), (iv 0)] [(0, 1, (.c (iv 5))), (1, 1, (.c (iv 20))), (2, 1, (.c (iv 4)))]),
  o (some p79) (.call 12 [x77, x78]),
  o (some p80) (.un .not x79),
  o (some p81) (.mov x80),
  og (some p82) (.mov x5) p81 false,
  og (some p83) (.bin .neq x82 (.c (iv 4))) p81 false,
  o (some p84) (.pick x81 (.c (.bool true)) x83),
  o (some p85) (.mov x84),
  og (some p86) (.mov x8) p85 false,
  og (some p87) (.bin .neq x86 (.c (iv 0))) p85 false,
  o (some p88) (.pick x85 (.c (.bool true)) x87),
  o (some p89) (.mov x88),
  og (some p90) (.mov x10) p89 false,
  og (some p91) (.bin .neq x90 (.c (iv 0))) p89 false,
  o (some p92) (.pick x89 (.c (.bool true)) x91),
  o (some p93) (.mov x92),
  og (some p94) (.mov x11) p93 false,
  og (some p95) (.bin .neq x94 (.c (iv 0))) p93 false,
  o (some p96) (.pick x93 (.c (.bool true)) x95)]) (.cond x96 (.seq (.region [o (some p0) (.mov (.c (.bool false)))]) (.ret)) (.skip))) (.seq (.region [o (some p98) (.load x6 true 3),
  o (some p99) (.load x7 true 17),
  o (some p100) (.load x9 true 17),
  o (some p101) (.bslice 17 2 [(iv 0), (iv 0), .nilsl, (iv 0), .nilsl, .nilsl, .nilsl, (iv 0), (iv 0), (iv 0), (iv 0), (iv 0), .nilsl, .nilsl, .nilsl, .nilsl, .nilsl, (iv 0), (iv 0), .nilsl, (iv 0), .nilsl, .nilsl, .nilsl, (iv 0), (iv 0), (iv 0), (iv 0), (iv 0), .nilsl, .nilsl, .nilsl, .nilsl, .nilsl] [(0, 17, x99), (17, 17, x100)]),
  o (some p102) (.call 19 [x98, x101, (.c (iv 3)), (.c (iv 2)), (.c .nilsl)]),
  o (some p97) (.mov x102),
  o (some p103) (.extract x97 0),
  o (some p104) (.extract x97 1),
  o (some p12) (.alloc [(iv 0), (iv 0), .nilsl, (iv 0), .nilsl, .nilsl, .nilsl, (iv 0), (iv 0), (iv 0), (iv 0), (iv 0), .nilsl, .nilsl, .nilsl, .nilsl, .nilsl]),
  o none (.store x12 x103 17),
  o (some p13) (.mov x104)]) (.seq (.region [o (some p106) (.load x6 true 3),
  o (some p107) (.load x7 true 17),
  o (some p108) (.load x9 true 17),
  o (some p109) (.bslice 17 2 [(iv 0), (iv 0), .nilsl, (iv 0), .nilsl, .nilsl, .nilsl, (iv 0), (iv 0), (iv 0), (iv 0), (iv 0), .nilsl, .nilsl, .nilsl, .nilsl, .nilsl, (iv 0), (iv 0), .nilsl, (iv 0), .nilsl, .nilsl, .nilsl, (iv 0), (iv 0), (iv 0), (iv 0), (iv 0), .nilsl, .nilsl, .nilsl, .nilsl, .nilsl] [(0, 17, x107), (17, 17, x108)]),
  o (some p110) (.build [(iv 0), (iv 0), (iv 0), (iv 0), (.int .u8 0), (.int .u8 0), (.int .u8 0), (.int .u8 0), (.int .u8 0), (.int .u8 0), (.int .u8 0), (.int .u8 0), (.int .u8 0), (.int .u8 0), (.int .u8 0), (.int .u8 0), (.int .u8 0), (.int .u8 0), (.int .u8 0), (.int .u8 0)] [(0, 1, (.c (iv 1))), (1, 1, (.c (iv 1))), (2, 1, (.c (iv 1))), (3, 1, (.c (iv 3)))]),
  o (some p111) (.bslice 20 1 [(iv 0), (iv 0), (iv 0), (iv 0), (.int .u8 0), (.int .u8 0), (.int .u8 0), (.int .u8 0), (.int .u8 0), (.int .u8 0), (.int .u8 0), (.int .u8 0), (.int .u8 0), (.int .u8 0), (.int .u8 0), (.int .u8 0), (.int .u8 0), (.int .u8 0), (.int .u8 0), (.int .u8 0)] [(0, 20, x110)]),
  o (some p112) (.call 19 [x106, x109, (.c (iv 1)), (.c (iv 0)), x111]),
  o (some p105) (.mov x112),
  o (some p113) (.extract x105 0),
  o (some p114) (.extract x105 1),
  o (some p14) (.alloc [(iv 0), (iv 0), .nilsl, (iv 0), .nilsl, .nilsl, .nilsl, (iv 0), (iv 0), (iv 0), (iv 0), (iv 0), .nilsl, .nilsl, .nilsl, .nilsl, .nilsl]),
  o none (.store x14 x113 17),
  o (some p15) (.mov x114)]) (.seq (.region [o (some p115) (.mov x13),
  o (some p116) (.bin .eql x115 (.c (iv 0))),
  o (some p117) (.mov x116),
  og (some p118) (.mov x15) p117 true,
  og (some p119) (.bin .eql x118 (.c (iv 0))) p117 true,
  o (some p120) (.pick x117 x119 (.c (.bool false))),
  o (some p121) (.mov x120),
  og (some p122) (.load x12 true 17) p121 true,
  og (some p123) (.call 20 [x122]) p121 true,
  og (some p124) (.len false x123) p121 true,
  og (some p125) (.bin .eql x124 (.c (iv 3))) p121 true,
  o (some p126) (.pick x121 x125 (.c (.bool false))),
  o (some p127) (.mov x126),
  og (some p128) (.load x14 true 17) p127 true,
  og (some p129) (.call 20 [x128]) p127 true,
  og (some p130) (.len false x129) p127 true,
  og (some p131) (.bin .eql x130 (.c (iv 2))) p127 true,
  o (some p132) (.pick x127 x131 (.c (.bool false))),
  o (some p133) (.mov x132),
  og (some p134) (.load x7 true 17) p133 true,
  og (some p135) (.load x9 true 17) p133 true,
  og (some p136) (.bslice 17 2 [(iv 0), (iv 0), .nilsl, (iv 0), .nilsl, .nilsl, .nilsl, (iv 0), (iv 0), (iv 0), (iv 0), (iv 0), .nilsl, .nilsl, .nilsl, .nilsl, .nilsl, (iv 0), (iv 0), .nilsl, (iv 0), .nilsl, .nilsl, .nilsl, (iv 0), (iv 0), (iv 0), (iv 0), (iv 0), .nilsl, .nilsl, .nilsl, .nilsl, .nilsl] [(0, 17, x134), (17, 17, x135)]) p133 true,
  og (some p137) (.call 21 [x136]) p133 true,
  og (some p138) (.len false x137) p133 true,
  og (some p139) (.bin .eql x138 (.c (iv 3))) p133 true,
  o (some p140) (.pick x133 x139 (.c (.bool false))),
  o (some p0) (.mov x140)]) (.ret))))))))))))))
def a7 : AFn := ⟨c_law33_sanity, [.t p0]⟩
abbrev f_law33_sanity : Nat := 7
def c_merge_Class_l0 : ACode := .seq (.seq (.region [o (some p5) (.mov x0),
  o (some p6) (.mov x4),
  o (some p7) (.bin .gtr x5 x6)]) (.cond x7 (.skip) (.exit 0))) (.block 1 (.region [o (some p8) (.mov x3),
  o (some p9) (.bin .add x8 (.c (iv 1))),
  o (some p10) (.mov x4),
  o (some p11) (.bin .mul (.c (iv 4)) x10),
  o (some p3) (.mov x9),
  o (some p4) (.mov x11)]))
def kc_merge_Class_l0 : ACode := c_merge_Class_l0
def c_merge_Class : ACode := .seq (.region [o (some p2) (.mov (.c (iv 0)))]) (.seq (.region [o (some p3) (.mov (.c (iv 0))),
  o (some p4) (.mov (.c (iv 16)))]) (.seq (.block 0 (.loop kc_merge_Class_l0)) (.seq (.region [o (some p12) (.mov x3),
  o (some p2) (.mov x12)]) (.ret))))
def a8 : AFn := ⟨c_merge_Class, [.t p2]⟩
abbrev f_merge_Class : Nat := 8
def c_ref33_Class_l0 : ACode := .seq (.seq (.region [o (some p5) (.mov x0),
  o (some p6) (.mov x4),
  o (some p7) (.bin .gtr x5 x6)]) (.cond x7 (.skip) (.exit 0))) (.seq (.block 1 (.region [o (some p10) (.mov x3),
  o (some p11) (.bin .add x10 (.c (iv 1))),
  o (some p3) (.mov x11)])) (.region [o (some p8) (.mov x4),
  o (some p9) (.bin .mul (.c (iv 4)) x8),
  o (some p4) (.mov x9)]))
def kc_ref33_Class_l0 : ACode := c_ref33_Class_l0
def c_ref33_Class : ACode := .seq (.region [o (some p2) (.mov (.c (iv 0)))]) (.seq (.region [o (some p3) (.mov (.c (iv 0)))]) (.seq (.seq (.region [o (some p4) (.mov (.c (iv 16)))]) (.block 0 (.loop kc_ref33_Class_l0))) (.seq (.region [o (some p12) (.mov x3),
  o (some p2) (.mov x12)]) (.ret))))
def a9 : AFn := ⟨c_ref33_Class, [.t p2]⟩
abbrev f_ref33_Class : Nat := 9
def c_merge_Settle_l1 : ACode := .block 3 (.seq (.draw [(.l 0 0, o (some p23) (.load x7 false 1)),
  (.l 0 0, o (some p24) (.load x4 false 1)),
  (.p, o (some p25) (.mov x9)),
  (.p, o (some p26) (.iaddrS 1 x24 x25)),
  (.l 0 0, o (some p27) (.load x26 false 1)),
  (.p, o (some p28) (.bin .add x23 x27)),
  (.e, o none (.store x7 x28 1))]) (.region [o (some p29) (.load x4 false 1),
  o (some p30) (.mov x9),
  o (some p31) (.mov x9),
  o (some p32) (.bin .add x31 (.c (iv 1))),
  o (some p33) (.call 24 [x29, x30, x32]),
  o none (.store x4 x33 1)]))
def kc_merge_Settle_l1 : ACode := c_merge_Settle_l1
def c_merge_Settle_l0 : ACode := .seq (.seq (.region [o (some p14) (.mov x6),
  o (some p15) (.len false x14),
  o (some p16) (.bin .gtr x15 (.c (iv 0)))]) (.cond x16 (.skip) (.exit 0))) (.seq (.block 1 (.seq (.region [o (some p7) (.alloc [(iv 0)]),
  o none (.store x7 (.c (iv 0)) 1)]) (.seq (.seq (.region [o (some p19) (.mov x6),
  o (some p20) (.call 23 [x19])]) (.block 2 (.rangef x20 [p21, p22] (.region [o (some p9) (.mov x22)]) kc_merge_Settle_l1))) (.draw [(.l 0 0, o (some p34) (.load x4 false 1)),
  (.l 0 0, o (some p35) (.load x7 false 1)),
  (.p, o (some p36) (.bslice 1 1 [(iv 0)] [(0, 1, x35)])),
  (.e, o (some p37) (.append 1 8 x34 x36)),
  (.p, o (some p38) (.mov x5)),
  (.l 0 2, o (some p39) (.load x7 false 1)),
  (.p, o (some p40) (.bin .add x38 x39)),
  (.e, o none (.store x4 x37 1)),
  (.p, o (some p5) (.mov x40))])))) (.region [o (some p17) (.load x4 false 1),
  o (some p18) (.call 13 [x17]),
  o (some p6) (.mov x18)]))
def kc_merge_Settle_l0 : ACode := c_merge_Settle_l0
def c_merge_Settle : ACode := .seq (.region [o (some p2) (.mov (.c .nilsl)),
  o (some p3) (.mov (.c (iv 0)))]) (.seq (.region [o (some p10) (.mov x0),
  o (some p11) (.call 22 [x10]),
  o (some p4) (.alloc [.nilsl]),
  o none (.store x4 x11 1),
  o (some p5) (.mov (.c (iv 0)))]) (.seq (.seq (.region [o (some p12) (.load x4 false 1),
  o (some p13) (.call 13 [x12]),
  o (some p6) (.mov x13)]) (.block 0 (.loop kc_merge_Settle_l0))) (.seq (.region [o (some p41) (.load x4 false 1),
  o (some p42) (.mov x5),
  o (some p2) (.mov x41),
  o (some p3) (.mov x42)]) (.ret))))
def a10 : AFn := ⟨c_merge_Settle, [.t p2, .t p3]⟩
abbrev f_merge_Settle : Nat := 10
def c_ref33_Settle_l1 : ACode := .seq (.seq (.region [o (some p23) (.mov x7),
  o (some p24) (.faddr 0 x3),
  o (some p25) (.load x24 false 1),
  o (some p26) (.len false x25),
  o (some p27) (.bin .lss x23 x26)]) (.cond x27 (.skip) (.exit 2))) (.seq (.block 3 (.seq (.region [o (some p30) (.mov x4),
  o (some p31) (.mov x7),
  o (some p32) (.call 25 [x30, x31]),
  o (some p33) (.un .not x32)]) (.cond x33 (.region [o (some p34) (.mov x6),
  o (some p35) (.faddr 0 x3),
  o (some p36) (.load x35 false 1),
  o (some p37) (.mov x7),
  o (some p38) (.iaddrS 1 x36 x37),
  o (some p39) (.load x38 false 1),
  o (some p40) (.bslice 1 1 [(iv 0)] [(0, 1, x39)]),
  o (some p41) (.append 1 8 x34 x40),
  o (some p6) (.mov x41)]) (.skip)))) (.region [o (some p28) (.mov x7),
  o (some p29) (.bin .add x28 (.c (iv 1))),
  o (some p7) (.mov x29)]))
def kc_ref33_Settle_l1 : ACode := c_ref33_Settle_l1
def c_ref33_Settle_l0 : ACode := .block 1 (.seq (.region [o (some p12) (.faddr 0 x3),
  o (some p13) (.load x12 false 1),
  o (some p14) (.call 14 [x13]),
  o (some p4) (.mov x14)]) (.seq (.seq (.region [o (some p15) (.mov x4),
  o (some p16) (.len false x15),
  o (some p17) (.bin .eql x16 (.c (iv 0)))]) (.cond x17 (.seq (.region [o (some p18) (.load x3 true 2),
  o none (.store x2 x18 2)]) (.ret)) (.skip))) (.seq (.region [o (some p19) (.faddr 0 x3),
  o (some p20) (.load x19 false 1),
  o (some p21) (.mov x4),
  o (some p22) (.call 15 [x20, x21]),
  o (some p5) (.mov x22)]) (.seq (.region [o (some p6) (.mov (.c .nilsl))]) (.seq (.seq (.region [o (some p7) (.mov (.c (iv 0)))]) (.block 2 (.loop kc_ref33_Settle_l1))) (.draw [(.p, o (some p42) (.mov x6)),
  (.p, o (some p43) (.mov x5)),
  (.p, o (some p44) (.bslice 1 1 [(iv 0)] [(0, 1, x43)])),
  (.e, o (some p45) (.append 1 8 x42 x44)),
  (.p, o (some p46) (.faddr 1 x3)),
  (.l 0 1, o (some p47) (.load x46 false 1)),
  (.p, o (some p48) (.mov x5)),
  (.p, o (some p49) (.bin .add x47 x48)),
  (.p, o (some p50) (.build [.nilsl, (iv 0)] [(0, 1, x45), (1, 1, x49)])),
  (.e, o none (.store x3 x50 2))]))))))
def kc_ref33_Settle_l0 : ACode := c_ref33_Settle_l0
def c_ref33_Settle : ACode := .seq (.region [o (some p2) (.alloc [.nilsl, (iv 0)])]) (.seq (.region [o (some p8) (.bslice 1 0 [] []),
  o (some p9) (.mov x0),
  o (some p10) (.append 1 8 x8 x9),
  o (some p11) (.build [.nilsl, (iv 0)] [(0, 1, x10)]),
  o (some p3) (.alloc [.nilsl, (iv 0)]),
  o none (.store x3 x11 2)]) (.block 0 (.loop kc_ref33_Settle_l0)))
def a11 : AFn := ⟨c_ref33_Settle, [.cell p2 true 2]⟩
abbrev f_ref33_Settle : Nat := 11
def c_ref33_Same_l0 : ACode := .seq (.seq (.region [o (some p11) (.mov x5),
  o (some p12) (.mov x0),
  o (some p13) (.len false x12),
  o (some p14) (.bin .lss x11 x13)]) (.cond x14 (.skip) (.exit 0))) (.seq (.block 1 (.seq (.draw [(.p, o (some p17) (.mov x0)),
  (.p, o (some p18) (.mov x5)),
  (.p, o (some p19) (.iaddrS 1 x17 x18)),
  (.l 0 0, o (some p20) (.load x19 false 1)),
  (.p, o (some p21) (.mov x1)),
  (.p, o (some p22) (.mov x5)),
  (.p, o (some p23) (.iaddrS 1 x21 x22)),
  (.l 0 0, o (some p24) (.load x23 false 1)),
  (.p, o (some p25) (.bin .neq x20 x24))]) (.cond x25 (.seq (.region [o (some p4) (.mov (.c (.bool false)))]) (.ret)) (.skip)))) (.region [o (some p15) (.mov x5),
  o (some p16) (.bin .add x15 (.c (iv 1))),
  o (some p5) (.mov x16)]))
def kc_ref33_Same_l0 : ACode := c_ref33_Same_l0
def c_ref33_Same : ACode := .seq (.region [o (some p4) (.mov (.c (.bool false)))]) (.seq (.seq (.region [o (some p6) (.mov x0),
  o (some p7) (.len false x6),
  o (some p8) (.mov x1),
  o (some p9) (.len false x8),
  o (some p10) (.bin .neq x7 x9)]) (.cond x10 (.seq (.region [o (some p4) (.mov (.c (.bool false)))]) (.ret)) (.skip))) (.seq (.seq (.region [o (some p5) (.mov (.c (iv 0)))]) (.block 0 (.loop kc_ref33_Same_l0))) (.seq (.region [o (some p4) (.mov (.c (.bool true)))]) (.ret))))
def a12 : AFn := ⟨c_ref33_Same, [.t p4]⟩
abbrev f_ref33_Same : Nat := 12
def c_merge_Pick_l0 : ACode := .seq (.region [o (some p15) (.bin .lss x14 x13)]) (.seq (.cond x15 (.skip) (.exit 0)) (.seq (.block 1 (.seq (.region [o (some p16) (.mov x14),
  o (some p17) (.iaddrS 1 x12 x14),
  o (some p18) (.load x17 false 1),
  o (some p4) (.mov x16),
  o (some p5) (.mov x18)]) (.region [o (some p19) (.mov x5),
  o (some p20) (.call 8 [x19]),
  o (some p21) (.mov x5),
  o (some p22) (.call 8 [x21]),
  o (some p23) (.iaddrA 5 1 x3 x22),
  o (some p24) (.load x23 false 1),
  o (some p25) (.mov x4),
  o (some p26) (.bslice 1 1 [(iv 0)] [(0, 1, x25)]),
  o (some p27) (.append 1 8 x24 x26),
  o (some p28) (.iaddrA 5 1 x3 x20),
  o none (.store x28 x27 1)]))) (.region [o (some p29) (.bin .add x14 (.c (iv 1))),
  o (some p14) (.mov x29)])))
def kc_merge_Pick_l0 : ACode := c_merge_Pick_l0
def c_merge_Pick_l2 : ACode := .seq (.region [o (some p44) (.bin .lss x43 x42)]) (.seq (.cond x44 (.skip) (.exit 4)) (.seq (.block 5 (.seq (.region [o (some p45) (.iaddrS 1 x41 x43),
  o (some p46) (.load x45 false 1),
  o (some p11) (.mov x46)]) (.seq (.region [o (some p47) (.mov x9),
  o (some p48) (.load x1 false 1),
  o (some p49) (.mov x11),
  o (some p50) (.iaddrS 1 x48 x49),
  o (some p51) (.load x50 false 1),
  o (some p52) (.bin .add x47 x51),
  o (some p9) (.mov x52)]) (.seq (.region [o (some p53) (.mov x9),
  o (some p54) (.bin .gtr x53 (.c (iv 4096)))]) (.cond x54 (.exit 3) (.skip)))))) (.region [o (some p55) (.bin .add x43 (.c (iv 1))),
  o (some p43) (.mov x55)])))
def kc_merge_Pick_l2 : ACode := c_merge_Pick_l2
def c_merge_Pick_l1 : ACode := .seq (.region [o (some p32) (.bin .lss x31 (.c (iv 5)))]) (.seq (.cond x32 (.skip) (.exit 2)) (.seq (.block 3 (.seq (.region [o (some p33) (.idxA 5 1 false x30 x31),
  o (some p7) (.mov x33)]) (.seq (.seq (.region [o (some p34) (.mov x7),
  o (some p35) (.len false x34),
  o (some p36) (.bin .lss x35 (.c (iv 4)))]) (.cond x36 (.exit 3) (.skip))) (.seq (.region [o (some p37) (.mov x7),
  o (some p38) (.mkfn 27 [] [x1]),
  o (some p39) (.call 26 [x37, x38]),
  o (some p40) (.slice 1 x39 none (some (.c (iv 4))) none),
  o (some p8) (.mov x40)]) (.seq (.region [o (some p9) (.mov (.c (iv 0)))]) (.seq (.seq (.region [o (some p41) (.mov x8),
  o (some p42) (.len false x41),
  o (some p43) (.mov (.c (iv 0)))]) (.block 4 (.loop kc_merge_Pick_l2))) (.seq (.region [o (some p56) (.mov x8),
  o (some p57) (.call 26 [x56, (.c (.fn 28 [] []))]),
  o (some p2) (.mov x57)]) (.ret)))))))) (.region [o (some p58) (.bin .add x31 (.c (iv 1))),
  o (some p31) (.mov x58)])))
def kc_merge_Pick_l1 : ACode := c_merge_Pick_l1
def c_merge_Pick : ACode := .seq (.region [o (some p1) (.box x0),
  o (some p2) (.mov (.c .nilsl))]) (.seq (.region [o (some p3) (.alloc [.nilsl, .nilsl, .nilsl, .nilsl, .nilsl])]) (.seq (.seq (.region [o (some p12) (.load x1 false 1),
  o (some p13) (.len false x12),
  o (some p14) (.mov (.c (iv 0)))]) (.block 0 (.loop kc_merge_Pick_l0))) (.seq (.skip) (.seq (.seq (.region [o (some p30) (.load x3 true 5),
  o (some p31) (.mov (.c (iv 0)))]) (.block 2 (.loop kc_merge_Pick_l1))) (.seq (.region [o (some p2) (.mov (.c .nilsl))]) (.ret))))))
def a13 : AFn := ⟨c_merge_Pick, [.t p2]⟩
abbrev f_merge_Pick : Nat := 13
def c_ref33_Pick_l0 : ACode := .seq (.seq (.region [o (some p5) (.mov x3),
  o (some p6) (.bin .leq x5 (.c (iv 4)))]) (.cond x6 (.skip) (.exit 0))) (.seq (.block 1 (.seq (.region [o (some p9) (.mov x0),
  o (some p10) (.mov x3),
  o (some p11) (.call 29 [x9, x10]),
  o (some p4) (.mov x11)]) (.seq (.region [o (some p12) (.mov x4),
  o (some p13) (.len false x12),
  o (some p14) (.bin .gtr x13 (.c (iv 0))),
  o (some p15) (.mov x14),
  og (some p16) (.mov x0) p15 true,
  og (some p17) (.mov x4) p15 true,
  og (some p18) (.call 15 [x16, x17]) p15 true,
  og (some p19) (.bin .leq x18 (.c (iv 4096))) p15 true,
  o (some p20) (.pick x15 x19 (.c (.bool false)))]) (.cond x20 (.seq (.region [o (some p21) (.mov x4),
  o (some p2) (.mov x21)]) (.ret)) (.skip))))) (.region [o (some p7) (.mov x3),
  o (some p8) (.bin .add x7 (.c (iv 1))),
  o (some p3) (.mov x8)]))
def kc_ref33_Pick_l0 : ACode := c_ref33_Pick_l0
def c_ref33_Pick : ACode := .seq (.region [o (some p2) (.mov (.c .nilsl))]) (.seq (.seq (.region [o (some p3) (.mov (.c (iv 0)))]) (.block 0 (.loop kc_ref33_Pick_l0))) (.seq (.region [o (some p2) (.mov (.c .nilsl))]) (.ret)))
def a14 : AFn := ⟨c_ref33_Pick, [.t p2]⟩
abbrev f_ref33_Pick : Nat := 14
def c_ref33_Sum_l0 : ACode := .seq (.seq (.region [o (some p7) (.mov x6),
  o (some p8) (.mov x1),
  o (some p9) (.len false x8),
  o (some p10) (.bin .lss x7 x9)]) (.cond x10 (.skip) (.exit 0))) (.seq (.block 1 (.region [o (some p13) (.mov x5),
  o (some p14) (.mov x0),
  o (some p15) (.mov x1),
  o (some p16) (.mov x6),
  o (some p17) (.iaddrS 1 x15 x16),
  o (some p18) (.load x17 false 1),
  o (some p19) (.iaddrS 1 x14 x18),
  o (some p20) (.load x19 false 1),
  o (some p21) (.bin .add x13 x20),
  o (some p5) (.mov x21)])) (.region [o (some p11) (.mov x6),
  o (some p12) (.bin .add x11 (.c (iv 1))),
  o (some p6) (.mov x12)]))
def kc_ref33_Sum_l0 : ACode := c_ref33_Sum_l0
def c_ref33_Sum : ACode := .seq (.region [o (some p4) (.mov (.c (iv 0)))]) (.seq (.region [o (some p5) (.mov (.c (iv 0)))]) (.seq (.seq (.region [o (some p6) (.mov (.c (iv 0)))]) (.block 0 (.loop kc_ref33_Sum_l0))) (.seq (.region [o (some p22) (.mov x5),
  o (some p4) (.mov x22)]) (.ret))))
def a15 : AFn := ⟨c_ref33_Sum, [.t p4]⟩
abbrev f_ref33_Sum : Nat := 15
def c_segment_Build_l0 : ACode := .seq (.seq (.region [o (some p46) (.mov x12),
  o (some p47) (.mov x3),
  o (some p48) (.len false x47),
  o (some p49) (.bin .lss x46 x48)]) (.cond x49 (.skip) (.exit 0))) (.seq (.block 1 (.seq (.draw [(.p, o (some p52) (.mov x3)),
  (.p, o (some p53) (.mov x12)),
  (.p, o (some p54) (.bin .sub x53 (.c (iv 1)))),
  (.p, o (some p55) (.iaddrS 9 x52 x54)),
  (.l 0 0, o (some p56) (.load x55 true 9)),
  (.p, o (some p57) (.mov x3)),
  (.p, o (some p58) (.mov x12)),
  (.p, o (some p59) (.iaddrS 9 x57 x58)),
  (.l 0 0, o (some p60) (.load x59 true 9)),
  (.e, o (some p61) (.call 33 [x56, x60])),
  (.p, o (some p62) (.bin .eql x61 (.c (iv 0))))]) (.cond x62 (.seq (.region [o (some p63) (.build [(iv 0), (iv 0), .nilsl, (iv 0), .nilsl, .nilsl, .nilsl, (iv 0), (iv 0), (iv 0), (iv 0), (iv 0), .nilsl, .nilsl, .nilsl, .nilsl, .nilsl] []),
  o none (.store x8 x63 17),
  o (some p9) (.mov (.c (iv 6)))]) (.ret)) (.skip)))) (.region [o (some p50) (.mov x12),
  o (some p51) (.bin .add x50 (.c (iv 1))),
  o (some p12) (.mov x51)]))
def kc_segment_Build_l0 : ACode := c_segment_Build_l0
def c_segment_Build_l1 : ACode := .seq (.region [o (some p91) (.bin .lss x90 x89)]) (.seq (.cond x91 (.skip) (.exit 2)) (.seq (.block 3 (.seq (.region [o (some p92) (.iaddrS 1 x88 x90),
  o (some p93) (.load x92 false 1),
  o (some p17) (.mov x93)]) (.draw [(.p, o (some p94) (.faddr 4 x13)),
  (.p, o (some p95) (.faddr 2 x94)),
  (.l 0 0, o (some p96) (.load x95 false 1)),
  (.p, o (some p97) (.mov x3)),
  (.p, o (some p98) (.mov x17)),
  (.p, o (some p99) (.iaddrS 9 x97 x98)),
  (.p, o (some p100) (.faddr 7 x99)),
  (.l 0 0, o (some p101) (.load x100 false 1)),
  (.p, o (some p102) (.bslice 1 1 [.nilsl] [(0, 1, x101)])),
  (.e, o (some p103) (.append 1 24 x96 x102)),
  (.p, o (some p104) (.faddr 4 x13)),
  (.p, o (some p105) (.faddr 2 x104)),
  (.e, o none (.store x105 x103 1))]))) (.region [o (some p106) (.bin .add x90 (.c (iv 1))),
  o (some p90) (.mov x106)])))
def kc_segment_Build_l1 : ACode := c_segment_Build_l1
def c_segment_Build : ACode := .seq (.region [o (some p4) (.box x0),
  o (some p8) (.alloc [(iv 0), (iv 0), .nilsl, (iv 0), .nilsl, .nilsl, .nilsl, (iv 0), (iv 0), (iv 0), (iv 0), (iv 0), .nilsl, .nilsl, .nilsl, .nilsl, .nilsl]),
  o (some p9) (.mov (.c (iv 0)))]) (.seq (.seq (.region [o (some p18) (.mov x1),
  o (some p19) (.bin .lss x18 (.c (iv 1))),
  o (some p20) (.mov x19),
  og (some p21) (.mov x1) p20 false,
  og (some p22) (.bin .gtr x21 (.c (iv 3))) p20 false,
  o (some p23) (.pick x20 (.c (.bool true)) x22),
  o (some p24) (.mov x23),
  og (some p25) (.mov x2) p24 false,
  og (some p26) (.bin .lss x25 (.c (iv 0))) p24 false,
  o (some p27) (.pick x24 (.c (.bool true)) x26),
  o (some p28) (.mov x27),
  og (some p29) (.mov x2) p28 false,
  og (some p30) (.bin .gtr x29 (.c (iv 8))) p28 false,
  o (some p31) (.pick x28 (.c (.bool true)) x30)]) (.cond x31 (.seq (.region [o (some p32) (.build [(iv 0), (iv 0), .nilsl, (iv 0), .nilsl, .nilsl, .nilsl, (iv 0), (iv 0), (iv 0), (iv 0), (iv 0), .nilsl, .nilsl, .nilsl, .nilsl, .nilsl] []),
  o none (.store x8 x32 17),
  o (some p9) (.mov (.c (iv 1)))]) (.ret)) (.skip))) (.seq (.seq (.region [o (some p34) (.load x4 true 3),
  o (some p35) (.mov x3),
  o (some p36) (.call 30 [x34, (.c .nilsl), x35]),
  o (some p33) (.mov x36),
  o (some p37) (.extract x33 0),
  o (some p38) (.extract x33 1),
  o (some p10) (.alloc [(iv 0), .nilsl, .nilsl, .nilsl, (iv 0), (iv 0), (iv 0), (iv 0), (iv 0), .nilsl]),
  o none (.store x10 x37 10),
  o (some p11) (.mov x38)]) (.seq (.region [o (some p39) (.mov x11),
  o (some p40) (.bin .neq x39 (.c (iv 0)))]) (.cond x40 (.seq (.region [o (some p41) (.build [(iv 0), (iv 0), .nilsl, (iv 0), .nilsl, .nilsl, .nilsl, (iv 0), (iv 0), (iv 0), (iv 0), (iv 0), .nilsl, .nilsl, .nilsl, .nilsl, .nilsl] []),
  o (some p42) (.mov x11),
  o none (.store x8 x41 17),
  o (some p9) (.mov x42)]) (.ret)) (.skip)))) (.seq (.region [o (some p43) (.mov x3),
  o (some p44) (.call 32 [x43]),
  o (some p45) (.call 31 [x44, (.c (.fn 33 [] []))]),
  o (some p3) (.mov x45)]) (.seq (.seq (.region [o (some p12) (.mov (.c (iv 1)))]) (.block 0 (.loop kc_segment_Build_l0))) (.seq (.draw [(.l 0 0, o (some p64) (.load x4 true 3)),
  (.p, o (some p65) (.mov x3)),
  (.p, o (some p66) (.mov x1)),
  (.p, o (some p67) (.mov x2)),
  (.p, o (some p68) (.mov x3)),
  (.l 0 0, o (some p69) (.len false x68)),
  (.p, o (some p70) (.mkslice 1 8 [(iv 0)] x69 x69)),
  (.p, o (some p71) (.build [(iv 0), (iv 0), .nilsl, (iv 0), .nilsl, .nilsl, .nilsl, (iv 0), (iv 0), (iv 0), (iv 0), (iv 0), .nilsl, .nilsl, .nilsl, .nilsl, .nilsl] [(0, 1, x66), (1, 1, x67), (16, 1, x70)])),
  (.p, o (some p72) (.build [(iv 0), (iv 0), .nilsl, .nilsl, (iv 0), (iv 0), .nilsl, (iv 0), .nilsl, .nilsl, .nilsl, (iv 0), (iv 0), (iv 0), (iv 0), (iv 0), .nilsl, .nilsl, .nilsl, .nilsl, .nilsl] [(0, 3, x64), (3, 1, x65), (4, 17, x71)])),
  (.p, o (some p13) (.alloc [(iv 0), (iv 0), .nilsl, .nilsl, (iv 0), (iv 0), .nilsl, (iv 0), .nilsl, .nilsl, .nilsl, (iv 0), (iv 0), (iv 0), (iv 0), (iv 0), .nilsl, .nilsl, .nilsl, .nilsl, .nilsl])),
  (.e, o none (.store x13 x72 21))]) (.seq (.seq (.region [o (some p73) (.mov x2),
  o (some p74) (.bin .gtr x73 (.c (iv 0)))]) (.cond x74 (.seq (.draw [(.p, o (some p76) (.faddr 1 x4)),
  (.l 0 1, o (some p77) (.load x76 false 1)),
  (.p, o (some p78) (.mov x3)),
  (.e, o (some p79) (.call 35 [x78])),
  (.p, o (some p80) (.mov x2)),
  (.e, o (some p81) (.call 34 [x77, x79, x80])),
  (.p, o (some p75) (.mov x81)),
  (.p, o (some p82) (.extract x75 0)),
  (.p, o (some p83) (.extract x75 1)),
  (.p, o (some p14) (.mov x82)),
  (.p, o (some p15) (.mov x83))]) (.seq (.seq (.region [o (some p84) (.mov x15),
  o (some p85) (.bin .neq x84 (.c (iv 0)))]) (.cond x85 (.seq (.region [o (some p86) (.build [(iv 0), (iv 0), .nilsl, (iv 0), .nilsl, .nilsl, .nilsl, (iv 0), (iv 0), (iv 0), (iv 0), (iv 0), .nilsl, .nilsl, .nilsl, .nilsl, .nilsl] []),
  o (some p87) (.mov x15),
  o none (.store x8 x86 17),
  o (some p9) (.mov x87)]) (.ret)) (.skip))) (.seq (.region [o (some p88) (.mov x14),
  o (some p89) (.len false x88),
  o (some p90) (.mov (.c (iv 0)))]) (.block 2 (.loop kc_segment_Build_l1))))) (.skip))) (.seq (.draw [(.e, o (some p107) (.call 36 [])),
  (.p, o (some p108) (.mov x1)),
  (.p, o (some p109) (.bin .sub x108 (.c (iv 1)))),
  (.p, o (some p110) (.idxA 3 1 false x107 x109)),
  (.l 0 1, o (some p111) (.load x13 true 21)),
  (.e, o (some p112) (.callv x110 [x111])),
  (.p, o (some p113) (.extract x112 0)),
  (.p, o (some p114) (.extract x112 1)),
  (.e, o none (.store x8 x113 17)),
  (.p, o (some p9) (.mov x114))]) (.ret))))))))
def a16 : AFn := ⟨c_segment_Build, [.cell p8 true 17, .t p9]⟩
abbrev f_segment_Build : Nat := 16
def c_law33_entry : ACode := .seq (.region [o (some p6) (.alloc [(iv 0), (iv 0), (iv 0), (iv 0), (iv 0), (iv 0), (iv 0), .nilsl, .nilsl])]) (.seq (.region [o (some p7) (.mov x0),
  o (some p8) (.mov x1),
  o (some p9) (.mov x2),
  o (some p10) (.mov x0),
  o (some p11) (.bslice 1 1 [(iv 0)] [(0, 1, x10)]),
  o (some p12) (.build [(iv 0), (iv 0), (iv 0), (iv 0), (iv 0), (iv 0), (iv 0), .nilsl, .nilsl] [(0, 1, x7), (1, 1, x8), (2, 1, (.c (iv 1))), (5, 1, (.c (iv 1048577))), (6, 1, x9), (7, 1, x11)]),
  o none (.store x6 x12 9)]) (.ret))
def a17 : AFn := ⟨c_law33_entry, [.cell p6 true 9]⟩
abbrev f_law33_entry : Nat := 17
def c_segment_Kill : ACode := .seq (.region [o (some p4) (.box x0),
  o (some p8) (.alloc [(iv 0), (iv 0), .nilsl, (iv 0), .nilsl, .nilsl, .nilsl, (iv 0), (iv 0), (iv 0), (iv 0), (iv 0), .nilsl, .nilsl, .nilsl, .nilsl, .nilsl]),
  o (some p9) (.mov (.c (iv 0)))]) (.seq (.region [o (some p13) (.load x4 true 17),
  o (some p14) (.mov x1),
  o (some p15) (.mov x2),
  o (some p16) (.call 37 [x13, x14, x15]),
  o (some p12) (.mov x16),
  o (some p17) (.extract x12 0),
  o (some p18) (.extract x12 1),
  o (some p10) (.mov x17),
  o (some p11) (.mov x18)]) (.seq (.block 0 (.seq (.region [o (some p20) (.mov x11),
  o (some p21) (.un .not x20),
  o (some p19) (.mov x21)]) (.cond x19 (.seq (.region [o (some p22) (.load x4 true 17),
  o none (.store x8 x22 17),
  o (some p9) (.mov (.c (iv 5)))]) (.ret)) (.seq (.region [o (some p24) (.faddr 16 x4),
  o (some p25) (.load x24 false 1),
  o (some p26) (.mov x10),
  o (some p27) (.iaddrS 1 x25 x26),
  o (some p28) (.load x27 false 1),
  o (some p29) (.bin .neq x28 (.c (iv 0))),
  o (some p23) (.mov x29)]) (.cond x23 (.seq (.region [o (some p30) (.load x4 true 17),
  o none (.store x8 x30 17),
  o (some p9) (.mov (.c (iv 4)))]) (.ret)) (.seq (.region [o (some p32) (.mov x3),
  o (some p33) (.bin .eql x32 (.c (iv 0))),
  o (some p34) (.mov x33),
  og (some p35) (.load x4 true 17) p34 false,
  og (some p36) (.call 39 [x35]) p34 false,
  og (some p37) (.mov x10) p34 false,
  og (some p38) (.iaddrS 9 x36 x37) p34 false,
  og (some p39) (.load x38 true 9) p34 false,
  og (some p40) (.mov x3) p34 false,
  og (some p41) (.call 38 [x39, x40]) p34 false,
  og (some p42) (.un .not x41) p34 false,
  o (some p43) (.pick x34 (.c (.bool true)) x42),
  o (some p31) (.mov x43)]) (.cond x31 (.seq (.region [o (some p44) (.load x4 true 17),
  o none (.store x8 x44 17),
  o (some p9) (.mov (.c (iv 9)))]) (.ret)) (.skip)))))))) (.seq (.region [o (some p45) (.faddr 16 x4),
  o (some p46) (.load x45 false 1),
  o (some p47) (.call 22 [x46]),
  o (some p48) (.faddr 16 x4),
  o none (.store x48 x47 1)]) (.seq (.region [o (some p49) (.faddr 16 x4),
  o (some p50) (.load x49 false 1),
  o (some p51) (.mov x10),
  o (some p52) (.mov x3),
  o (some p53) (.iaddrS 1 x50 x51),
  o none (.store x53 x52 1)]) (.seq (.region [o (some p54) (.load x4 true 17),
  o none (.store x8 x54 17),
  o (some p9) (.mov (.c (iv 0)))]) (.ret))))))
def a18 : AFn := ⟨c_segment_Kill, [.cell p8 true 17, .t p9]⟩
abbrev f_segment_Kill : Nat := 18
def c_merge_Join_l0 : ACode := .seq (.region [o (some p58) (.bin .lss x57 x56)]) (.seq (.cond x58 (.skip) (.exit 1)) (.seq (.block 2 (.seq (.region [o (some p59) (.iaddrS 10 x55 x57),
  o (some p60) (.load x59 true 10),
  o (some p16) (.alloc [(iv 0), (iv 0), (iv 0), (iv 0), (iv 0), (iv 0), (iv 0), .nilsl, .nilsl, (iv 0)]),
  o none (.store x16 x60 10)]) (.region [o (some p61) (.mov x14),
  o (some p62) (.faddr 0 x16),
  o (some p63) (.load x62 true 9),
  o (some p64) (.bslice 9 1 [(iv 0), (iv 0), (iv 0), (iv 0), (iv 0), (iv 0), (iv 0), .nilsl, .nilsl] [(0, 9, x63)]),
  o (some p65) (.append 9 104 x61 x64),
  o (some p14) (.mov x65)]))) (.region [o (some p66) (.bin .add x57 (.c (iv 1))),
  o (some p57) (.mov x66)])))
def kc_merge_Join_l0 : ACode := c_merge_Join_l0
def c_merge_Join_l1 : ACode := .seq (.region [o (some p82) (.bin .lss x81 x80)]) (.seq (.cond x82 (.skip) (.exit 3)) (.seq (.block 4 (.seq (.region [o (some p83) (.iaddrS 10 x79 x81),
  o (some p84) (.load x83 true 10),
  o (some p20) (.alloc [(iv 0), (iv 0), (iv 0), (iv 0), (iv 0), (iv 0), (iv 0), .nilsl, .nilsl, (iv 0)]),
  o none (.store x20 x84 10)]) (.seq (.region [o (some p85) (.faddr 9 x20),
  o (some p86) (.load x85 false 1),
  o (some p87) (.bin .gtr x86 (.c (iv 0)))]) (.cond x87 (.region [o (some p89) (.load x17 true 17),
  o (some p90) (.faddr 0 x20),
  o (some p91) (.faddr 0 x90),
  o (some p92) (.load x91 false 1),
  o (some p93) (.faddr 0 x20),
  o (some p94) (.faddr 1 x93),
  o (some p95) (.load x94 false 1),
  o (some p96) (.faddr 9 x20),
  o (some p97) (.load x96 false 1),
  o (some p98) (.call 18 [x89, x92, x95, x97]),
  o (some p88) (.mov x98),
  o (some p99) (.extract x88 0),
  o (some p100) (.extract x88 1),
  o none (.store x17 x99 17)]) (.skip))))) (.region [o (some p101) (.bin .add x81 (.c (iv 1))),
  o (some p81) (.mov x101)])))
def kc_merge_Join_l1 : ACode := c_merge_Join_l1
def c_merge_Join : ACode := .seq (.region [o (some p5) (.box x0),
  o (some p10) (.alloc [(iv 0), (iv 0), .nilsl, (iv 0), .nilsl, .nilsl, .nilsl, (iv 0), (iv 0), (iv 0), (iv 0), (iv 0), .nilsl, .nilsl, .nilsl, .nilsl, .nilsl]),
  o (some p11) (.mov (.c (iv 0)))]) (.seq (.seq (.region [o (some p21) (.mov x1),
  o (some p22) (.len false x21),
  o (some p23) (.bin .eql x22 (.c (iv 0))),
  o (some p24) (.mov x23),
  og (some p25) (.mov x2) p24 false,
  og (some p26) (.bin .lss x25 (.c (iv 1))) p24 false,
  o (some p27) (.pick x24 (.c (.bool true)) x26),
  o (some p28) (.mov x27),
  og (some p29) (.mov x2) p28 false,
  og (some p30) (.bin .gtr x29 (.c (iv 3))) p28 false,
  o (some p31) (.pick x28 (.c (.bool true)) x30),
  o (some p32) (.mov x31),
  og (some p33) (.mov x3) p32 false,
  og (some p34) (.bin .lss x33 (.c (iv 0))) p32 false,
  o (some p35) (.pick x32 (.c (.bool true)) x34),
  o (some p36) (.mov x35),
  og (some p37) (.mov x3) p36 false,
  og (some p38) (.bin .gtr x37 (.c (iv 8))) p36 false,
  o (some p39) (.pick x36 (.c (.bool true)) x38)]) (.cond x39 (.seq (.region [o (some p40) (.build [(iv 0), (iv 0), .nilsl, (iv 0), .nilsl, .nilsl, .nilsl, (iv 0), (iv 0), (iv 0), (iv 0), (iv 0), .nilsl, .nilsl, .nilsl, .nilsl, .nilsl] []),
  o none (.store x10 x40 17),
  o (some p11) (.mov (.c (iv 1)))]) (.ret)) (.skip))) (.seq (.region [o (some p41) (.mov x1),
  o (some p42) (.call 21 [x41]),
  o (some p43) (.mov x4),
  o (some p44) (.call 40 [x42, x43]),
  o (some p12) (.mov x44)]) (.seq (.seq (.region [o (some p45) (.mov x12),
  o (some p46) (.len false x45),
  o (some p13) (.mov x46)]) (.block 0 (.seq (.region [o (some p48) (.mov x13),
  o (some p49) (.bin .eql x48 (.c (iv 0))),
  o (some p47) (.mov x49)]) (.cond x47 (.seq (.region [o (some p50) (.build [(iv 0), (iv 0), .nilsl, (iv 0), .nilsl, .nilsl, .nilsl, (iv 0), (iv 0), (iv 0), (iv 0), (iv 0), .nilsl, .nilsl, .nilsl, .nilsl, .nilsl] []),
  o none (.store x10 x50 17),
  o (some p11) (.mov (.c (iv 3)))]) (.ret)) (.seq (.region [o (some p52) (.mov x13),
  o (some p53) (.bin .gtr x52 (.c (iv 4096))),
  o (some p51) (.mov x53)]) (.cond x51 (.seq (.region [o (some p54) (.build [(iv 0), (iv 0), .nilsl, (iv 0), .nilsl, .nilsl, .nilsl, (iv 0), (iv 0), (iv 0), (iv 0), (iv 0), .nilsl, .nilsl, .nilsl, .nilsl, .nilsl] []),
  o none (.store x10 x54 17),
  o (some p11) (.mov (.c (iv 2)))]) (.ret)) (.skip))))))) (.seq (.region [o (some p14) (.mov (.c .nilsl))]) (.seq (.seq (.region [o (some p55) (.mov x12),
  o (some p56) (.len false x55),
  o (some p57) (.mov (.c (iv 0)))]) (.block 1 (.loop kc_merge_Join_l0))) (.seq (.region [o (some p68) (.load x5 true 3),
  o (some p69) (.mov x2),
  o (some p70) (.mov x3),
  o (some p71) (.mov x14),
  o (some p72) (.call 16 [x68, x69, x70, x71]),
  o (some p67) (.mov x72),
  o (some p73) (.extract x67 0),
  o (some p74) (.extract x67 1),
  o (some p17) (.alloc [(iv 0), (iv 0), .nilsl, (iv 0), .nilsl, .nilsl, .nilsl, (iv 0), (iv 0), (iv 0), (iv 0), (iv 0), .nilsl, .nilsl, .nilsl, .nilsl, .nilsl]),
  o none (.store x17 x73 17),
  o (some p18) (.mov x74)]) (.seq (.seq (.region [o (some p75) (.mov x18),
  o (some p76) (.bin .neq x75 (.c (iv 0)))]) (.cond x76 (.seq (.region [o (some p77) (.build [(iv 0), (iv 0), .nilsl, (iv 0), .nilsl, .nilsl, .nilsl, (iv 0), (iv 0), (iv 0), (iv 0), (iv 0), .nilsl, .nilsl, .nilsl, .nilsl, .nilsl] []),
  o (some p78) (.mov x18),
  o none (.store x10 x77 17),
  o (some p11) (.mov x78)]) (.ret)) (.skip))) (.seq (.seq (.region [o (some p79) (.mov x12),
  o (some p80) (.len false x79),
  o (some p81) (.mov (.c (iv 0)))]) (.block 3 (.loop kc_merge_Join_l1))) (.seq (.region [o (some p102) (.load x17 true 17),
  o none (.store x10 x102 17),
  o (some p11) (.mov (.c (iv 0)))]) (.ret))))))))))
def a19 : AFn := ⟨c_merge_Join, [.cell p10 true 17, .t p11]⟩
abbrev f_merge_Join : Nat := 19
def c_segment_Rows_l0 : ACode := .block 1 (.region [o (some p10) (.load x3 false 1),
  o (some p11) (.load x5 true 10),
  o (some p12) (.bslice 10 1 [(iv 0), (iv 0), (iv 0), (iv 0), (iv 0), (iv 0), (iv 0), .nilsl, .nilsl, (iv 0)] [(0, 10, x11)]),
  o (some p13) (.append 10 112 x10 x12),
  o none (.store x3 x13 1)])
def kc_segment_Rows_l0 : ACode := c_segment_Rows_l0
def c_segment_Rows : ACode := .seq (.region [o (some p1) (.box x0),
  o (some p2) (.mov (.c .nilsl))]) (.seq (.region [o (some p3) (.alloc [.nilsl])]) (.seq (.seq (.region [o (some p6) (.load x1 true 17),
  o (some p7) (.call 41 [x6])]) (.block 0 (.rangef x7 [p8, p9] (.region [o (some p5) (.alloc [(iv 0), (iv 0), (iv 0), (iv 0), (iv 0), (iv 0), (iv 0), .nilsl, .nilsl, (iv 0)]),
  o none (.store x5 x9 10)]) kc_segment_Rows_l0))) (.seq (.region [o (some p14) (.load x3 false 1),
  o (some p2) (.mov x14)]) (.ret))))
def a20 : AFn := ⟨c_segment_Rows, [.t p2]⟩
abbrev f_segment_Rows : Nat := 20
def c_merge_Rows_l0 : ACode := .seq (.region [o (some p9) (.bin .lss x8 x7)]) (.seq (.cond x9 (.skip) (.exit 0)) (.seq (.block 1 (.seq (.region [o (some p10) (.iaddrS 17 x6 x8),
  o (some p11) (.load x10 true 17),
  o (some p5) (.alloc [(iv 0), (iv 0), .nilsl, (iv 0), .nilsl, .nilsl, .nilsl, (iv 0), (iv 0), (iv 0), (iv 0), (iv 0), .nilsl, .nilsl, .nilsl, .nilsl, .nilsl]),
  o none (.store x5 x11 17)]) (.region [o (some p12) (.mov x3),
  o (some p13) (.load x5 true 17),
  o (some p14) (.call 20 [x13]),
  o (some p15) (.append 10 112 x12 x14),
  o (some p3) (.mov x15)]))) (.region [o (some p16) (.bin .add x8 (.c (iv 1))),
  o (some p8) (.mov x16)])))
def kc_merge_Rows_l0 : ACode := c_merge_Rows_l0
def c_merge_Rows : ACode := .seq (.region [o (some p2) (.mov (.c .nilsl))]) (.seq (.region [o (some p3) (.mov (.c .nilsl))]) (.seq (.seq (.region [o (some p6) (.mov x0),
  o (some p7) (.len false x6),
  o (some p8) (.mov (.c (iv 0)))]) (.block 0 (.loop kc_merge_Rows_l0))) (.seq (.region [o (some p17) (.mov x3),
  o (some p2) (.mov x17)]) (.ret))))
def a21 : AFn := ⟨c_merge_Rows, [.t p2]⟩
abbrev f_merge_Rows : Nat := 21
def c_slices_Clone_int_int : ACode := .seq (.region [o (some p2) (.mov (.c .nilsl))]) (.seq (.seq (.region [o (some p3) (.mov x0),
  o (some p4) (.eqv false .nilsl x3 (.c .nilsl))]) (.cond x4 (.seq (.region [o (some p2) (.mov (.c .nilsl))]) (.ret)) (.skip))) (.seq (.region [o (some p5) (.bslice 1 0 [] []),
  o (some p6) (.mov x0),
  o (some p7) (.append 1 8 x5 x6),
  o (some p2) (.mov x7)]) (.ret)))
def a22 : AFn := ⟨c_slices_Clone_int_int, [.t p2]⟩
abbrev f_slices_Clone_int_int : Nat := 22
def c_slices_Backward_int_int : ACode := .seq (.region [o (some p1) (.box x0),
  o (some p2) (.mov (.c .nilfn))]) (.seq (.region [o (some p3) (.mkfn 42 [] [x1]),
  o (some p2) (.mov x3)]) (.ret))
def a23 : AFn := ⟨c_slices_Backward_int_int, [.t p2]⟩
abbrev f_slices_Backward_int_int : Nat := 23
def c_slices_Delete_int_int : ACode := .seq (.region [o (some p6) (.mov (.c .nilsl))]) (.seq (.region [o (some p8) (.mov x0),
  o (some p9) (.mov x1),
  o (some p10) (.mov x2),
  o (some p11) (.mov x0),
  o (some p12) (.len false x11),
  o (some p13) (.slice 1 x8 (some x9) (some x10) (some x12))]) (.seq (.seq (.region [o (some p14) (.mov x1),
  o (some p15) (.mov x2),
  o (some p16) (.bin .eql x14 x15)]) (.cond x16 (.seq (.region [o (some p17) (.mov x0),
  o (some p6) (.mov x17)]) (.ret)) (.skip))) (.seq (.region [o (some p18) (.mov x0),
  o (some p19) (.len false x18),
  o (some p7) (.mov x19)]) (.seq (.draw [(.p, o (some p20) (.mov x0)),
  (.p, o (some p21) (.mov x1)),
  (.p, o (some p22) (.slice 1 x20 none (some x21) none)),
  (.p, o (some p23) (.mov x0)),
  (.p, o (some p24) (.mov x2)),
  (.p, o (some p25) (.slice 1 x23 (some x24) none none)),
  (.e, o (some p26) (.append 1 8 x22 x25)),
  (.p, o (some p0) (.mov x26))]) (.seq (.region [o (some p27) (.mov x0),
  o (some p28) (.mov x0),
  o (some p29) (.len false x28),
  o (some p30) (.mov x7),
  o (some p31) (.slice 1 x27 (some x29) (some x30) none),
  o none (.clear [(iv 0)] x31)]) (.seq (.region [o (some p32) (.mov x0),
  o (some p6) (.mov x32)]) (.ret)))))))
def a24 : AFn := ⟨c_slices_Delete_int_int, [.t p6]⟩
abbrev f_slices_Delete_int_int : Nat := 24
def c_ref33_has_l0 : ACode := .seq (.seq (.region [o (some p6) (.mov x5),
  o (some p7) (.mov x0),
  o (some p8) (.len false x7),
  o (some p9) (.bin .lss x6 x8)]) (.cond x9 (.skip) (.exit 0))) (.seq (.block 1 (.seq (.region [o (some p12) (.mov x0),
  o (some p13) (.mov x5),
  o (some p14) (.iaddrS 1 x12 x13),
  o (some p15) (.load x14 false 1),
  o (some p16) (.mov x1),
  o (some p17) (.bin .eql x15 x16)]) (.cond x17 (.seq (.region [o (some p4) (.mov (.c (.bool true)))]) (.ret)) (.skip)))) (.region [o (some p10) (.mov x5),
  o (some p11) (.bin .add x10 (.c (iv 1))),
  o (some p5) (.mov x11)]))
def kc_ref33_has_l0 : ACode := c_ref33_has_l0
def c_ref33_has : ACode := .seq (.region [o (some p4) (.mov (.c (.bool false)))]) (.seq (.seq (.region [o (some p5) (.mov (.c (iv 0)))]) (.block 0 (.loop kc_ref33_has_l0))) (.seq (.region [o (some p4) (.mov (.c (.bool false)))]) (.ret)))
def a25 : AFn := ⟨c_ref33_has, [.t p4]⟩
abbrev f_ref33_has : Nat := 25
def c_merge_sorted_int_int : ACode := .seq (.region [o (some p3) (.box x1),
  o (some p4) (.mov (.c .nilsl))]) (.seq (.region [o (some p6) (.mov x0),
  o (some p7) (.call 22 [x6]),
  o (some p5) (.mov x7)]) (.seq (.region [o (some p8) (.mov x5),
  o (some p9) (.mkfn 44 [] [x3]),
  o (some p10) (.call 43 [x8, x9])]) (.seq (.region [o (some p11) (.mov x5),
  o (some p4) (.mov x11)]) (.ret))))
def a26 : AFn := ⟨c_merge_sorted_int_int, [.t p4]⟩
abbrev f_merge_sorted_int_int : Nat := 26
def c_merge_Pick_1 : ACode := .seq (.region [o (some p3) (.mov (.c (iv 0)))]) (.seq (.region [o (some p4) (.load x1 false 1),
  o (some p5) (.mov x0),
  o (some p6) (.iaddrS 1 x4 x5),
  o (some p7) (.load x6 false 1),
  o (some p3) (.mov x7)]) (.ret))
def a27 : AFn := ⟨c_merge_Pick_1, [.t p3]⟩
abbrev f_merge_Pick_1 : Nat := 27
def c_merge_Pick_2 : ACode := .seq (.region [o (some p2) (.mov (.c (iv 0)))]) (.seq (.region [o (some p3) (.mov x0),
  o (some p2) (.mov x3)]) (.ret))
def a28 : AFn := ⟨c_merge_Pick_2, [.t p2]⟩
abbrev f_merge_Pick_2 : Nat := 28
def c_ref33_least_l1 : ACode := .seq (.seq (.region [o (some p13) (.mov x7),
  o (some p14) (.mov x0),
  o (some p15) (.len false x14),
  o (some p16) (.bin .lss x13 x15)]) (.cond x16 (.skip) (.exit 2))) (.seq (.block 3 (.seq (.draw [(.p, o (some p19) (.mov x0)),
  (.p, o (some p20) (.mov x7)),
  (.p, o (some p21) (.iaddrS 1 x19 x20)),
  (.l 0 0, o (some p22) (.load x21 false 1)),
  (.e, o (some p23) (.call 9 [x22])),
  (.p, o (some p24) (.mov x1)),
  (.p, o (some p25) (.bin .eql x23 x24)),
  (.p, o (some p26) (.mov x25)),
  (.p, og (some p27) (.mov x5) p26 true),
  (.p, og (some p28) (.mov x7) p26 true),
  (.e, og (some p29) (.call 25 [x27, x28]) p26 true),
  (.p, og (some p30) (.un .not x29) p26 true),
  (.p, o (some p31) (.pick x26 x30 (.c (.bool false)))),
  (.p, o (some p32) (.mov x31)),
  (.p, og (some p33) (.mov x6) p32 true),
  (.p, og (some p34) (.bin .lss x33 (.c (iv 0))) p32 true),
  (.p, og (some p35) (.mov x34) p32 true),
  (.p, og (some p36) (.mov x0) p35 false),
  (.p, og (some p37) (.mov x7) p35 false),
  (.p, og (some p38) (.iaddrS 1 x36 x37) p35 false),
  (.l 2 2, og (some p39) (.load x38 false 1) p35 false),
  (.p, og (some p40) (.mov x0) p35 false),
  (.p, og (some p41) (.mov x6) p35 false),
  (.p, og (some p42) (.iaddrS 1 x40 x41) p35 false),
  (.l 2 2, og (some p43) (.load x42 false 1) p35 false),
  (.p, og (some p44) (.bin .lss x39 x43) p35 false),
  (.p, og (some p45) (.pick x35 (.c (.bool true)) x44) p32 true),
  (.p, o (some p46) (.pick x32 x45 (.c (.bool false))))]) (.cond x46 (.region [o (some p47) (.mov x7),
  o (some p6) (.mov x47)]) (.skip)))) (.region [o (some p17) (.mov x7),
  o (some p18) (.bin .add x17 (.c (iv 1))),
  o (some p7) (.mov x18)]))
def kc_ref33_least_l1 : ACode := c_ref33_least_l1
def c_ref33_least_l0 : ACode := .seq (.seq (.region [o (some p10) (.mov x5),
  o (some p11) (.len false x10),
  o (some p12) (.bin .lss x11 (.c (iv 4)))]) (.cond x12 (.skip) (.exit 0))) (.block 1 (.seq (.region [o (some p6) (.mov (.c (iv (-1))))]) (.seq (.seq (.region [o (some p7) (.mov (.c (iv 0)))]) (.block 2 (.loop kc_ref33_least_l1))) (.seq (.seq (.region [o (some p48) (.mov x6),
  o (some p49) (.bin .lss x48 (.c (iv 0)))]) (.cond x49 (.seq (.region [o (some p4) (.mov (.c .nilsl))]) (.ret)) (.skip))) (.region [o (some p50) (.mov x5),
  o (some p51) (.mov x6),
  o (some p52) (.bslice 1 1 [(iv 0)] [(0, 1, x51)]),
  o (some p53) (.append 1 8 x50 x52),
  o (some p5) (.mov x53)])))))
def kc_ref33_least_l0 : ACode := c_ref33_least_l0
def c_ref33_least_l2 : ACode := .seq (.seq (.region [o (some p54) (.mov x9),
  o (some p55) (.mov x0),
  o (some p56) (.len false x55),
  o (some p57) (.bin .lss x54 x56)]) (.cond x57 (.skip) (.exit 4))) (.seq (.block 5 (.seq (.region [o (some p60) (.mov x5),
  o (some p61) (.mov x9),
  o (some p62) (.call 25 [x60, x61])]) (.cond x62 (.region [o (some p63) (.mov x8),
  o (some p64) (.mov x9),
  o (some p65) (.bslice 1 1 [(iv 0)] [(0, 1, x64)]),
  o (some p66) (.append 1 8 x63 x65),
  o (some p8) (.mov x66)]) (.skip)))) (.region [o (some p58) (.mov x9),
  o (some p59) (.bin .add x58 (.c (iv 1))),
  o (some p9) (.mov x59)]))
def kc_ref33_least_l2 : ACode := c_ref33_least_l2
def c_ref33_least : ACode := .seq (.region [o (some p4) (.mov (.c .nilsl))]) (.seq (.region [o (some p5) (.mov (.c .nilsl))]) (.seq (.block 0 (.loop kc_ref33_least_l0)) (.seq (.region [o (some p8) (.mov (.c .nilsl))]) (.seq (.seq (.region [o (some p9) (.mov (.c (iv 0)))]) (.block 4 (.loop kc_ref33_least_l2))) (.seq (.region [o (some p67) (.mov x8),
  o (some p4) (.mov x67)]) (.ret))))))
def a29 : AFn := ⟨c_ref33_least, [.t p4]⟩
abbrev f_ref33_least : Nat := 29
def c_zone_Of_l0 : ACode := .seq (.region [o (some p63) (.bin .lss x62 x61)]) (.seq (.cond x63 (.skip) (.exit 0)) (.seq (.block 1 (.seq (.region [o (some p64) (.iaddrS 9 x60 x62),
  o (some p65) (.load x64 true 9),
  o (some p13) (.alloc [(iv 0), (iv 0), (iv 0), (iv 0), (iv 0), (iv 0), (iv 0), .nilsl, .nilsl]),
  o none (.store x13 x65 9)]) (.seq (.region [o (some p66) (.mov x11),
  o (some p67) (.faddr 7 x13),
  o (some p68) (.load x67 false 1),
  o (some p69) (.bslice 1 1 [.nilsl] [(0, 1, x68)]),
  o (some p70) (.append 1 24 x66 x69),
  o (some p11) (.mov x70)]) (.seq (.draw [(.p, o (some p71) (.faddr 4 x10)),
  (.l 0 0, o (some p72) (.load x71 false 1)),
  (.p, o (some p73) (.faddr 4 x13)),
  (.l 0 0, o (some p74) (.load x73 false 1)),
  (.p, o (some p75) (.mn [x72, x74])),
  (.p, o (some p76) (.faddr 5 x10)),
  (.l 0 0, o (some p77) (.load x76 false 1)),
  (.p, o (some p78) (.faddr 4 x13)),
  (.l 0 1, o (some p79) (.load x78 false 1)),
  (.p, o (some p80) (.mx [x77, x79])),
  (.p, o (some p81) (.faddr 6 x10)),
  (.l 0 0, o (some p82) (.load x81 false 1)),
  (.p, o (some p83) (.faddr 5 x13)),
  (.l 0 2, o (some p84) (.load x83 false 1)),
  (.p, o (some p85) (.mx [x82, x84])),
  (.p, o (some p86) (.faddr 4 x10)),
  (.e, o none (.store x86 x75 1)),
  (.p, o (some p87) (.faddr 5 x10)),
  (.e, o none (.store x87 x80 1)),
  (.p, o (some p88) (.faddr 6 x10)),
  (.e, o none (.store x88 x85 1))]) (.draw [(.p, o (some p89) (.faddr 7 x10)),
  (.l 0 0, o (some p90) (.load x89 false 1)),
  (.p, o (some p91) (.faddr 6 x13)),
  (.l 0 0, o (some p92) (.load x91 false 1)),
  (.p, o (some p93) (.mn [x90, x92])),
  (.p, o (some p94) (.faddr 8 x10)),
  (.l 0 0, o (some p95) (.load x94 false 1)),
  (.p, o (some p96) (.faddr 6 x13)),
  (.l 0 1, o (some p97) (.load x96 false 1)),
  (.p, o (some p98) (.mx [x95, x97])),
  (.p, o (some p99) (.faddr 7 x10)),
  (.e, o none (.store x99 x93 1)),
  (.p, o (some p100) (.faddr 8 x10)),
  (.e, o none (.store x100 x98 1))]))))) (.region [o (some p101) (.bin .add x62 (.c (iv 1))),
  o (some p62) (.mov x101)])))
def kc_zone_Of_l0 : ACode := c_zone_Of_l0
def c_zone_Of_l1 : ACode := .seq (.region [o (some p124) (.bin .lss x123 x122)]) (.seq (.cond x124 (.skip) (.exit 2)) (.seq (.block 3 (.seq (.region [o (some p125) (.iaddrS 5 x121 x123),
  o (some p126) (.load x125 true 5),
  o (some p15) (.alloc [(.str (bs [])), (iv 0), (iv 0), (iv 0), .nilsl]),
  o none (.store x15 x126 5)]) (.draw [(.p, o (some p127) (.faddr 9 x10)),
  (.l 0 1, o (some p128) (.load x127 false 1)),
  (.l 0 0, o (some p129) (.load x15 true 5)),
  (.p, o (some p130) (.mov x2)),
  (.e, o (some p131) (.call 55 [x129, x130])),
  (.p, o (some p132) (.bslice 4 1 [(iv 0), (iv 0), (iv 0), .nilsl] [(0, 4, x131)])),
  (.e, o (some p133) (.append 4 48 x128 x132)),
  (.p, o (some p134) (.faddr 9 x10)),
  (.e, o none (.store x134 x133 1))]))) (.region [o (some p135) (.bin .add x123 (.c (iv 1))),
  o (some p123) (.mov x135)])))
def kc_zone_Of_l1 : ACode := c_zone_Of_l1
def c_zone_Of : ACode := .seq (.region [o (some p3) (.box x0),
  o (some p6) (.alloc [(iv 0), .nilsl, .nilsl, .nilsl, (iv 0), (iv 0), (iv 0), (iv 0), (iv 0), .nilsl]),
  o (some p7) (.mov (.c (iv 0)))]) (.seq (.region [o (some p16) (.mkfn 46 [] [x3]),
  o (some p8) (.mov x16)]) (.seq (.seq (.region [o (some p17) (.load x3 true 3),
  o (some p18) (.call 48 [x17]),
  o (some p19) (.bin .neq x18 (.c (iv 0))),
  o (some p20) (.mov x19),
  og (some p21) (.mov x1) p20 false,
  og (some p22) (.len false x21) p20 false,
  og (some p23) (.bin .gtr x22 (.c (iv 8))) p20 false,
  o (some p24) (.pick x20 (.c (.bool true)) x23),
  o (some p25) (.mov x24),
  og (some p26) (.mov x1) p25 false,
  og (some p27) (.mov x8) p25 false,
  og (some p28) (.call 49 [x26, x27]) p25 false,
  o (some p29) (.pick x25 (.c (.bool true)) x28)]) (.cond x29 (.seq (.region [o (some p30) (.build [(iv 0), .nilsl, .nilsl, .nilsl, (iv 0), (iv 0), (iv 0), (iv 0), (iv 0), .nilsl] []),
  o none (.store x6 x30 10),
  o (some p7) (.mov (.c (iv 1)))]) (.ret)) (.skip))) (.seq (.seq (.region [o (some p31) (.mov x2),
  o (some p32) (.len false x31),
  o (some p33) (.bin .eql x32 (.c (iv 0))),
  o (some p34) (.mov x33),
  og (some p35) (.mov x2) p34 false,
  og (some p36) (.mkfn 51 [] [x3]) p34 false,
  og (some p37) (.call 50 [x35, x36]) p34 false,
  o (some p38) (.pick x34 (.c (.bool true)) x37)]) (.cond x38 (.seq (.region [o (some p39) (.build [(iv 0), .nilsl, .nilsl, .nilsl, (iv 0), (iv 0), (iv 0), (iv 0), (iv 0), .nilsl] []),
  o none (.store x6 x39 10),
  o (some p7) (.mov (.c (iv 3)))]) (.ret)) (.skip))) (.seq (.seq (.region [o (some p40) (.mov x2),
  o (some p41) (.len false x40),
  o (some p42) (.bin .gtr x41 (.c (iv 4096)))]) (.cond x42 (.seq (.region [o (some p43) (.build [(iv 0), .nilsl, .nilsl, .nilsl, (iv 0), (iv 0), (iv 0), (iv 0), (iv 0), .nilsl] []),
  o none (.store x6 x43 10),
  o (some p7) (.mov (.c (iv 2)))]) (.ret)) (.skip))) (.seq (.region [o (some p44) (.mov x2),
  o (some p45) (.iaddrS 9 x44 (.c (iv 0))),
  o (some p46) (.load x45 true 9),
  o (some p9) (.alloc [(iv 0), (iv 0), (iv 0), (iv 0), (iv 0), (iv 0), (iv 0), .nilsl, .nilsl]),
  o none (.store x9 x46 9)]) (.seq (.region [o (some p47) (.mov x2),
  o (some p48) (.len false x47),
  o (some p49) (.faddr 4 x9),
  o (some p50) (.load x49 false 1),
  o (some p51) (.faddr 4 x9),
  o (some p52) (.load x51 false 1),
  o (some p53) (.faddr 5 x9),
  o (some p54) (.load x53 false 1),
  o (some p55) (.faddr 6 x9),
  o (some p56) (.load x55 false 1),
  o (some p57) (.faddr 6 x9),
  o (some p58) (.load x57 false 1),
  o (some p59) (.build [(iv 0), .nilsl, .nilsl, .nilsl, (iv 0), (iv 0), (iv 0), (iv 0), (iv 0), .nilsl] [(0, 1, x48), (4, 1, x50), (5, 1, x52), (6, 1, x54), (7, 1, x56), (8, 1, x58)]),
  o (some p10) (.alloc [(iv 0), .nilsl, .nilsl, .nilsl, (iv 0), (iv 0), (iv 0), (iv 0), (iv 0), .nilsl]),
  o none (.store x10 x59 10)]) (.seq (.region [o (some p11) (.mov (.c .nilsl))]) (.seq (.seq (.region [o (some p60) (.mov x2),
  o (some p61) (.len false x60),
  o (some p62) (.mov (.c (iv 0)))]) (.block 0 (.loop kc_zone_Of_l0))) (.seq (.region [o (some p103) (.mov x11),
  o (some p104) (.call 53 [x103]),
  o (some p102) (.mov x104),
  o (some p105) (.extract x102 0),
  o (some p106) (.extract x102 1),
  o (some p107) (.faddr 1 x10),
  o none (.store x107 x105 2)]) (.seq (.seq (.region [o (some p108) (.mov x1),
  o (some p109) (.len false x108),
  o (some p110) (.bin .gtr x109 (.c (iv 0)))]) (.cond x110 (.region [o (some p112) (.faddr 1 x3),
  o (some p113) (.load x112 false 1),
  o (some p114) (.mov x1),
  o (some p115) (.mov x11),
  o (some p116) (.call 54 [x113, x114, x115]),
  o (some p111) (.mov x116),
  o (some p117) (.extract x111 0),
  o (some p118) (.extract x111 1),
  o (some p119) (.faddr 3 x10),
  o none (.store x119 x117 1)]) (.skip))) (.seq (.seq (.region [o (some p120) (.faddr 2 x3),
  o (some p121) (.load x120 false 1),
  o (some p122) (.len false x121),
  o (some p123) (.mov (.c (iv 0)))]) (.block 2 (.loop kc_zone_Of_l1))) (.seq (.region [o (some p136) (.load x10 true 10),
  o none (.store x6 x136 10),
  o (some p7) (.mov (.c (iv 0)))]) (.ret)))))))))))))
def a30 : AFn := ⟨c_zone_Of, [.cell p6 true 10, .t p7]⟩
abbrev f_zone_Of : Nat := 30
def c_slices_SortedStableFunc_api_Entry : ACode := .seq (.region [o (some p4) (.mov (.c .nilsl))]) (.seq (.region [o (some p6) (.mov x0),
  o (some p7) (.call 56 [x6]),
  o (some p5) (.mov x7)]) (.seq (.region [o (some p8) (.mov x5),
  o (some p9) (.mov x1),
  o (some p10) (.call 57 [x8, x9])]) (.seq (.region [o (some p11) (.mov x5),
  o (some p4) (.mov x11)]) (.ret))))
def a31 : AFn := ⟨c_slices_SortedStableFunc_api_Entry, [.t p4]⟩
abbrev f_slices_SortedStableFunc_api_Entry : Nat := 31
def c_slices_Values_api_Entry_api_Entry : ACode := .seq (.region [o (some p1) (.box x0),
  o (some p2) (.mov (.c .nilfn))]) (.seq (.region [o (some p3) (.mkfn 58 [] [x1]),
  o (some p2) (.mov x3)]) (.ret))
def a32 : AFn := ⟨c_slices_Values_api_Entry_api_Entry, [.t p2]⟩
abbrev f_slices_Values_api_Entry_api_Entry : Nat := 32
def c_segment_order : ACode := .seq (.region [o (some p2) (.box x0),
  o (some p3) (.box x1),
  o (some p4) (.mov (.c (iv 0)))]) (.seq (.draw [(.p, o (some p5) (.faddr 0 x2)),
  (.l 0 0, o (some p6) (.load x5 false 1)),
  (.p, o (some p7) (.faddr 0 x3)),
  (.l 0 0, o (some p8) (.load x7 false 1)),
  (.e, o (some p9) (.call 45 [x6, x8])),
  (.p, o (some p10) (.faddr 1 x2)),
  (.l 0 1, o (some p11) (.load x10 false 1)),
  (.p, o (some p12) (.faddr 1 x3)),
  (.l 0 1, o (some p13) (.load x12 false 1)),
  (.e, o (some p14) (.call 45 [x11, x13])),
  (.p, o (some p15) (.bslice 1 2 [(iv 0), (iv 0)] [(0, 1, x9), (1, 1, x14)])),
  (.e, o (some p16) (.call 59 [x15])),
  (.p, o (some p4) (.mov x16))]) (.ret))
def a33 : AFn := ⟨c_segment_order, [.t p4]⟩
abbrev f_segment_order : Nat := 33
def c_pivot_Choose_l0 : ACode := .seq (.seq (.region [o (some p42) (.mov x10),
  o (some p43) (.len false x42),
  o (some p44) (.mov x2),
  o (some p45) (.bin .lss x43 x44)]) (.cond x45 (.skip) (.exit 0))) (.block 1 (.seq (.region [o (some p47) (.mov x9),
  o (some p48) (.callv x47 []),
  o (some p46) (.mov x48),
  o (some p49) (.extract x46 0),
  o (some p50) (.extract x46 1),
  o (some p11) (.mov x49),
  o (some p12) (.mov x50)]) (.seq (.seq (.region [o (some p51) (.mov x12),
  o (some p52) (.bin .eql x51 (.c (iv 0)))]) (.cond x52 (.exit 0) (.skip))) (.seq (.region [o (some p53) (.mov x8),
  o (some p54) (.mov x11),
  o (some p55) (.call 64 [x53, x54])]) (.region [o (some p56) (.mov x10),
  o (some p57) (.mov x11),
  o (some p58) (.bslice 1 1 [(iv 0)] [(0, 1, x57)]),
  o (some p59) (.append 1 8 x56 x58),
  o (some p10) (.mov x59)])))))
def kc_pivot_Choose_l0 : ACode := c_pivot_Choose_l0
def c_pivot_Choose : ACode := .seq (.region [o (some p6) (.mov (.c .nilsl)),
  o (some p7) (.mov (.c (iv 0)))]) (.seq (.seq (.region [o (some p13) (.mov x0),
  o (some p14) (.call 60 [x13]),
  o (some p15) (.un .not x14),
  o (some p16) (.mov x15),
  og (some p17) (.mov x1) p16 false,
  og (some p18) (.call 61 [x17]) p16 false,
  og (some p19) (.un .not x18) p16 false,
  o (some p20) (.pick x16 (.c (.bool true)) x19),
  o (some p21) (.mov x20),
  og (some p22) (.mov x2) p21 false,
  og (some p23) (.bin .lss x22 (.c (iv 1))) p21 false,
  o (some p24) (.pick x21 (.c (.bool true)) x23),
  o (some p25) (.mov x24),
  og (some p26) (.mov x2) p25 false,
  og (some p27) (.bin .gtr x26 (.c (iv 8))) p25 false,
  o (some p28) (.pick x25 (.c (.bool true)) x27)]) (.cond x28 (.seq (.region [o (some p6) (.mov (.c .nilsl)),
  o (some p7) (.mov (.c (iv 1)))]) (.ret)) (.skip))) (.seq (.region [o (some p29) (.mov x0),
  o (some p30) (.mov x1),
  o (some p31) (.bslice 1 1 [(iv 0)] [(0, 1, (.c (iv 134217728)))]),
  o (some p32) (.mov x1),
  o (some p33) (.len false x32),
  o (some p34) (.call 62 [x31, x33]),
  o (some p35) (.build [(iv 0), .nilsl, .nilsl] [(0, 1, x29), (1, 1, x30), (2, 1, x34)]),
  o (some p36) (.box x35),
  o (some p8) (.mov x36)]) (.seq (.region [o (some p37) (.mov x8),
  o (some p38) (.mkfn 63 [x37] []),
  o (some p9) (.mov x38)]) (.seq (.region [o (some p39) (.mov x8),
  o (some p40) (.call 64 [x39, (.c (iv 0))])]) (.seq (.region [o (some p41) (.bslice 1 1 [(iv 0)] [(0, 1, (.c (iv 0)))]),
  o (some p10) (.mov x41)]) (.seq (.block 0 (.loop kc_pivot_Choose_l0)) (.seq (.region [o (some p60) (.mov x10),
  o (some p6) (.mov x60),
  o (some p7) (.mov (.c (iv 0)))]) (.ret))))))))
def a34 : AFn := ⟨c_pivot_Choose, [.t p6, .t p7]⟩
abbrev f_pivot_Choose : Nat := 34
def c_segment_vectors_l0 : ACode := .seq (.region [o (some p12) (.bin .lss x11 x10)]) (.seq (.cond x12 (.skip) (.exit 0)) (.seq (.block 1 (.seq (.region [o (some p13) (.mov x11),
  o (some p14) (.iaddrS 9 x9 x11),
  o (some p15) (.load x14 true 9),
  o (some p5) (.alloc [(iv 0), (iv 0), (iv 0), (iv 0), (iv 0), (iv 0), (iv 0), .nilsl, .nilsl]),
  o (some p4) (.mov x13),
  o none (.store x5 x15 9)]) (.region [o (some p16) (.mov x3),
  o (some p17) (.mov x4),
  o (some p18) (.faddr 7 x5),
  o (some p19) (.load x18 false 1),
  o (some p20) (.iaddrS 1 x16 x17),
  o none (.store x20 x19 1)]))) (.region [o (some p21) (.bin .add x11 (.c (iv 1))),
  o (some p11) (.mov x21)])))
def kc_segment_vectors_l0 : ACode := c_segment_vectors_l0
def c_segment_vectors : ACode := .seq (.region [o (some p2) (.mov (.c .nilsl))]) (.seq (.region [o (some p6) (.mov x0),
  o (some p7) (.len false x6),
  o (some p8) (.mkslice 1 24 [.nilsl] x7 x7),
  o (some p3) (.mov x8)]) (.seq (.seq (.region [o (some p9) (.mov x0),
  o (some p10) (.len false x9),
  o (some p11) (.mov (.c (iv 0)))]) (.block 0 (.loop kc_segment_vectors_l0))) (.seq (.region [o (some p22) (.mov x3),
  o (some p2) (.mov x22)]) (.ret))))
def a35 : AFn := ⟨c_segment_vectors, [.t p2]⟩
abbrev f_segment_vectors : Nat := 35
def c_segment_forms : ACode := .seq (.region [o (some p0) (.alloc [.nilfn, .nilfn, .nilfn])]) (.seq (.region [o (some p1) (.build [.nilfn, .nilfn, .nilfn] [(0, 1, (.c (.fn 65 [] []))), (1, 1, (.c (.fn 66 [] []))), (2, 1, (.c (.fn 67 [] [])))]),
  o none (.store x0 x1 3)]) (.ret))
def a36 : AFn := ⟨c_segment_forms, [.cell p0 true 3]⟩
abbrev f_segment_forms : Nat := 36
def c_segment_Slot : ACode := .seq (.region [o (some p3) (.box x0),
  o (some p6) (.mov (.c (iv 0))),
  o (some p7) (.mov (.c (.bool false)))]) (.seq (.region [o (some p11) (.load x3 true 17),
  o (some p12) (.call 68 [x11]),
  o (some p13) (.mov x1),
  o (some p14) (.mov x2),
  o (some p15) (.build [(iv 0), (iv 0)] [(0, 1, x13), (1, 1, x14)]),
  o (some p16) (.lookup 2 (iv 0) true x12 x15),
  o (some p10) (.mov x16),
  o (some p17) (.extract x10 0),
  o (some p18) (.extract x10 1),
  o (some p8) (.mov x17),
  o (some p9) (.mov x18)]) (.seq (.region [o (some p19) (.mov x8),
  o (some p20) (.mov x9),
  o (some p6) (.mov x19),
  o (some p7) (.mov x20)]) (.ret)))
def a37 : AFn := ⟨c_segment_Slot, [.t p6, .t p7]⟩
abbrev f_segment_Slot : Nat := 37
def c_segment_living : ACode := .seq (.region [o (some p2) (.box x0),
  o (some p4) (.mov (.c (.bool false)))]) (.seq (.region [o (some p5) (.mov x1),
  o (some p6) (.bin .eql x5 (.c (iv 0))),
  o (some p7) (.mov x6),
  og (some p8) (.mov x1) p7 false,
  og (some p9) (.faddr 6 x2) p7 false,
  og (some p10) (.load x9 false 1) p7 false,
  og (some p11) (.bin .gtr x8 x10) p7 false,
  og (some p12) (.mov x11) p7 false,
  og (some p13) (.mov x1) p12 true,
  og (some p14) (.bin .leq x13 (.c (iv 1073741824))) p12 true,
  og (some p15) (.pick x12 x14 (.c (.bool false))) p7 false,
  o (some p16) (.pick x7 (.c (.bool true)) x15),
  o (some p4) (.mov x16)]) (.ret))
def a38 : AFn := ⟨c_segment_living, [.t p4]⟩
abbrev f_segment_living : Nat := 38
def c_segment_Entries : ACode := .seq (.region [o (some p1) (.box x0),
  o (some p2) (.mov (.c .nilsl))]) (.seq (.region [o (some p3) (.faddr 3 x1),
  o (some p4) (.load x3 true 12),
  o (some p5) (.call 69 [x4]),
  o (some p2) (.mov x5)]) (.ret))
def a39 : AFn := ⟨c_segment_Entries, [.t p2]⟩
abbrev f_segment_Entries : Nat := 39
def c_merge_left_l0 : ACode := .seq (.region [o (some p12) (.bin .lss x11 x10)]) (.seq (.cond x12 (.skip) (.exit 0)) (.seq (.block 1 (.seq (.region [o (some p13) (.iaddrS 20 x9 x11),
  o (some p14) (.load x13 true 20),
  o (some p7) (.alloc [(iv 0), (iv 0), (iv 0), (iv 0), (.int .u8 0), (.int .u8 0), (.int .u8 0), (.int .u8 0), (.int .u8 0), (.int .u8 0), (.int .u8 0), (.int .u8 0), (.int .u8 0), (.int .u8 0), (.int .u8 0), (.int .u8 0), (.int .u8 0), (.int .u8 0), (.int .u8 0), (.int .u8 0)]),
  o none (.store x7 x14 20)]) (.region [o (some p15) (.load x5 false 1),
  o (some p16) (.faddr 0 x7),
  o (some p17) (.load x16 false 1),
  o (some p18) (.faddr 1 x7),
  o (some p19) (.load x18 false 1),
  o (some p20) (.build [(iv 0), (iv 0)] [(0, 1, x17), (1, 1, x19)]),
  o none (.mapset 2 x15 x20 (.c (.bool true)))]))) (.region [o (some p21) (.bin .add x11 (.c (iv 1))),
  o (some p11) (.mov x21)])))
def kc_merge_left_l0 : ACode := c_merge_left_l0
def c_merge_left : ACode := .seq (.region [o (some p4) (.mov (.c .nilsl))]) (.seq (.region [o (some p8) (.mkmap 2),
  o (some p5) (.alloc [.nilmap]),
  o none (.store x5 x8 1)]) (.seq (.seq (.region [o (some p9) (.mov x1),
  o (some p10) (.len false x9),
  o (some p11) (.mov (.c (iv 0)))]) (.block 0 (.loop kc_merge_left_l0))) (.seq (.region [o (some p22) (.mov x0),
  o (some p23) (.call 71 [x22]),
  o (some p24) (.mkfn 72 [] [x5]),
  o (some p25) (.call 70 [x23, x24]),
  o (some p4) (.mov x25)]) (.ret))))
def a40 : AFn := ⟨c_merge_left, [.t p4]⟩
abbrev f_merge_left : Nat := 40
def c_segment_rows : ACode := .seq (.region [o (some p1) (.box x0),
  o (some p2) (.mov (.c .nilfn))]) (.seq (.region [o (some p3) (.mkfn 73 [] [x1]),
  o (some p2) (.mov x3)]) (.ret))
def a41 : AFn := ⟨c_segment_rows, [.t p2]⟩
abbrev f_segment_rows : Nat := 41
def c_slices_Backward_int_int_1_l0 : ACode := .seq (.seq (.region [o (some p7) (.mov x3),
  o (some p8) (.bin .geq x7 (.c (iv 0)))]) (.cond x8 (.skip) (.exit 0))) (.seq (.block 1 (.seq (.region [o (some p11) (.mov x0),
  o (some p12) (.mov x3),
  o (some p13) (.load x1 false 1),
  o (some p14) (.mov x3),
  o (some p15) (.iaddrS 1 x13 x14),
  o (some p16) (.load x15 false 1),
  o (some p17) (.callv x11 [x12, x16]),
  o (some p18) (.un .not x17)]) (.cond x18 (.ret) (.skip)))) (.region [o (some p9) (.mov x3),
  o (some p10) (.bin .sub x9 (.c (iv 1))),
  o (some p3) (.mov x10)]))
def kc_slices_Backward_int_int_1_l0 : ACode := c_slices_Backward_int_int_1_l0
def c_slices_Backward_int_int_1 : ACode := .seq (.region [o (some p4) (.load x1 false 1),
  o (some p5) (.len false x4),
  o (some p6) (.bin .sub x5 (.c (iv 1))),
  o (some p3) (.mov x6)]) (.block 0 (.loop kc_slices_Backward_int_int_1_l0))
def a42 : AFn := ⟨c_slices_Backward_int_int_1, []⟩
abbrev f_slices_Backward_int_int_1 : Nat := 42
def c_slices_SortStableFunc_int_int : ACode := .region [o (some p4) (.mov x0),
  o (some p5) (.mov x0),
  o (some p6) (.len false x5),
  o (some p7) (.mov x1),
  o (some p8) (.call 74 [x4, x6, x7])]
def a43 : AFn := ⟨c_slices_SortStableFunc_int_int, []⟩
abbrev f_slices_SortStableFunc_int_int : Nat := 43
def c_merge_sorted_int_int_1 : ACode := .seq (.region [o (some p5) (.mov (.c (iv 0)))]) (.seq (.draw [(.l 0 0, o (some p6) (.load x2 false 1)),
  (.p, o (some p7) (.mov x0)),
  (.e, o (some p8) (.callv x6 [x7])),
  (.l 0 1, o (some p9) (.load x2 false 1)),
  (.p, o (some p10) (.mov x1)),
  (.e, o (some p11) (.callv x9 [x10])),
  (.e, o (some p12) (.call 45 [x8, x11])),
  (.p, o (some p5) (.mov x12))]) (.ret))
def a44 : AFn := ⟨c_merge_sorted_int_int_1, [.t p5]⟩
abbrev f_merge_sorted_int_int_1 : Nat := 44
def c_cmp_Compare_int : ACode := .seq (.region [o (some p4) (.mov (.c (iv 0)))]) (.seq (.region [o (some p7) (.mov x0),
  o (some p8) (.call 75 [x7]),
  o (some p5) (.mov x8)]) (.seq (.region [o (some p9) (.mov x1),
  o (some p10) (.call 75 [x9]),
  o (some p6) (.mov x10)]) (.seq (.seq (.region [o (some p11) (.mov x5)]) (.cond x11 (.seq (.seq (.region [o (some p12) (.mov x6)]) (.cond x12 (.seq (.region [o (some p4) (.mov (.c (iv 0)))]) (.ret)) (.skip))) (.seq (.region [o (some p4) (.mov (.c (iv (-1))))]) (.ret))) (.skip))) (.seq (.seq (.region [o (some p13) (.mov x6)]) (.cond x13 (.seq (.region [o (some p4) (.mov (.c (iv 1)))]) (.ret)) (.skip))) (.seq (.seq (.region [o (some p14) (.mov x0),
  o (some p15) (.mov x1),
  o (some p16) (.bin .lss x14 x15)]) (.cond x16 (.seq (.region [o (some p4) (.mov (.c (iv (-1))))]) (.ret)) (.skip))) (.seq (.seq (.region [o (some p17) (.mov x0),
  o (some p18) (.mov x1),
  o (some p19) (.bin .gtr x17 x18)]) (.cond x19 (.seq (.region [o (some p4) (.mov (.c (iv 1)))]) (.ret)) (.skip))) (.seq (.region [o (some p4) (.mov (.c (iv 0)))]) (.ret))))))))
def a45 : AFn := ⟨c_cmp_Compare_int, [.t p4]⟩
abbrev f_cmp_Compare_int : Nat := 45
def c_zone_Of_1 : ACode := .seq (.region [o (some p3) (.mov (.c (.bool false)))]) (.seq (.region [o (some p4) (.mov x0),
  o (some p5) (.call 47 [x4]),
  o (some p6) (.un .not x5),
  o (some p7) (.mov x6),
  og (some p8) (.mov x0) p7 false,
  og (some p9) (.len false x8) p7 false,
  og (some p10) (.faddr 0 x1) p7 false,
  og (some p11) (.load x10 false 1) p7 false,
  og (some p12) (.bin .neq x9 x11) p7 false,
  o (some p13) (.pick x7 (.c (.bool true)) x12),
  o (some p3) (.mov x13)]) (.ret))
def a46 : AFn := ⟨c_zone_Of_1, [.t p3]⟩
abbrev f_zone_Of_1 : Nat := 46
def c_vector_Valid : ACode := .seq (.region [o (some p2) (.mov (.c (.bool false)))]) (.seq (.region [o (some p4) (.mov x0),
  o (some p5) (.call 76 [x4, (.c (.bool true)), (.c (.fn 77 [] []))]),
  o (some p3) (.mov x5)]) (.seq (.region [o (some p6) (.mov x3),
  o (some p7) (.mov x6),
  og (some p8) (.mov x0) p7 true,
  og (some p9) (.len false x8) p7 true,
  og (some p10) (.bin .geq x9 (.c (iv 1))) p7 true,
  o (some p11) (.pick x7 x10 (.c (.bool false))),
  o (some p12) (.mov x11),
  og (some p13) (.mov x0) p12 true,
  og (some p14) (.len false x13) p12 true,
  og (some p15) (.bin .leq x14 (.c (iv 32))) p12 true,
  o (some p16) (.pick x12 x15 (.c (.bool false))),
  o (some p2) (.mov x16)]) (.ret)))
def a47 : AFn := ⟨c_vector_Valid, [.t p2]⟩
abbrev f_vector_Valid : Nat := 47
def c_attr_Check_l0 : ACode := .seq (.seq (.region [o (some p12) (.mov x5),
  o (some p13) (.faddr 2 x1),
  o (some p14) (.load x13 false 1),
  o (some p15) (.len false x14),
  o (some p16) (.bin .lss x12 x15),
  o (some p17) (.mov x16),
  og (some p18) (.mov x3) p17 true,
  og (some p19) (.bin .eql x18 (.c (iv 0))) p17 true,
  o (some p20) (.pick x17 x19 (.c (.bool false)))]) (.cond x20 (.skip) (.exit 0))) (.seq (.block 1 (.seq (.region [o (some p23) (.faddr 2 x1),
  o (some p24) (.load x23 false 1),
  o (some p25) (.mov x5),
  o (some p26) (.iaddrS 5 x24 x25),
  o (some p27) (.load x26 true 5),
  o (some p28) (.mov x4),
  o (some p29) (.call 81 [x27, x28]),
  o (some p3) (.mov x29)]) (.region [o (some p30) (.faddr 2 x1),
  o (some p31) (.load x30 false 1),
  o (some p32) (.mov x5),
  o (some p33) (.iaddrS 5 x31 x32),
  o (some p34) (.faddr 0 x33),
  o (some p35) (.load x34 false 1),
  o (some p4) (.mov x35)]))) (.region [o (some p21) (.mov x5),
  o (some p22) (.bin .add x21 (.c (iv 1))),
  o (some p5) (.mov x22)]))
def kc_attr_Check_l0 : ACode := c_attr_Check_l0
def c_attr_Check : ACode := .seq (.region [o (some p1) (.box x0),
  o (some p2) (.mov (.c (iv 0)))]) (.seq (.region [o (some p6) (.mkfn 79 [] [x1]),
  o (some p7) (.build [.nilfn, (iv 0)] [(0, 1, x6), (1, 1, (.c (iv 1)))]),
  o (some p8) (.mkfn 80 [] [x1]),
  o (some p9) (.build [.nilfn, (iv 0)] [(0, 1, x8), (1, 1, (.c (iv 2)))]),
  o (some p10) (.bslice 2 2 [.nilfn, (iv 0), .nilfn, (iv 0)] [(0, 2, x7), (2, 2, x9)]),
  o (some p11) (.call 78 [x10]),
  o (some p3) (.mov x11)]) (.seq (.region [o (some p4) (.mov (.c (.str (bs []))))]) (.seq (.seq (.region [o (some p5) (.mov (.c (iv 0)))]) (.block 0 (.loop kc_attr_Check_l0))) (.seq (.region [o (some p36) (.mov x3),
  o (some p2) (.mov x36)]) (.ret)))))
def a48 : AFn := ⟨c_attr_Check, [.t p2]⟩
abbrev f_attr_Check : Nat := 48
def c_slices_ContainsFunc_int_int : ACode := .seq (.region [o (some p4) (.mov (.c (.bool false)))]) (.seq (.region [o (some p5) (.mov x0),
  o (some p6) (.mov x1),
  o (some p7) (.call 82 [x5, x6]),
  o (some p8) (.bin .geq x7 (.c (iv 0))),
  o (some p4) (.mov x8)]) (.ret))
def a49 : AFn := ⟨c_slices_ContainsFunc_int_int, [.t p4]⟩
abbrev f_slices_ContainsFunc_int_int : Nat := 49
def c_slices_ContainsFunc_api_Entry_api_Entry : ACode := .seq (.region [o (some p4) (.mov (.c (.bool false)))]) (.seq (.region [o (some p5) (.mov x0),
  o (some p6) (.mov x1),
  o (some p7) (.call 83 [x5, x6]),
  o (some p8) (.bin .geq x7 (.c (iv 0))),
  o (some p4) (.mov x8)]) (.ret))
def a50 : AFn := ⟨c_slices_ContainsFunc_api_Entry_api_Entry, [.t p4]⟩
abbrev f_slices_ContainsFunc_api_Entry_api_Entry : Nat := 50
def c_zone_Of_2 : ACode := .seq (.region [o (some p2) (.box x0),
  o (some p3) (.mov (.c (.bool false)))]) (.seq (.region [o (some p4) (.load x1 true 3),
  o (some p5) (.load x2 true 9),
  o (some p6) (.call 52 [x4, x5]),
  o (some p7) (.bin .neq x6 (.c (iv 0))),
  o (some p3) (.mov x7)]) (.ret))
def a51 : AFn := ⟨c_zone_Of_2, [.t p3]⟩
abbrev f_zone_Of_2 : Nat := 51
def c_attr_Entry : ACode := .seq (.region [o (some p2) (.box x0),
  o (some p3) (.box x1),
  o (some p4) (.mov (.c (iv 0)))]) (.seq (.region [o (some p6) (.mkfn 84 [] [x3]),
  o (some p7) (.build [.nilfn, (iv 0)] [(0, 1, x6), (1, 1, (.c (iv 1)))]),
  o (some p8) (.mkfn 85 [] [x3]),
  o (some p9) (.build [.nilfn, (iv 0)] [(0, 1, x8), (1, 1, (.c (iv 9)))]),
  o (some p10) (.mkfn 86 [] [x3]),
  o (some p11) (.build [.nilfn, (iv 0)] [(0, 1, x10), (1, 1, (.c (iv 9)))]),
  o (some p12) (.mkfn 87 [] [x3]),
  o (some p13) (.build [.nilfn, (iv 0)] [(0, 1, x12), (1, 1, (.c (iv 9)))]),
  o (some p14) (.mkfn 88 [] [x3, x2]),
  o (some p15) (.build [.nilfn, (iv 0)] [(0, 1, x14), (1, 1, (.c (iv 40)))]),
  o (some p16) (.bslice 2 5 [.nilfn, (iv 0), .nilfn, (iv 0), .nilfn, (iv 0), .nilfn, (iv 0), .nilfn, (iv 0)] [(0, 2, x7), (2, 2, x9), (4, 2, x11), (6, 2, x13), (8, 2, x15)]),
  o (some p17) (.call 78 [x16]),
  o (some p5) (.mov x17)]) (.seq (.seq (.region [o (some p18) (.mov x5),
  o (some p19) (.bin .neq x18 (.c (iv 0)))]) (.cond x19 (.seq (.region [o (some p20) (.mov x5),
  o (some p4) (.mov x20)]) (.ret)) (.skip))) (.seq (.region [o (some p21) (.load x2 true 3),
  o (some p22) (.faddr 8 x3),
  o (some p23) (.load x22 false 1),
  o (some p24) (.call 89 [x21, x23]),
  o (some p4) (.mov x24)]) (.ret))))
def a52 : AFn := ⟨c_attr_Entry, [.t p4]⟩
abbrev f_attr_Entry : Nat := 52
def c_box_Of_l0 : ACode := .seq (.region [o (some p31) (.bin .lss x30 x29)]) (.seq (.cond x31 (.skip) (.exit 0)) (.seq (.block 1 (.seq (.region [o (some p32) (.iaddrS 1 x28 x30),
  o (some p33) (.load x32 false 1),
  o (some p7) (.mov x33)]) (.draw [(.p, o (some p34) (.faddr 0 x5)),
  (.l 0 0, o (some p35) (.load x34 false 1)),
  (.p, o (some p36) (.mov x7)),
  (.e, o (some p37) (.call 92 [x35, x36, (.c (.fn 93 [] []))])),
  (.p, o (some p38) (.faddr 1 x5)),
  (.l 0 1, o (some p39) (.load x38 false 1)),
  (.p, o (some p40) (.mov x7)),
  (.e, o (some p41) (.call 92 [x39, x40, (.c (.fn 94 [] []))])),
  (.p, o (some p42) (.faddr 0 x5)),
  (.e, o none (.store x42 x37 1)),
  (.p, o (some p43) (.faddr 1 x5)),
  (.e, o none (.store x43 x41 1))]))) (.region [o (some p44) (.bin .add x30 (.c (iv 1))),
  o (some p30) (.mov x44)])))
def kc_box_Of_l0 : ACode := c_box_Of_l0
def c_box_Of : ACode := .seq (.region [o (some p1) (.box x0),
  o (some p2) (.alloc [.nilsl, .nilsl]),
  o (some p3) (.mov (.c (iv 0)))]) (.seq (.region [o (some p8) (.mkfn 90 [] [x1]),
  o (some p4) (.mov x8)]) (.seq (.seq (.region [o (some p9) (.load x1 false 1),
  o (some p10) (.len false x9),
  o (some p11) (.bin .eql x10 (.c (iv 0))),
  o (some p12) (.mov x11),
  og (some p13) (.load x1 false 1) p12 false,
  og (some p14) (.mov x4) p12 false,
  og (some p15) (.call 49 [x13, x14]) p12 false,
  o (some p16) (.pick x12 (.c (.bool true)) x15)]) (.cond x16 (.seq (.region [o (some p17) (.build [.nilsl, .nilsl] []),
  o none (.store x2 x17 2),
  o (some p3) (.mov (.c (iv 1)))]) (.ret)) (.skip))) (.seq (.draw [(.l 0 0, o (some p18) (.load x1 false 1)),
  (.p, o (some p19) (.iaddrS 1 x18 (.c (iv 0)))),
  (.l 0 0, o (some p20) (.load x19 false 1)),
  (.e, o (some p21) (.call 22 [x20])),
  (.l 0 1, o (some p22) (.load x1 false 1)),
  (.p, o (some p23) (.iaddrS 1 x22 (.c (iv 0)))),
  (.l 0 1, o (some p24) (.load x23 false 1)),
  (.e, o (some p25) (.call 22 [x24])),
  (.p, o (some p26) (.build [.nilsl, .nilsl] [(0, 1, x21), (1, 1, x25)])),
  (.pre 0 2, o (some p5) (.alloc [.nilsl, .nilsl])),
  (.e, o none (.store x5 x26 2))]) (.seq (.seq (.region [o (some p27) (.load x1 false 1),
  o (some p28) (.slice 1 x27 (some (.c (iv 1))) none none),
  o (some p29) (.len false x28),
  o (some p30) (.mov (.c (iv 0)))]) (.block 0 (.loop kc_box_Of_l0))) (.seq (.region [o (some p45) (.load x5 true 2),
  o none (.store x2 x45 2),
  o (some p3) (.mov (.c (iv 0)))]) (.ret))))))
def a53 : AFn := ⟨c_box_Of, [.cell p2 true 2, .t p3]⟩
abbrev f_box_Of : Nat := 53
def c_pivot_Shells_l1 : ACode := .seq (.region [o (some p46) (.bin .lss x45 x44)]) (.seq (.cond x46 (.skip) (.exit 2)) (.seq (.block 3 (.seq (.region [o (some p47) (.iaddrS 1 x43 x45),
  o (some p48) (.load x47 false 1),
  o (some p14) (.mov x48)]) (.draw [(.l 0 0, o (some p49) (.load x12 true 2)),
  (.p, o (some p50) (.mov x14)),
  (.p, o (some p51) (.mov x11)),
  (.p, o (some p52) (.iaddrS 1 x50 x51)),
  (.l 0 0, o (some p53) (.load x52 false 1)),
  (.e, o (some p54) (.call 96 [x49, x53])),
  (.e, o none (.store x12 x54 2))]))) (.region [o (some p55) (.bin .add x45 (.c (iv 1))),
  o (some p45) (.mov x55)])))
def kc_pivot_Shells_l1 : ACode := c_pivot_Shells_l1
def c_pivot_Shells_l0 : ACode := .seq (.region [o (some p28) (.bin .lss x27 x26)]) (.seq (.cond x28 (.skip) (.exit 0)) (.seq (.block 1 (.seq (.region [o (some p29) (.mov x27),
  o (some p11) (.mov x29)]) (.seq (.draw [(.p, o (some p30) (.mov x8)),
  (.p, o (some p31) (.iaddrS 1 x30 (.c (iv 0)))),
  (.l 0 0, o (some p32) (.load x31 false 1)),
  (.p, o (some p33) (.mov x11)),
  (.p, o (some p34) (.iaddrS 1 x32 x33)),
  (.l 0 0, o (some p35) (.load x34 false 1)),
  (.p, o (some p36) (.mov x8)),
  (.p, o (some p37) (.iaddrS 1 x36 (.c (iv 0)))),
  (.l 0 0, o (some p38) (.load x37 false 1)),
  (.p, o (some p39) (.mov x11)),
  (.p, o (some p40) (.iaddrS 1 x38 x39)),
  (.l 0 0, o (some p41) (.load x40 false 1)),
  (.p, o (some p42) (.build [(iv 0), (iv 0)] [(0, 1, x35), (1, 1, x41)])),
  (.p, o (some p12) (.alloc [(iv 0), (iv 0)])),
  (.e, o none (.store x12 x42 2))]) (.seq (.seq (.region [o (some p43) (.mov x8),
  o (some p44) (.len false x43),
  o (some p45) (.mov (.c (iv 0)))]) (.block 2 (.loop kc_pivot_Shells_l1))) (.region [o (some p56) (.mov x10),
  o (some p57) (.faddr 0 x12),
  o (some p58) (.load x57 false 1),
  o (some p59) (.faddr 1 x12),
  o (some p60) (.load x59 false 1),
  o (some p61) (.build [(iv 0), (iv 0)] [(0, 1, x58), (1, 1, x60)]),
  o (some p62) (.bslice 2 1 [(iv 0), (iv 0)] [(0, 2, x61)]),
  o (some p63) (.append 2 16 x56 x62),
  o (some p10) (.mov x63)]))))) (.region [o (some p64) (.bin .add x27 (.c (iv 1))),
  o (some p27) (.mov x64)])))
def kc_pivot_Shells_l0 : ACode := c_pivot_Shells_l0
def c_pivot_Shells : ACode := .seq (.region [o (some p6) (.mov (.c .nilsl)),
  o (some p7) (.mov (.c (iv 0)))]) (.seq (.region [o (some p16) (.mov x0),
  o (some p17) (.mov x1),
  o (some p18) (.mov x2),
  o (some p19) (.call 95 [x16, x17, x18]),
  o (some p15) (.mov x19),
  o (some p20) (.extract x15 0),
  o (some p21) (.extract x15 1),
  o (some p8) (.mov x20),
  o (some p9) (.mov x21)]) (.seq (.seq (.region [o (some p22) (.mov x9),
  o (some p23) (.bin .neq x22 (.c (iv 0)))]) (.cond x23 (.seq (.region [o (some p24) (.mov x9),
  o (some p6) (.mov (.c .nilsl)),
  o (some p7) (.mov x24)]) (.ret)) (.skip))) (.seq (.region [o (some p10) (.mov (.c .nilsl))]) (.seq (.seq (.region [o (some p25) (.mov x1),
  o (some p26) (.len false x25),
  o (some p27) (.mov (.c (iv 0)))]) (.block 0 (.loop kc_pivot_Shells_l0))) (.seq (.region [o (some p65) (.mov x10),
  o (some p6) (.mov x65),
  o (some p7) (.mov (.c (iv 0)))]) (.ret))))))
def a54 : AFn := ⟨c_pivot_Shells, [.t p6, .t p7]⟩
abbrev f_pivot_Shells : Nat := 54
def c_zone_fieldOf_l0 : ACode := .seq (.region [o (some p15) (.bin .lss x14 x13)]) (.seq (.cond x15 (.skip) (.exit 0)) (.seq (.block 1 (.seq (.region [o (some p16) (.iaddrS 9 x12 x14),
  o (some p17) (.load x16 true 9),
  o (some p8) (.alloc [(iv 0), (iv 0), (iv 0), (iv 0), (iv 0), (iv 0), (iv 0), .nilsl, .nilsl]),
  o none (.store x8 x17 9)]) (.seq (.region [o (some p19) (.faddr 8 x8),
  o (some p20) (.load x19 false 1),
  o (some p21) (.faddr 0 x2),
  o (some p22) (.load x21 false 1),
  o (some p23) (.call 97 [x20, x22]),
  o (some p18) (.mov x23),
  o (some p24) (.extract x18 0),
  o (some p25) (.extract x18 1),
  o (some p9) (.alloc [(.str (bs [])), (iv 0), (iv 0), (.str (bs []))]),
  o none (.store x9 x24 4),
  o (some p10) (.mov x25)]) (.seq (.seq (.region [o (some p26) (.mov x10),
  o (some p27) (.un .not x26)]) (.cond x27 (.exit 1) (.skip))) (.seq (.seq (.region [o (some p28) (.faddr 0 x5),
  o (some p29) (.load x28 false 1),
  o (some p30) (.bin .eql x29 (.c (iv 0)))]) (.cond x30 (.draw [(.p, o (some p31) (.faddr 2 x9)),
  (.l 0 0, o (some p32) (.load x31 false 1)),
  (.p, o (some p33) (.faddr 2 x9)),
  (.l 0 1, o (some p34) (.load x33 false 1)),
  (.p, o (some p35) (.faddr 1 x5)),
  (.e, o none (.store x35 x32 1)),
  (.p, o (some p36) (.faddr 2 x5)),
  (.e, o none (.store x36 x34 1))]) (.skip))) (.seq (.draw [(.p, o (some p37) (.faddr 0 x5)),
  (.l 0 0, o (some p38) (.load x37 false 1)),
  (.p, o (some p39) (.bin .add x38 (.c (iv 1)))),
  (.p, o (some p40) (.faddr 1 x5)),
  (.l 0 0, o (some p41) (.load x40 false 1)),
  (.p, o (some p42) (.faddr 2 x9)),
  (.l 0 1, o (some p43) (.load x42 false 1)),
  (.p, o (some p44) (.mn [x41, x43])),
  (.p, o (some p45) (.faddr 2 x5)),
  (.l 0 0, o (some p46) (.load x45 false 1)),
  (.p, o (some p47) (.faddr 2 x9)),
  (.l 0 2, o (some p48) (.load x47 false 1)),
  (.p, o (some p49) (.mx [x46, x48])),
  (.p, o (some p50) (.faddr 0 x5)),
  (.e, o none (.store x50 x39 1)),
  (.p, o (some p51) (.faddr 1 x5)),
  (.e, o none (.store x51 x44 1)),
  (.p, o (some p52) (.faddr 2 x5)),
  (.e, o none (.store x52 x49 1))]) (.seq (.region [o (some p53) (.faddr 1 x2),
  o (some p54) (.load x53 false 1),
  o (some p55) (.bin .eql x54 (.c (iv 2)))]) (.cond x55 (.region [o (some p56) (.mov x6),
  o (some p57) (.faddr 3 x9),
  o (some p58) (.load x57 false 1),
  o none (.bad)]) (.skip))))))))) (.region [o (some p59) (.bin .add x14 (.c (iv 1))),
  o (some p14) (.mov x59)])))
def kc_zone_fieldOf_l0 : ACode := c_zone_fieldOf_l0
def c_zone_fieldOf : ACode := .seq (.region [o (some p2) (.box x0),
  o (some p4) (.alloc [(iv 0), (iv 0), (iv 0), .nilsl])]) (.seq (.region [o (some p5) (.alloc [(iv 0), (iv 0), (iv 0), .nilsl])]) (.seq (.region [o (some p11) (.mkmap 0),
  o (some p6) (.mov x11)]) (.seq (.seq (.region [o (some p12) (.mov x1),
  o (some p13) (.len false x12),
  o (some p14) (.mov (.c (iv 0)))]) (.block 0 (.loop kc_zone_fieldOf_l0))) (.seq (.region [o (some p60) (.mov x6),
  o (some p61) (.call 98 [x60]),
  o (some p62) (.faddr 3 x5),
  o none (.store x62 x61 1)]) (.seq (.region [o (some p63) (.load x5 true 4),
  o none (.store x4 x63 4)]) (.ret))))))
def a55 : AFn := ⟨c_zone_fieldOf, [.cell p4 true 4]⟩
abbrev f_zone_fieldOf : Nat := 55
def c_slices_Collect_api_Entry : ACode := .seq (.region [o (some p2) (.mov (.c .nilsl))]) (.seq (.region [o (some p3) (.mov x0),
  o (some p4) (.call 99 [(.c .nilsl), x3]),
  o (some p2) (.mov x4)]) (.ret))
def a56 : AFn := ⟨c_slices_Collect_api_Entry, [.t p2]⟩
abbrev f_slices_Collect_api_Entry : Nat := 56
def c_slices_SortStableFunc_api_Entry_api_Entry : ACode := .region [o (some p4) (.mov x0),
  o (some p5) (.mov x0),
  o (some p6) (.len false x5),
  o (some p7) (.mov x1),
  o (some p8) (.call 100 [x4, x6, x7])]
def a57 : AFn := ⟨c_slices_SortStableFunc_api_Entry_api_Entry, []⟩
abbrev f_slices_SortStableFunc_api_Entry_api_Entry : Nat := 57
def c_slices_Values_api_Entry_api_Entry_1_l0 : ACode := .seq (.region [o (some p8) (.bin .lss x7 x6)]) (.seq (.cond x8 (.skip) (.exit 0)) (.seq (.block 1 (.seq (.region [o (some p9) (.iaddrS 9 x5 x7),
  o (some p10) (.load x9 true 9),
  o (some p4) (.alloc [(iv 0), (iv 0), (iv 0), (iv 0), (iv 0), (iv 0), (iv 0), .nilsl, .nilsl]),
  o none (.store x4 x10 9)]) (.seq (.region [o (some p11) (.mov x0),
  o (some p12) (.load x4 true 9),
  o (some p13) (.callv x11 [x12]),
  o (some p14) (.un .not x13)]) (.cond x14 (.ret) (.skip))))) (.region [o (some p15) (.bin .add x7 (.c (iv 1))),
  o (some p7) (.mov x15)])))
def kc_slices_Values_api_Entry_api_Entry_1_l0 : ACode := c_slices_Values_api_Entry_api_Entry_1_l0
def c_slices_Values_api_Entry_api_Entry_1 : ACode := .seq (.region [o (some p5) (.load x1 false 1),
  o (some p6) (.len false x5),
  o (some p7) (.mov (.c (iv 0)))]) (.block 0 (.loop kc_slices_Values_api_Entry_api_Entry_1_l0))
def a58 : AFn := ⟨c_slices_Values_api_Entry_api_Entry_1, []⟩
abbrev f_slices_Values_api_Entry_api_Entry_1 : Nat := 58
def c_cmp_Or_int_l0 : ACode := .seq (.region [o (some p9) (.bin .lss x8 x7)]) (.seq (.cond x9 (.skip) (.exit 0)) (.seq (.block 1 (.seq (.region [o (some p10) (.iaddrS 1 x6 x8),
  o (some p11) (.load x10 false 1),
  o (some p5) (.mov x11)]) (.seq (.region [o (some p12) (.mov x5),
  o (some p13) (.mov x3),
  o (some p14) (.bin .neq x12 x13)]) (.cond x14 (.seq (.region [o (some p15) (.mov x5),
  o (some p2) (.mov x15)]) (.ret)) (.skip))))) (.region [o (some p16) (.bin .add x8 (.c (iv 1))),
  o (some p8) (.mov x16)])))
def kc_cmp_Or_int_l0 : ACode := c_cmp_Or_int_l0
def c_cmp_Or_int : ACode := .seq (.region [o (some p2) (.mov (.c (iv 0)))]) (.seq (.region [o (some p3) (.mov (.c (iv 0)))]) (.seq (.seq (.region [o (some p6) (.mov x0),
  o (some p7) (.len false x6),
  o (some p8) (.mov (.c (iv 0)))]) (.block 0 (.loop kc_cmp_Or_int_l0))) (.seq (.region [o (some p17) (.mov x3),
  o (some p2) (.mov x17)]) (.ret))))
def a59 : AFn := ⟨c_cmp_Or_int, [.t p2]⟩
abbrev f_cmp_Or_int : Nat := 59
def c_pivot_isMetric : ACode := .seq (.region [o (some p2) (.mov (.c (.bool false)))]) (.seq (.region [o (some p3) (.mov x0),
  o (some p4) (.call 101 [x3, (.c (iv 0))]),
  o (some p2) (.mov x4)]) (.ret))
def a60 : AFn := ⟨c_pivot_isMetric, [.t p2]⟩
abbrev f_pivot_isMetric : Nat := 60
def c_pivot_fit : ACode := .seq (.region [o (some p1) (.box x0),
  o (some p2) (.mov (.c (.bool false)))]) (.seq (.region [o (some p3) (.load x1 false 1),
  o (some p4) (.len false x3),
  o (some p5) (.bin .geq x4 (.c (iv 1))),
  o (some p6) (.mov x5),
  og (some p7) (.load x1 false 1) p6 true,
  og (some p8) (.len false x7) p6 true,
  og (some p9) (.bin .leq x8 (.c (iv 4096))) p6 true,
  o (some p10) (.pick x6 x9 (.c (.bool false))),
  o (some p11) (.mov x10),
  og (some p12) (.load x1 false 1) p11 true,
  og (some p13) (.mkfn 102 [] [x1]) p11 true,
  og (some p14) (.call 49 [x12, x13]) p11 true,
  og (some p15) (.un .not x14) p11 true,
  o (some p16) (.pick x11 x15 (.c (.bool false))),
  o (some p2) (.mov x16)]) (.ret))
def a61 : AFn := ⟨c_pivot_fit, [.t p2]⟩
abbrev f_pivot_fit : Nat := 61
def c_slices_Repeat_int_int_l0 : ACode := .seq (.seq (.region [o (some p34) (.mov x8),
  o (some p35) (.mov x7),
  o (some p36) (.len false x35),
  o (some p37) (.bin .lss x34 x36)]) (.cond x37 (.skip) (.exit 0))) (.block 1 (.draw [(.p, o (some p38) (.mov x8)),
  (.p, o (some p39) (.mov x7)),
  (.p, o (some p40) (.mov x8)),
  (.p, o (some p41) (.slice 1 x39 (some x40) none none)),
  (.p, o (some p42) (.mov x7)),
  (.p, o (some p43) (.mov x8)),
  (.p, o (some p44) (.slice 1 x42 none (some x43) none)),
  (.e, o (some p45) (.copy 1 x41 x44)),
  (.p, o (some p46) (.bin .add x38 x45)),
  (.p, o (some p8) (.mov x46))]))
def kc_slices_Repeat_int_int_l0 : ACode := c_slices_Repeat_int_int_l0
def c_slices_Repeat_int_int : ACode := .seq (.region [o (some p4) (.mov (.c .nilsl))]) (.seq (.seq (.region [o (some p9) (.mov x1),
  o (some p10) (.bin .lss x9 (.c (iv 0)))]) (.cond x10 (.region [o (some p11) (.mkif 9 (.c (.str (bs [99, 97, 110, 110, 111, 116, 32, 98, 101, 32, 110, 101, 103, 97, 116, 105, 118, 101])))),
  o none (.bad)]) (.skip))) (.seq (.region [o (some p13) (.mov x0),
  o (some p14) (.len false x13),
  o (some p15) (.convI .u64 x14),
  o (some p16) (.mov x1),
  o (some p17) (.convI .u64 x16),
  o (some p18) (.call 104 [x15, x17]),
  o (some p12) (.mov x18),
  o (some p19) (.extract x12 0),
  o (some p20) (.extract x12 1),
  o (some p5) (.mov x19),
  o (some p6) (.mov x20)]) (.seq (.seq (.region [o (some p21) (.mov x5),
  o (some p22) (.bin .gtr x21 (.c (.int .u64 0))),
  o (some p23) (.mov x22),
  og (some p24) (.mov x6) p23 false,
  og (some p25) (.bin .gtr x24 (.c (.int .u64 9223372036854775807))) p23 false,
  o (some p26) (.pick x23 (.c (.bool true)) x25)]) (.cond x26 (.region [o (some p27) (.mkif 9 (.c (.str (bs [116, 104, 101, 32, 114, 101, 115, 117, 108, 116, 32, 111, 102, 32, 40, 108, 101, 110, 40, 120, 41, 32, 42, 32, 99, 111, 117, 110, 116, 41, 32, 111, 118, 101, 114, 102, 108, 111, 119, 115])))),
  o none (.bad)]) (.skip))) (.seq (.region [o (some p28) (.mov x6),
  o (some p29) (.convI .i64 x28),
  o (some p30) (.mkslice 1 8 [(iv 0)] x29 x29),
  o (some p7) (.mov x30)]) (.seq (.region [o (some p31) (.mov x7),
  o (some p32) (.mov x0),
  o (some p33) (.copy 1 x31 x32),
  o (some p8) (.mov x33)]) (.seq (.block 0 (.loop kc_slices_Repeat_int_int_l0)) (.seq (.region [o (some p47) (.mov x7),
  o (some p4) (.mov x47)]) (.ret))))))))
def a62 : AFn := ⟨c_slices_Repeat_int_int, [.t p4]⟩
abbrev f_slices_Repeat_int_int : Nat := 62
def c_pivot_chooser_farthest : ACode := .seq (.region [o (some p2) (.mov (.c (iv 0))),
  o (some p3) (.mov (.c (iv 0)))]) (.seq (.region [o (some p5) (.mov x0),
  o (some p6) (.nilchk x5),
  o (some p7) (.faddr 2 x6),
  o (some p8) (.load x7 false 1),
  o (some p9) (.call 105 [x8]),
  o (some p4) (.mov x9)]) (.seq (.region [o (some p10) (.mov x0),
  o (some p11) (.nilchk x10),
  o (some p12) (.faddr 2 x11),
  o (some p13) (.load x12 false 1),
  o (some p14) (.mov x4),
  o (some p15) (.call 106 [x13, x14]),
  o (some p16) (.mov x4),
  o (some p2) (.mov x15),
  o (some p3) (.mov x16)]) (.ret)))
def a63 : AFn := ⟨c_pivot_chooser_farthest, [.t p2, .t p3]⟩
abbrev f_pivot_chooser_farthest : Nat := 63
def c_pivot_chooser_take_l0 : ACode := .seq (.region [o (some p12) (.bin .lss x11 x10)]) (.seq (.cond x12 (.skip) (.exit 0)) (.seq (.block 1 (.seq (.region [o (some p13) (.mov x11),
  o (some p14) (.iaddrS 1 x9 x11),
  o (some p15) (.load x14 false 1),
  o (some p4) (.mov x13),
  o (some p5) (.mov x15)]) (.draw [(.p, o (some p16) (.mov x0)),
  (.p, o (some p17) (.nilchk x16)),
  (.p, o (some p18) (.faddr 2 x17)),
  (.l 0 1, o (some p19) (.load x18 false 1)),
  (.p, o (some p20) (.mov x4)),
  (.p, o (some p21) (.mov x0)),
  (.p, o (some p22) (.nilchk x21)),
  (.p, o (some p23) (.faddr 2 x22)),
  (.l 0 1, o (some p24) (.load x23 false 1)),
  (.p, o (some p25) (.mov x4)),
  (.p, o (some p26) (.iaddrS 1 x24 x25)),
  (.l 0 1, o (some p27) (.load x26 false 1)),
  (.p, o (some p28) (.mov x0)),
  (.p, o (some p29) (.nilchk x28)),
  (.p, o (some p30) (.faddr 0 x29)),
  (.l 0 0, o (some p31) (.load x30 false 1)),
  (.p, o (some p32) (.mov x0)),
  (.p, o (some p33) (.nilchk x32)),
  (.p, o (some p34) (.faddr 1 x33)),
  (.l 0 0, o (some p35) (.load x34 false 1)),
  (.p, o (some p36) (.mov x1)),
  (.p, o (some p37) (.iaddrS 1 x35 x36)),
  (.l 0 0, o (some p38) (.load x37 false 1)),
  (.p, o (some p39) (.mov x5)),
  (.e, o (some p40) (.call 107 [x31, x38, x39])),
  (.p, o (some p41) (.mn [x27, x40])),
  (.p, o (some p42) (.iaddrS 1 x19 x20)),
  (.e, o none (.store x42 x41 1))]))) (.region [o (some p43) (.bin .add x11 (.c (iv 1))),
  o (some p11) (.mov x43)])))
def kc_pivot_chooser_take_l0 : ACode := c_pivot_chooser_take_l0
def c_pivot_chooser_take : ACode := .seq (.region [o (some p6) (.mov x0),
  o (some p7) (.nilchk x6),
  o (some p8) (.faddr 1 x7),
  o (some p9) (.load x8 false 1),
  o (some p10) (.len false x9),
  o (some p11) (.mov (.c (iv 0)))]) (.block 0 (.loop kc_pivot_chooser_take_l0))
def a64 : AFn := ⟨c_pivot_chooser_take, []⟩
abbrev f_pivot_chooser_take : Nat := 64
def c_segment_builder_flat : ACode := .seq (.region [o (some p1) (.box x0),
  o (some p2) (.alloc [(iv 0), (iv 0), .nilsl, (iv 0), .nilsl, .nilsl, .nilsl, (iv 0), (iv 0), (iv 0), (iv 0), (iv 0), .nilsl, .nilsl, .nilsl, .nilsl, .nilsl]),
  o (some p3) (.mov (.c (iv 0)))]) (.seq (.region [o (some p7) (.faddr 0 x1),
  o (some p8) (.load x7 true 3),
  o (some p9) (.faddr 4 x1),
  o (some p10) (.faddr 2 x9),
  o (some p11) (.load x10 false 1),
  o (some p12) (.faddr 3 x1),
  o (some p13) (.load x12 false 1),
  o (some p14) (.call 108 [x8, x11, x13, (.c (iv 16))]),
  o (some p6) (.mov x14),
  o (some p15) (.extract x6 0),
  o (some p16) (.extract x6 1),
  o (some p4) (.alloc [(iv 0), .nilsl, .nilsl, .nilsl, (iv 0), (iv 0), (iv 0), (iv 0), (iv 0), .nilsl, .nilsl, .nilsl]),
  o none (.store x4 x15 12),
  o (some p5) (.mov x16)]) (.seq (.region [o (some p17) (.load x4 true 12),
  o (some p18) (.faddr 4 x1),
  o (some p19) (.faddr 3 x18),
  o none (.store x19 x17 12)]) (.seq (.region [o (some p20) (.faddr 4 x1),
  o (some p21) (.load x20 true 17),
  o (some p22) (.mov x5),
  o none (.store x2 x21 17),
  o (some p3) (.mov x22)]) (.ret))))
def a65 : AFn := ⟨c_segment_builder_flat, [.cell p2 true 17, .t p3]⟩
abbrev f_segment_builder_flat : Nat := 65
def c_segment_builder_clusters : ACode := .seq (.region [o (some p1) (.box x0),
  o (some p2) (.alloc [(iv 0), (iv 0), .nilsl, (iv 0), .nilsl, .nilsl, .nilsl, (iv 0), (iv 0), (iv 0), (iv 0), (iv 0), .nilsl, .nilsl, .nilsl, .nilsl, .nilsl]),
  o (some p3) (.mov (.c (iv 0)))]) (.seq (.region [o (some p7) (.faddr 0 x1),
  o (some p8) (.load x7 true 3),
  o (some p9) (.faddr 4 x1),
  o (some p10) (.faddr 2 x9),
  o (some p11) (.load x10 false 1),
  o (some p12) (.faddr 3 x1),
  o (some p13) (.load x12 false 1),
  o (some p14) (.call 109 [x8, x11, x13]),
  o (some p6) (.mov x14),
  o (some p15) (.extract x6 0),
  o (some p16) (.extract x6 1),
  o (some p4) (.alloc [(iv 0), .nilsl, .nilsl, .nilsl, (iv 0), (iv 0), (iv 0), (iv 0), (iv 0), .nilsl, .nilsl, .nilsl]),
  o none (.store x4 x15 12),
  o (some p5) (.mov x16)]) (.seq (.region [o (some p17) (.load x4 true 12),
  o (some p18) (.faddr 4 x1),
  o (some p19) (.faddr 3 x18),
  o none (.store x19 x17 12)]) (.seq (.region [o (some p20) (.faddr 4 x1),
  o (some p21) (.load x20 true 17),
  o (some p22) (.mov x5),
  o none (.store x2 x21 17),
  o (some p3) (.mov x22)]) (.ret))))
def a66 : AFn := ⟨c_segment_builder_clusters, [.cell p2 true 17, .t p3]⟩
abbrev f_segment_builder_clusters : Nat := 66
def c_segment_builder_hoods : ACode := .seq (.region [o (some p1) (.box x0),
  o (some p2) (.alloc [(iv 0), (iv 0), .nilsl, (iv 0), .nilsl, .nilsl, .nilsl, (iv 0), (iv 0), (iv 0), (iv 0), (iv 0), .nilsl, .nilsl, .nilsl, .nilsl, .nilsl]),
  o (some p3) (.mov (.c (iv 0)))]) (.seq (.region [o (some p7) (.load x1 true 21),
  o (some p8) (.call 65 [x7]),
  o (some p6) (.mov x8),
  o (some p9) (.extract x6 0),
  o (some p10) (.extract x6 1),
  o (some p4) (.alloc [(iv 0), (iv 0), .nilsl, (iv 0), .nilsl, .nilsl, .nilsl, (iv 0), (iv 0), (iv 0), (iv 0), (iv 0), .nilsl, .nilsl, .nilsl, .nilsl, .nilsl]),
  o none (.store x4 x9 17),
  o (some p5) (.mov x10)]) (.seq (.seq (.region [o (some p11) (.mov x5),
  o (some p12) (.bin .neq x11 (.c (iv 0)))]) (.cond x12 (.seq (.region [o (some p13) (.load x4 true 17),
  o (some p14) (.mov x5),
  o none (.store x2 x13 17),
  o (some p3) (.mov x14)]) (.ret)) (.skip))) (.seq (.draw [(.p, o (some p16) (.faddr 0 x1)),
  (.p, o (some p17) (.faddr 1 x16)),
  (.l 0 1, o (some p18) (.load x17 false 1)),
  (.p, o (some p19) (.faddr 3 x1)),
  (.l 0 0, o (some p20) (.load x19 false 1)),
  (.e, o (some p21) (.call 35 [x20])),
  (.e, o (some p22) (.call 110 [x18, x21, (.c (iv 8))])),
  (.p, o (some p15) (.mov x22)),
  (.p, o (some p23) (.extract x15 0)),
  (.p, o (some p24) (.extract x15 1)),
  (.p, o (some p25) (.faddr 15 x4)),
  (.e, o none (.store x25 x23 1)),
  (.p, o (some p5) (.mov x24))]) (.seq (.region [o (some p26) (.load x4 true 17),
  o (some p27) (.mov x5),
  o none (.store x2 x26 17),
  o (some p3) (.mov x27)]) (.ret)))))
def a67 : AFn := ⟨c_segment_builder_hoods, [.cell p2 true 17, .t p3]⟩
abbrev f_segment_builder_hoods : Nat := 67
def c_segment_places_l0 : ACode := .seq (.region [o (some p11) (.bin .lss x10 x9)]) (.seq (.cond x11 (.skip) (.exit 0)) (.seq (.block 1 (.seq (.region [o (some p12) (.mov x10),
  o (some p13) (.iaddrS 9 x8 x10),
  o (some p14) (.load x13 true 9),
  o (some p5) (.alloc [(iv 0), (iv 0), (iv 0), (iv 0), (iv 0), (iv 0), (iv 0), .nilsl, .nilsl]),
  o (some p4) (.mov x12),
  o none (.store x5 x14 9)]) (.region [o (some p15) (.mov x3),
  o (some p16) (.faddr 0 x5),
  o (some p17) (.load x16 false 1),
  o (some p18) (.faddr 1 x5),
  o (some p19) (.load x18 false 1),
  o (some p20) (.build [(iv 0), (iv 0)] [(0, 1, x17), (1, 1, x19)]),
  o (some p21) (.mov x4),
  o none (.mapset 2 x15 x20 x21)]))) (.region [o (some p22) (.bin .add x10 (.c (iv 1))),
  o (some p10) (.mov x22)])))
def kc_segment_places_l0 : ACode := c_segment_places_l0
def c_segment_places : ACode := .seq (.region [o (some p1) (.box x0),
  o (some p2) (.mov (.c .nilmap))]) (.seq (.region [o (some p6) (.mkmap 2),
  o (some p3) (.mov x6)]) (.seq (.seq (.region [o (some p7) (.load x1 true 17),
  o (some p8) (.call 39 [x7]),
  o (some p9) (.len false x8),
  o (some p10) (.mov (.c (iv 0)))]) (.block 0 (.loop kc_segment_places_l0))) (.seq (.region [o (some p23) (.mov x3),
  o (some p2) (.mov x23)]) (.ret))))
def a68 : AFn := ⟨c_segment_places, [.t p2]⟩
abbrev f_segment_places : Nat := 68
def c_part_Entries_l0 : ACode := .seq (.region [o (some p13) (.bin .lss x12 x11)]) (.seq (.cond x13 (.skip) (.exit 0)) (.seq (.block 1 (.seq (.region [o (some p14) (.iaddrS 12 x10 x12),
  o (some p15) (.load x14 true 12),
  o (some p5) (.alloc [(iv 0), .nilsl, .nilsl, .nilsl, (iv 0), (iv 0), (iv 0), (iv 0), (iv 0), .nilsl, .nilsl, .nilsl]),
  o none (.store x5 x15 12)]) (.region [o (some p16) (.mov x3),
  o (some p17) (.load x5 true 12),
  o (some p18) (.call 69 [x17]),
  o (some p19) (.append 9 104 x16 x18),
  o (some p3) (.mov x19)]))) (.region [o (some p20) (.bin .add x12 (.c (iv 1))),
  o (some p12) (.mov x20)])))
def kc_part_Entries_l0 : ACode := c_part_Entries_l0
def c_part_Entries : ACode := .seq (.region [o (some p1) (.box x0),
  o (some p2) (.mov (.c .nilsl))]) (.seq (.region [o (some p6) (.faddr 11 x1),
  o (some p7) (.load x6 false 1),
  o (some p8) (.call 111 [x7]),
  o (some p3) (.mov x8)]) (.seq (.seq (.region [o (some p9) (.faddr 10 x1),
  o (some p10) (.load x9 false 1),
  o (some p11) (.len false x10),
  o (some p12) (.mov (.c (iv 0)))]) (.block 0 (.loop kc_part_Entries_l0))) (.seq (.region [o (some p21) (.mov x3),
  o (some p2) (.mov x21)]) (.ret))))
def a69 : AFn := ⟨c_part_Entries, [.t p2]⟩
abbrev f_part_Entries : Nat := 69
def c_slices_DeleteFunc_api_Row_api_Row_l0 : ACode := .seq (.seq (.region [o (some p16) (.mov x6),
  o (some p17) (.mov x0),
  o (some p18) (.len false x17),
  o (some p19) (.bin .lss x16 x18)]) (.cond x19 (.skip) (.exit 0))) (.seq (.block 1 (.seq (.region [o (some p22) (.mov x0),
  o (some p23) (.mov x6),
  o (some p24) (.iaddrS 10 x22 x23),
  o (some p25) (.load x24 true 10),
  o (some p7) (.alloc [(iv 0), (iv 0), (iv 0), (iv 0), (iv 0), (iv 0), (iv 0), .nilsl, .nilsl, (iv 0)]),
  o none (.store x7 x25 10)]) (.seq (.region [o (some p26) (.mov x1),
  o (some p27) (.load x7 true 10),
  o (some p28) (.callv x26 [x27]),
  o (some p29) (.un .not x28)]) (.cond x29 (.seq (.region [o (some p30) (.mov x0),
  o (some p31) (.mov x5),
  o (some p32) (.load x7 true 10),
  o (some p33) (.iaddrS 10 x30 x31),
  o none (.store x33 x32 10)]) (.region [o (some p34) (.mov x5),
  o (some p35) (.bin .add x34 (.c (iv 1))),
  o (some p5) (.mov x35)])) (.skip))))) (.region [o (some p20) (.mov x6),
  o (some p21) (.bin .add x20 (.c (iv 1))),
  o (some p6) (.mov x21)]))
def kc_slices_DeleteFunc_api_Row_api_Row_l0 : ACode := c_slices_DeleteFunc_api_Row_api_Row_l0
def c_slices_DeleteFunc_api_Row_api_Row : ACode := .seq (.region [o (some p4) (.mov (.c .nilsl))]) (.seq (.region [o (some p8) (.mov x0),
  o (some p9) (.mov x1),
  o (some p10) (.call 112 [x8, x9]),
  o (some p5) (.mov x10)]) (.seq (.seq (.region [o (some p11) (.mov x5),
  o (some p12) (.bin .eql x11 (.c (iv (-1))))]) (.cond x12 (.seq (.region [o (some p13) (.mov x0),
  o (some p4) (.mov x13)]) (.ret)) (.skip))) (.seq (.seq (.region [o (some p14) (.mov x5),
  o (some p15) (.bin .add x14 (.c (iv 1))),
  o (some p6) (.mov x15)]) (.block 0 (.loop kc_slices_DeleteFunc_api_Row_api_Row_l0))) (.seq (.region [o (some p36) (.mov x0),
  o (some p37) (.mov x5),
  o (some p38) (.slice 10 x36 (some x37) none none),
  o none (.clear [(iv 0), (iv 0), (iv 0), (iv 0), (iv 0), (iv 0), (iv 0), .nilsl, .nilsl, (iv 0)] x38)]) (.seq (.region [o (some p39) (.mov x0),
  o (some p40) (.mov x5),
  o (some p41) (.slice 10 x39 none (some x40) none),
  o (some p4) (.mov x41)]) (.ret))))))
def a70 : AFn := ⟨c_slices_DeleteFunc_api_Row_api_Row, [.t p4]⟩
abbrev f_slices_DeleteFunc_api_Row_api_Row : Nat := 70
def c_slices_Clone_api_Row_api_Row : ACode := .seq (.region [o (some p2) (.mov (.c .nilsl))]) (.seq (.seq (.region [o (some p3) (.mov x0),
  o (some p4) (.eqv false .nilsl x3 (.c .nilsl))]) (.cond x4 (.seq (.region [o (some p2) (.mov (.c .nilsl))]) (.ret)) (.skip))) (.seq (.region [o (some p5) (.bslice 10 0 [] []),
  o (some p6) (.mov x0),
  o (some p7) (.append 10 112 x5 x6),
  o (some p2) (.mov x7)]) (.ret)))
def a71 : AFn := ⟨c_slices_Clone_api_Row_api_Row, [.t p2]⟩
abbrev f_slices_Clone_api_Row_api_Row : Nat := 71
def c_merge_left_1 : ACode := .seq (.region [o (some p2) (.box x0),
  o (some p3) (.mov (.c (.bool false)))]) (.seq (.region [o (some p4) (.load x1 false 1),
  o (some p5) (.faddr 0 x2),
  o (some p6) (.faddr 0 x5),
  o (some p7) (.load x6 false 1),
  o (some p8) (.faddr 0 x2),
  o (some p9) (.faddr 1 x8),
  o (some p10) (.load x9 false 1),
  o (some p11) (.build [(iv 0), (iv 0)] [(0, 1, x7), (1, 1, x10)]),
  o (some p12) (.lookup 2 (.bool false) false x4 x11),
  o (some p3) (.mov x12)]) (.ret))
def a72 : AFn := ⟨c_merge_left_1, [.t p3]⟩
abbrev f_merge_left_1 : Nat := 72
def c_segment_rows_1_l0 : ACode := .seq (.region [o (some p9) (.bin .lss x8 x7)]) (.seq (.cond x9 (.skip) (.exit 0)) (.seq (.block 1 (.seq (.region [o (some p10) (.mov x8),
  o (some p11) (.iaddrS 9 x6 x8),
  o (some p12) (.load x11 true 9),
  o (some p4) (.alloc [(iv 0), (iv 0), (iv 0), (iv 0), (iv 0), (iv 0), (iv 0), .nilsl, .nilsl]),
  o (some p3) (.mov x10),
  o none (.store x4 x12 9)]) (.seq (.draw [(.p, o (some p13) (.mov x0)),
  (.p, o (some p14) (.mov x3)),
  (.l 0 0, o (some p15) (.load x4 true 9)),
  (.p, o (some p16) (.faddr 16 x1)),
  (.l 0 0, o (some p17) (.load x16 false 1)),
  (.p, o (some p18) (.mov x3)),
  (.p, o (some p19) (.iaddrS 1 x17 x18)),
  (.l 0 0, o (some p20) (.load x19 false 1)),
  (.p, o (some p21) (.build [(iv 0), (iv 0), (iv 0), (iv 0), (iv 0), (iv 0), (iv 0), .nilsl, .nilsl, (iv 0)] [(0, 9, x15), (9, 1, x20)])),
  (.e, o (some p22) (.callv x13 [x14, x21])),
  (.p, o (some p23) (.un .not x22))]) (.cond x23 (.ret) (.skip))))) (.region [o (some p24) (.bin .add x8 (.c (iv 1))),
  o (some p8) (.mov x24)])))
def kc_segment_rows_1_l0 : ACode := c_segment_rows_1_l0
def c_segment_rows_1 : ACode := .seq (.region [o (some p5) (.load x1 true 17),
  o (some p6) (.call 39 [x5]),
  o (some p7) (.len false x6),
  o (some p8) (.mov (.c (iv 0)))]) (.block 0 (.loop kc_segment_rows_1_l0))
def a73 : AFn := ⟨c_segment_rows_1, []⟩
abbrev f_segment_rows_1 : Nat := 73
def c_slices_stableCmpFunc_int_l0 : ACode := .seq (.seq (.region [o (some p11) (.mov x8),
  o (some p12) (.mov x1),
  o (some p13) (.bin .leq x11 x12)]) (.cond x13 (.skip) (.exit 0))) (.block 1 (.seq (.region [o (some p14) (.mov x0),
  o (some p15) (.mov x7),
  o (some p16) (.mov x8),
  o (some p17) (.mov x2),
  o (some p18) (.call 113 [x14, x15, x16, x17])]) (.seq (.region [o (some p19) (.mov x8),
  o (some p7) (.mov x19)]) (.region [o (some p20) (.mov x8),
  o (some p21) (.mov x6),
  o (some p22) (.bin .add x20 x21),
  o (some p8) (.mov x22)]))))
def kc_slices_stableCmpFunc_int_l0 : ACode := c_slices_stableCmpFunc_int_l0
def c_slices_stableCmpFunc_int_l2 : ACode := .seq (.seq (.region [o (some p33) (.mov x8),
  o (some p34) (.mov x1),
  o (some p35) (.bin .leq x33 x34)]) (.cond x35 (.skip) (.exit 4))) (.block 5 (.seq (.region [o (some p36) (.mov x0),
  o (some p37) (.mov x7),
  o (some p38) (.mov x7),
  o (some p39) (.mov x6),
  o (some p40) (.bin .add x38 x39),
  o (some p41) (.mov x8),
  o (some p42) (.mov x2),
  o (some p43) (.call 114 [x36, x37, x40, x41, x42])]) (.seq (.region [o (some p44) (.mov x8),
  o (some p7) (.mov x44)]) (.region [o (some p45) (.mov x8),
  o (some p46) (.mov x6),
  o (some p47) (.bin .mul (.c (iv 2)) x46),
  o (some p48) (.bin .add x45 x47),
  o (some p8) (.mov x48)]))))
def kc_slices_stableCmpFunc_int_l2 : ACode := c_slices_stableCmpFunc_int_l2
def c_slices_stableCmpFunc_int_l1 : ACode := .seq (.seq (.region [o (some p28) (.mov x6),
  o (some p29) (.mov x1),
  o (some p30) (.bin .lss x28 x29)]) (.cond x30 (.skip) (.exit 2))) (.block 3 (.seq (.region [o (some p31) (.mov x6),
  o (some p32) (.bin .mul (.c (iv 2)) x31),
  o (some p7) (.mov (.c (iv 0))),
  o (some p8) (.mov x32)]) (.seq (.block 4 (.loop kc_slices_stableCmpFunc_int_l2)) (.seq (.seq (.region [o (some p49) (.mov x7),
  o (some p50) (.mov x6),
  o (some p51) (.bin .add x49 x50),
  o (some p9) (.mov x51)]) (.seq (.region [o (some p52) (.mov x9),
  o (some p53) (.mov x1),
  o (some p54) (.bin .lss x52 x53)]) (.cond x54 (.region [o (some p55) (.mov x0),
  o (some p56) (.mov x7),
  o (some p57) (.mov x9),
  o (some p58) (.mov x1),
  o (some p59) (.mov x2),
  o (some p60) (.call 114 [x55, x56, x57, x58, x59])]) (.skip)))) (.region [o (some p61) (.mov x6),
  o (some p62) (.bin .mul x61 (.c (iv 2))),
  o (some p6) (.mov x62)])))))
def kc_slices_stableCmpFunc_int_l1 : ACode := c_slices_stableCmpFunc_int_l1
def c_slices_stableCmpFunc_int : ACode := .seq (.region [o (some p6) (.mov (.c (iv 20)))]) (.seq (.region [o (some p10) (.mov x6),
  o (some p7) (.mov (.c (iv 0))),
  o (some p8) (.mov x10)]) (.seq (.block 0 (.loop kc_slices_stableCmpFunc_int_l0)) (.seq (.region [o (some p23) (.mov x0),
  o (some p24) (.mov x7),
  o (some p25) (.mov x1),
  o (some p26) (.mov x2),
  o (some p27) (.call 113 [x23, x24, x25, x26])]) (.block 2 (.loop kc_slices_stableCmpFunc_int_l1)))))
def a74 : AFn := ⟨c_slices_stableCmpFunc_int, []⟩
abbrev f_slices_stableCmpFunc_int : Nat := 74
def c_cmp_isNaN_int : ACode := .seq (.region [o (some p2) (.mov (.c (.bool false)))]) (.seq (.region [o (some p3) (.mov x0),
  o (some p4) (.mov x0),
  o (some p5) (.bin .neq x3 x4),
  o (some p2) (.mov x5)]) (.ret))
def a75 : AFn := ⟨c_cmp_isNaN_int, [.t p2]⟩
abbrev f_cmp_isNaN_int : Nat := 75
def c_vector_fold_bool_l0 : ACode := .seq (.region [o (some p12) (.bin .lss x11 x10)]) (.seq (.cond x12 (.skip) (.exit 0)) (.seq (.block 1 (.seq (.region [o (some p13) (.iaddrS 1 x9 x11),
  o (some p14) (.load x13 false 1),
  o (some p8) (.mov x14)]) (.region [o (some p15) (.mov x2),
  o (some p16) (.mov x1),
  o (some p17) (.mov x8),
  o (some p18) (.callv x15 [x16, x17]),
  o (some p1) (.mov x18)]))) (.region [o (some p19) (.bin .add x11 (.c (iv 1))),
  o (some p11) (.mov x19)])))
def kc_vector_fold_bool_l0 : ACode := c_vector_fold_bool_l0
def c_vector_fold_bool : ACode := .seq (.region [o (some p6) (.mov (.c (.bool false)))]) (.seq (.seq (.region [o (some p9) (.mov x0),
  o (some p10) (.len false x9),
  o (some p11) (.mov (.c (iv 0)))]) (.block 0 (.loop kc_vector_fold_bool_l0))) (.seq (.region [o (some p20) (.mov x1),
  o (some p6) (.mov x20)]) (.ret)))
def a76 : AFn := ⟨c_vector_fold_bool, [.t p6]⟩
abbrev f_vector_fold_bool : Nat := 76
def c_vector_Valid_1 : ACode := .seq (.region [o (some p4) (.mov (.c (.bool false)))]) (.seq (.region [o (some p5) (.mov x0),
  o (some p6) (.mov x5),
  og (some p7) (.mov x1) p6 true,
  og (some p8) (.bin .geq x7 (.c (iv (-1000)))) p6 true,
  o (some p9) (.pick x6 x8 (.c (.bool false))),
  o (some p10) (.mov x9),
  og (some p11) (.mov x1) p10 true,
  og (some p12) (.bin .leq x11 (.c (iv 1000))) p10 true,
  o (some p13) (.pick x10 x12 (.c (.bool false))),
  o (some p4) (.mov x13)]) (.ret))
def a77 : AFn := ⟨c_vector_Valid_1, [.t p4]⟩
abbrev f_vector_Valid_1 : Nat := 77
def c_attr_first_l0 : ACode := .seq (.region [o (some p8) (.bin .lss x7 x6)]) (.seq (.cond x8 (.skip) (.exit 0)) (.seq (.block 1 (.seq (.region [o (some p9) (.iaddrS 2 x5 x7),
  o (some p10) (.load x9 true 2),
  o (some p4) (.alloc [.nilfn, (iv 0)]),
  o none (.store x4 x10 2)]) (.seq (.region [o (some p11) (.faddr 0 x4),
  o (some p12) (.load x11 false 1),
  o (some p13) (.callv x12 [])]) (.cond x13 (.seq (.region [o (some p14) (.faddr 1 x4),
  o (some p15) (.load x14 false 1),
  o (some p2) (.mov x15)]) (.ret)) (.skip))))) (.region [o (some p16) (.bin .add x7 (.c (iv 1))),
  o (some p7) (.mov x16)])))
def kc_attr_first_l0 : ACode := c_attr_first_l0
def c_attr_first : ACode := .seq (.region [o (some p2) (.mov (.c (iv 0)))]) (.seq (.seq (.region [o (some p5) (.mov x0),
  o (some p6) (.len false x5),
  o (some p7) (.mov (.c (iv 0)))]) (.block 0 (.loop kc_attr_first_l0))) (.seq (.region [o (some p2) (.mov (.c (iv 0)))]) (.ret)))
def a78 : AFn := ⟨c_attr_first, [.t p2]⟩
abbrev f_attr_first : Nat := 78
def c_attr_Check_1 : ACode := .seq (.region [o (some p1) (.mov (.c (.bool false)))]) (.seq (.region [o (some p2) (.faddr 0 x0),
  o (some p3) (.load x2 false 1),
  o (some p4) (.bin .lss x3 (.c (iv 1))),
  o (some p5) (.mov x4),
  og (some p6) (.faddr 0 x0) p5 false,
  og (some p7) (.load x6 false 1) p5 false,
  og (some p8) (.bin .gtr x7 (.c (iv 32))) p5 false,
  o (some p9) (.pick x5 (.c (.bool true)) x8),
  o (some p10) (.mov x9),
  og (some p11) (.faddr 1 x0) p10 false,
  og (some p12) (.load x11 false 1) p10 false,
  og (some p13) (.bin .lss x12 (.c (iv 1))) p10 false,
  o (some p14) (.pick x10 (.c (.bool true)) x13),
  o (some p15) (.mov x14),
  og (some p16) (.faddr 1 x0) p15 false,
  og (some p17) (.load x16 false 1) p15 false,
  og (some p18) (.bin .gtr x17 (.c (iv 3))) p15 false,
  o (some p19) (.pick x15 (.c (.bool true)) x18),
  o (some p1) (.mov x19)]) (.ret))
def a79 : AFn := ⟨c_attr_Check_1, [.t p1]⟩
abbrev f_attr_Check_1 : Nat := 79
def c_attr_Check_2 : ACode := .seq (.region [o (some p1) (.mov (.c (.bool false)))]) (.seq (.region [o (some p2) (.faddr 2 x0),
  o (some p3) (.load x2 false 1),
  o (some p4) (.len false x3),
  o (some p5) (.bin .gtr x4 (.c (iv 16))),
  o (some p1) (.mov x5)]) (.ret))
def a80 : AFn := ⟨c_attr_Check_2, [.t p1]⟩
abbrev f_attr_Check_2 : Nat := 80
def c_attr_def : ACode := .seq (.region [o (some p2) (.box x0),
  o (some p3) (.box x1),
  o (some p4) (.mov (.c (iv 0)))]) (.seq (.region [o (some p6) (.mkfn 115 [] [x2]),
  o (some p7) (.build [.nilfn, (iv 0)] [(0, 1, x6), (1, 1, (.c (iv 5)))]),
  o (some p8) (.mkfn 117 [] [x2, x3]),
  o (some p9) (.build [.nilfn, (iv 0)] [(0, 1, x8), (1, 1, (.c (iv 6)))]),
  o (some p10) (.mkfn 118 [] [x2]),
  o (some p11) (.build [.nilfn, (iv 0)] [(0, 1, x10), (1, 1, (.c (iv 130)))]),
  o (some p12) (.bslice 2 3 [.nilfn, (iv 0), .nilfn, (iv 0), .nilfn, (iv 0)] [(0, 2, x7), (2, 2, x9), (4, 2, x11)]),
  o (some p13) (.call 78 [x12]),
  o (some p5) (.mov x13)]) (.seq (.seq (.region [o (some p14) (.mov x5),
  o (some p15) (.bin .neq x14 (.c (iv 0)))]) (.cond x15 (.seq (.region [o (some p16) (.mov x5),
  o (some p4) (.mov x16)]) (.ret)) (.skip))) (.seq (.seq (.region [o (some p17) (.faddr 1 x2),
  o (some p18) (.load x17 false 1),
  o (some p19) (.bin .eql x18 (.c (iv 1)))]) (.cond x19 (.seq (.region [o (some p20) (.mkfn 119 [] [x2]),
  o (some p21) (.build [.nilfn, (iv 0)] [(0, 1, x20), (1, 1, (.c (iv 131)))]),
  o (some p22) (.mkfn 120 [] [x2]),
  o (some p23) (.build [.nilfn, (iv 0)] [(0, 1, x22), (1, 1, (.c (iv 3)))]),
  o (some p24) (.bslice 2 2 [.nilfn, (iv 0), .nilfn, (iv 0)] [(0, 2, x21), (2, 2, x23)]),
  o (some p25) (.call 78 [x24]),
  o (some p4) (.mov x25)]) (.ret)) (.skip))) (.seq (.region [o (some p26) (.mkfn 121 [] [x2]),
  o (some p27) (.build [.nilfn, (iv 0)] [(0, 1, x26), (1, 1, (.c (iv 3)))]),
  o (some p28) (.mkfn 122 [] [x2]),
  o (some p29) (.build [.nilfn, (iv 0)] [(0, 1, x28), (1, 1, (.c (iv 2)))]),
  o (some p30) (.mkfn 123 [] [x2]),
  o (some p31) (.build [.nilfn, (iv 0)] [(0, 1, x30), (1, 1, (.c (iv 5)))]),
  o (some p32) (.mkfn 126 [] [x2]),
  o (some p33) (.build [.nilfn, (iv 0)] [(0, 1, x32), (1, 1, (.c (iv 6)))]),
  o (some p34) (.bslice 2 4 [.nilfn, (iv 0), .nilfn, (iv 0), .nilfn, (iv 0), .nilfn, (iv 0)] [(0, 2, x27), (2, 2, x29), (4, 2, x31), (6, 2, x33)]),
  o (some p35) (.call 78 [x34]),
  o (some p4) (.mov x35)]) (.ret)))))
def a81 : AFn := ⟨c_attr_def, [.t p4]⟩
abbrev f_attr_def : Nat := 81
def c_slices_IndexFunc_int_int_l0 : ACode := .seq (.region [o (some p9) (.bin .lss x8 x7)]) (.seq (.cond x9 (.skip) (.exit 0)) (.seq (.block 1 (.seq (.region [o (some p10) (.mov x8),
  o (some p5) (.mov x10)]) (.seq (.region [o (some p11) (.mov x1),
  o (some p12) (.mov x0),
  o (some p13) (.mov x5),
  o (some p14) (.iaddrS 1 x12 x13),
  o (some p15) (.load x14 false 1),
  o (some p16) (.callv x11 [x15])]) (.cond x16 (.seq (.region [o (some p17) (.mov x5),
  o (some p4) (.mov x17)]) (.ret)) (.skip))))) (.region [o (some p18) (.bin .add x8 (.c (iv 1))),
  o (some p8) (.mov x18)])))
def kc_slices_IndexFunc_int_int_l0 : ACode := c_slices_IndexFunc_int_int_l0
def c_slices_IndexFunc_int_int : ACode := .seq (.region [o (some p4) (.mov (.c (iv 0)))]) (.seq (.seq (.region [o (some p6) (.mov x0),
  o (some p7) (.len false x6),
  o (some p8) (.mov (.c (iv 0)))]) (.block 0 (.loop kc_slices_IndexFunc_int_int_l0))) (.seq (.region [o (some p4) (.mov (.c (iv (-1))))]) (.ret)))
def a82 : AFn := ⟨c_slices_IndexFunc_int_int, [.t p4]⟩
abbrev f_slices_IndexFunc_int_int : Nat := 82
def c_slices_IndexFunc_api_Entry_api_Entry_l0 : ACode := .seq (.region [o (some p9) (.bin .lss x8 x7)]) (.seq (.cond x9 (.skip) (.exit 0)) (.seq (.block 1 (.seq (.region [o (some p10) (.mov x8),
  o (some p5) (.mov x10)]) (.seq (.region [o (some p11) (.mov x1),
  o (some p12) (.mov x0),
  o (some p13) (.mov x5),
  o (some p14) (.iaddrS 9 x12 x13),
  o (some p15) (.load x14 true 9),
  o (some p16) (.callv x11 [x15])]) (.cond x16 (.seq (.region [o (some p17) (.mov x5),
  o (some p4) (.mov x17)]) (.ret)) (.skip))))) (.region [o (some p18) (.bin .add x8 (.c (iv 1))),
  o (some p8) (.mov x18)])))
def kc_slices_IndexFunc_api_Entry_api_Entry_l0 : ACode := c_slices_IndexFunc_api_Entry_api_Entry_l0
def c_slices_IndexFunc_api_Entry_api_Entry : ACode := .seq (.region [o (some p4) (.mov (.c (iv 0)))]) (.seq (.seq (.region [o (some p6) (.mov x0),
  o (some p7) (.len false x6),
  o (some p8) (.mov (.c (iv 0)))]) (.block 0 (.loop kc_slices_IndexFunc_api_Entry_api_Entry_l0))) (.seq (.region [o (some p4) (.mov (.c (iv (-1))))]) (.ret)))
def a83 : AFn := ⟨c_slices_IndexFunc_api_Entry_api_Entry, [.t p4]⟩
abbrev f_slices_IndexFunc_api_Entry_api_Entry : Nat := 83
def c_attr_Entry_1 : ACode := .seq (.region [o (some p1) (.mov (.c (.bool false)))]) (.seq (.region [o (some p2) (.faddr 0 x0),
  o (some p3) (.load x2 false 1),
  o (some p4) (.bin .lss x3 (.c (iv 1))),
  o (some p5) (.mov x4),
  og (some p6) (.faddr 0 x0) p5 false,
  og (some p7) (.load x6 false 1) p5 false,
  og (some p8) (.bin .gtr x7 (.c (iv 1073741824))) p5 false,
  o (some p9) (.pick x5 (.c (.bool true)) x8),
  o (some p10) (.mov x9),
  og (some p11) (.faddr 2 x0) p10 false,
  og (some p12) (.load x11 false 1) p10 false,
  og (some p13) (.bin .lss x12 (.c (iv 1))) p10 false,
  o (some p14) (.pick x10 (.c (.bool true)) x13),
  o (some p15) (.mov x14),
  og (some p16) (.faddr 2 x0) p15 false,
  og (some p17) (.load x16 false 1) p15 false,
  og (some p18) (.bin .gtr x17 (.c (iv 1073741824))) p15 false,
  o (some p19) (.pick x15 (.c (.bool true)) x18),
  o (some p20) (.mov x19),
  og (some p21) (.faddr 1 x0) p20 false,
  og (some p22) (.load x21 false 1) p20 false,
  og (some p23) (.bin .lss x22 (.c (iv 1))) p20 false,
  o (some p24) (.pick x20 (.c (.bool true)) x23),
  o (some p25) (.mov x24),
  og (some p26) (.faddr 1 x0) p25 false,
  og (some p27) (.load x26 false 1) p25 false,
  og (some p28) (.bin .gtr x27 (.c (iv 1073741824))) p25 false,
  o (some p29) (.pick x25 (.c (.bool true)) x28),
  o (some p1) (.mov x29)]) (.ret))
def a84 : AFn := ⟨c_attr_Entry_1, [.t p1]⟩
abbrev f_attr_Entry_1 : Nat := 84
def c_attr_Entry_2 : ACode := .seq (.region [o (some p1) (.mov (.c (.bool false)))]) (.seq (.region [o (some p2) (.faddr 3 x0),
  o (some p3) (.load x2 false 1),
  o (some p4) (.bin .lss x3 (.c (iv 0))),
  o (some p5) (.mov x4),
  og (some p6) (.faddr 4 x0) p5 false,
  og (some p7) (.load x6 false 1) p5 false,
  og (some p8) (.faddr 3 x0) p5 false,
  og (some p9) (.load x8 false 1) p5 false,
  og (some p10) (.bin .lss x7 x9) p5 false,
  o (some p11) (.pick x5 (.c (.bool true)) x10),
  o (some p12) (.mov x11),
  og (some p13) (.faddr 4 x0) p12 false,
  og (some p14) (.load x13 false 1) p12 false,
  og (some p15) (.bin .gtr x14 (.c (iv 1048576))) p12 false,
  o (some p16) (.pick x12 (.c (.bool true)) x15),
  o (some p1) (.mov x16)]) (.ret))
def a85 : AFn := ⟨c_attr_Entry_2, [.t p1]⟩
abbrev f_attr_Entry_2 : Nat := 85
def c_attr_Entry_3 : ACode := .seq (.region [o (some p1) (.mov (.c (.bool false)))]) (.seq (.region [o (some p2) (.faddr 5 x0),
  o (some p3) (.load x2 false 1),
  o (some p4) (.faddr 4 x0),
  o (some p5) (.load x4 false 1),
  o (some p6) (.bin .leq x3 x5),
  o (some p7) (.mov x6),
  og (some p8) (.faddr 5 x0) p7 false,
  og (some p9) (.load x8 false 1) p7 false,
  og (some p10) (.bin .gtr x9 (.c (iv 1048577))) p7 false,
  o (some p11) (.pick x7 (.c (.bool true)) x10),
  o (some p1) (.mov x11)]) (.ret))
def a86 : AFn := ⟨c_attr_Entry_3, [.t p1]⟩
abbrev f_attr_Entry_3 : Nat := 86
def c_attr_Entry_4 : ACode := .seq (.region [o (some p1) (.mov (.c (.bool false)))]) (.seq (.region [o (some p2) (.faddr 6 x0),
  o (some p3) (.load x2 false 1),
  o (some p4) (.bin .lss x3 (.c (iv 1))),
  o (some p5) (.mov x4),
  og (some p6) (.faddr 6 x0) p5 false,
  og (some p7) (.load x6 false 1) p5 false,
  og (some p8) (.bin .gtr x7 (.c (iv 1073741824))) p5 false,
  o (some p9) (.pick x5 (.c (.bool true)) x8),
  o (some p1) (.mov x9)]) (.ret))
def a87 : AFn := ⟨c_attr_Entry_4, [.t p1]⟩
abbrev f_attr_Entry_4 : Nat := 87
def c_attr_Entry_5 : ACode := .seq (.region [o (some p2) (.mov (.c (.bool false)))]) (.seq (.region [o (some p3) (.faddr 7 x0),
  o (some p4) (.load x3 false 1),
  o (some p5) (.len false x4),
  o (some p6) (.faddr 0 x1),
  o (some p7) (.load x6 false 1),
  o (some p8) (.bin .neq x5 x7),
  o (some p9) (.mov x8),
  og (some p10) (.faddr 7 x0) p9 false,
  og (some p11) (.load x10 false 1) p9 false,
  og (some p12) (.call 47 [x11]) p9 false,
  og (some p13) (.un .not x12) p9 false,
  o (some p14) (.pick x9 (.c (.bool true)) x13),
  o (some p2) (.mov x14)]) (.ret))
def a88 : AFn := ⟨c_attr_Entry_5, [.t p2]⟩
abbrev f_attr_Entry_5 : Nat := 88
def c_attr_Fits_l0 : ACode := .seq (.region [o (some p15) (.bin .lss x14 x13)]) (.seq (.cond x15 (.skip) (.exit 0)) (.seq (.block 1 (.seq (.region [o (some p16) (.iaddrS 4 x12 x14),
  o (some p17) (.load x16 true 4),
  o (some p7) (.alloc [(.str (bs [])), (iv 0), (iv 0), (.str (bs []))]),
  o none (.store x7 x17 4)]) (.seq (.region [o (some p18) (.faddr 2 x2),
  o (some p19) (.load x18 false 1),
  o (some p20) (.mkfn 129 [] [x7]),
  o (some p21) (.call 128 [x19, x20]),
  o (some p8) (.mov x21)]) (.seq (.seq (.region [o (some p22) (.mov x8),
  o (some p23) (.bin .lss x22 (.c (iv 0)))]) (.cond x23 (.seq (.region [o (some p4) (.mov (.c (iv 5)))]) (.ret)) (.skip))) (.seq (.draw [(.p, o (some p24) (.faddr 2 x2)),
  (.l 0 0, o (some p25) (.load x24 false 1)),
  (.p, o (some p26) (.mov x8)),
  (.p, o (some p27) (.iaddrS 5 x25 x26)),
  (.l 0 0, o (some p28) (.load x27 true 5)),
  (.p, o (some p29) (.faddr 1 x7)),
  (.l 0 1, o (some p30) (.load x29 false 1)),
  (.p, o (some p31) (.bin .eql x30 (.c (iv 1)))),
  (.p, o (some p9) (.alloc [(.str (bs [])), (iv 0), (iv 0), (iv 0), .nilsl])),
  (.p, o (some p10) (.alloc [(.bool false)])),
  (.e, o none (.store x9 x28 5)),
  (.e, o none (.store x10 x31 1))]) (.seq (.region [o (some p32) (.mkfn 130 [] [x7, x5]),
  o (some p33) (.build [.nilfn, (iv 0)] [(0, 1, x32), (1, 1, (.c (iv 6)))]),
  o (some p34) (.mkfn 131 [] [x7, x9]),
  o (some p35) (.build [.nilfn, (iv 0)] [(0, 1, x34), (1, 1, (.c (iv 130)))]),
  o (some p36) (.mkfn 132 [] [x10, x7]),
  o (some p37) (.build [.nilfn, (iv 0)] [(0, 1, x36), (1, 1, (.c (iv 3)))]),
  o (some p38) (.mkfn 133 [] [x10, x7, x9]),
  o (some p39) (.build [.nilfn, (iv 0)] [(0, 1, x38), (1, 1, (.c (iv 131)))]),
  o (some p40) (.mkfn 134 [] [x10, x9, x7]),
  o (some p41) (.build [.nilfn, (iv 0)] [(0, 1, x40), (1, 1, (.c (iv 131)))]),
  o (some p42) (.bslice 2 5 [.nilfn, (iv 0), .nilfn, (iv 0), .nilfn, (iv 0), .nilfn, (iv 0), .nilfn, (iv 0)] [(0, 2, x33), (2, 2, x35), (4, 2, x37), (6, 2, x39), (8, 2, x41)]),
  o (some p43) (.call 78 [x42]),
  o (some p11) (.mov x43)]) (.seq (.seq (.region [o (some p44) (.mov x11),
  o (some p45) (.bin .neq x44 (.c (iv 0)))]) (.cond x45 (.seq (.region [o (some p46) (.mov x11),
  o (some p4) (.mov x46)]) (.ret)) (.skip))) (.region [o (some p47) (.faddr 0 x7),
  o (some p48) (.load x47 false 1),
  o none (.store x5 x48 1)])))))))) (.region [o (some p49) (.bin .add x14 (.c (iv 1))),
  o (some p14) (.mov x49)])))
def kc_attr_Fits_l0 : ACode := c_attr_Fits_l0
def c_attr_Fits : ACode := .seq (.region [o (some p2) (.box x0),
  o (some p4) (.mov (.c (iv 0)))]) (.seq (.region [o (some p5) (.alloc [(.str (bs []))]),
  o none (.store x5 (.c (.str (bs []))) 1)]) (.seq (.seq (.region [o (some p12) (.mov x1),
  o (some p13) (.len false x12),
  o (some p14) (.mov (.c (iv 0)))]) (.block 0 (.loop kc_attr_Fits_l0))) (.seq (.region [o (some p4) (.mov (.c (iv 0)))]) (.ret))))
def a89 : AFn := ⟨c_attr_Fits, [.t p4]⟩
abbrev f_attr_Fits : Nat := 89
def c_box_Of_1 : ACode := .seq (.region [o (some p3) (.mov (.c (.bool false)))]) (.seq (.region [o (some p4) (.mov x0),
  o (some p5) (.call 91 [x4]),
  o (some p6) (.un .not x5),
  o (some p7) (.mov x6),
  og (some p8) (.mov x0) p7 false,
  og (some p9) (.len false x8) p7 false,
  og (some p10) (.load x1 false 1) p7 false,
  og (some p11) (.iaddrS 1 x10 (.c (iv 0))) p7 false,
  og (some p12) (.load x11 false 1) p7 false,
  og (some p13) (.len false x12) p7 false,
  og (some p14) (.bin .neq x9 x13) p7 false,
  o (some p15) (.pick x7 (.c (.bool true)) x14),
  o (some p3) (.mov x15)]) (.ret))
def a90 : AFn := ⟨c_box_Of_1, [.t p3]⟩
abbrev f_box_Of_1 : Nat := 90
def c_box_isVector : ACode := .seq (.region [o (some p2) (.mov (.c (.bool false)))]) (.seq (.region [o (some p3) (.mov (.c (.fn 136 [] [])))]) (.seq (.region [o (some p4) (.mov x0),
  o (some p5) (.len false x4),
  o (some p6) (.bin .geq x5 (.c (iv 1))),
  o (some p7) (.mov x6),
  og (some p8) (.mov x0) p7 true,
  og (some p9) (.len false x8) p7 true,
  og (some p10) (.bin .leq x9 (.c (iv 32))) p7 true,
  o (some p11) (.pick x7 x10 (.c (.bool false))),
  o (some p12) (.mov x11),
  og (some p13) (.mov x0) p12 true,
  og (some p14) (.mov x3) p12 true,
  og (some p15) (.call 137 [x13, x14]) p12 true,
  og (some p16) (.un .not x15) p12 true,
  o (some p17) (.pick x12 x16 (.c (.bool false))),
  o (some p2) (.mov x17)]) (.ret)))
def a91 : AFn := ⟨c_box_isVector, [.t p2]⟩
abbrev f_box_isVector : Nat := 91
def c_box_zip_int_l0 : ACode := .seq (.region [o (some p12) (.bin .lss x11 x10)]) (.seq (.cond x12 (.skip) (.exit 0)) (.seq (.block 1 (.seq (.region [o (some p13) (.mov x11),
  o (some p8) (.mov x13)]) (.draw [(.p, o (some p14) (.mov x7)),
  (.p, o (some p15) (.mov x2)),
  (.p, o (some p16) (.mov x0)),
  (.p, o (some p17) (.mov x8)),
  (.p, o (some p18) (.iaddrS 1 x16 x17)),
  (.l 0 0, o (some p19) (.load x18 false 1)),
  (.p, o (some p20) (.mov x1)),
  (.p, o (some p21) (.mov x8)),
  (.p, o (some p22) (.iaddrS 1 x20 x21)),
  (.l 0 0, o (some p23) (.load x22 false 1)),
  (.e, o (some p24) (.callv x15 [x19, x23])),
  (.p, o (some p25) (.bslice 1 1 [(iv 0)] [(0, 1, x24)])),
  (.e, o (some p26) (.append 1 8 x14 x25)),
  (.p, o (some p7) (.mov x26))]))) (.region [o (some p27) (.bin .add x11 (.c (iv 1))),
  o (some p11) (.mov x27)])))
def kc_box_zip_int_l0 : ACode := c_box_zip_int_l0
def c_box_zip_int : ACode := .seq (.region [o (some p6) (.mov (.c .nilsl))]) (.seq (.region [o (some p7) (.mov (.c .nilsl))]) (.seq (.seq (.region [o (some p9) (.mov x0),
  o (some p10) (.len false x9),
  o (some p11) (.mov (.c (iv 0)))]) (.block 0 (.loop kc_box_zip_int_l0))) (.seq (.region [o (some p28) (.mov x7),
  o (some p6) (.mov x28)]) (.ret))))
def a92 : AFn := ⟨c_box_zip_int, [.t p6]⟩
abbrev f_box_zip_int : Nat := 92
def c_box_least : ACode := .seq (.region [o (some p4) (.mov (.c (iv 0)))]) (.seq (.region [o (some p5) (.mov x0),
  o (some p6) (.mov x1),
  o (some p7) (.mn [x5, x6]),
  o (some p4) (.mov x7)]) (.ret))
def a93 : AFn := ⟨c_box_least, [.t p4]⟩
abbrev f_box_least : Nat := 93
def c_box_greatest : ACode := .seq (.region [o (some p4) (.mov (.c (iv 0)))]) (.seq (.region [o (some p5) (.mov x0),
  o (some p6) (.mov x1),
  o (some p7) (.mx [x5, x6]),
  o (some p4) (.mov x7)]) (.ret))
def a94 : AFn := ⟨c_box_greatest, [.t p4]⟩
abbrev f_box_greatest : Nat := 94
def c_pivot_Table_l0 : ACode := .seq (.region [o (some p33) (.bin .lss x32 x31)]) (.seq (.cond x33 (.skip) (.exit 0)) (.seq (.block 1 (.seq (.region [o (some p34) (.iaddrS 1 x30 x32),
  o (some p35) (.load x34 false 1),
  o (some p10) (.mov x35)]) (.region [o (some p36) (.mov x8),
  o (some p37) (.mov x0),
  o (some p38) (.mov x1),
  o (some p39) (.mov x10),
  o (some p40) (.call 139 [x37, x38, x39]),
  o (some p41) (.bslice 1 1 [.nilsl] [(0, 1, x40)]),
  o (some p42) (.append 1 24 x36 x41),
  o (some p8) (.mov x42)]))) (.region [o (some p43) (.bin .add x32 (.c (iv 1))),
  o (some p32) (.mov x43)])))
def kc_pivot_Table_l0 : ACode := c_pivot_Table_l0
def c_pivot_Table : ACode := .seq (.region [o (some p6) (.mov (.c .nilsl)),
  o (some p7) (.mov (.c (iv 0)))]) (.seq (.seq (.draw [(.p, o (some p11) (.mov x0)),
  (.p, o (some p12) (.mov x1)),
  (.e, o (some p13) (.call 138 [x11, x12])),
  (.p, o (some p14) (.un .not x13)),
  (.p, o (some p15) (.mov x14)),
  (.p, og (some p16) (.mov x2) p15 false),
  (.e, og (some p17) (.call 61 [x16]) p15 false),
  (.p, og (some p18) (.un .not x17) p15 false),
  (.p, o (some p19) (.pick x15 (.c (.bool true)) x18)),
  (.p, o (some p20) (.mov x19)),
  (.p, og (some p21) (.mov x1) p20 false),
  (.p, og (some p22) (.iaddrS 1 x21 (.c (iv 0))) p20 false),
  (.l 2 2, og (some p23) (.load x22 false 1) p20 false),
  (.p, og (some p24) (.mov x2) p20 false),
  (.p, og (some p25) (.iaddrS 1 x24 (.c (iv 0))) p20 false),
  (.l 2 2, og (some p26) (.load x25 false 1) p20 false),
  (.e, og (some p27) (.call 103 [x23, x26]) p20 false),
  (.p, og (some p28) (.un .not x27) p20 false),
  (.p, o (some p29) (.pick x20 (.c (.bool true)) x28))]) (.cond x29 (.seq (.region [o (some p6) (.mov (.c .nilsl)),
  o (some p7) (.mov (.c (iv 1)))]) (.ret)) (.skip))) (.seq (.region [o (some p8) (.mov (.c .nilsl))]) (.seq (.seq (.region [o (some p30) (.mov x2),
  o (some p31) (.len false x30),
  o (some p32) (.mov (.c (iv 0)))]) (.block 0 (.loop kc_pivot_Table_l0))) (.seq (.region [o (some p44) (.mov x8),
  o (some p6) (.mov x44),
  o (some p7) (.mov (.c (iv 0)))]) (.ret)))))
def a95 : AFn := ⟨c_pivot_Table, [.t p6, .t p7]⟩
abbrev f_pivot_Table : Nat := 95
def c_pivot_pair_int_with : ACode := .seq (.region [o (some p2) (.box x0),
  o (some p4) (.alloc [(iv 0), (iv 0)])]) (.seq (.region [o (some p5) (.faddr 0 x2),
  o (some p6) (.load x5 false 1),
  o (some p7) (.mov x1),
  o (some p8) (.mn [x6, x7]),
  o (some p9) (.faddr 1 x2),
  o (some p10) (.load x9 false 1),
  o (some p11) (.mov x1),
  o (some p12) (.mx [x10, x11]),
  o (some p13) (.build [(iv 0), (iv 0)] [(0, 1, x8), (1, 1, x12)]),
  o none (.store x4 x13 2)]) (.ret))
def a96 : AFn := ⟨c_pivot_pair_int_with, [.cell p4 true 2]⟩
abbrev f_pivot_pair_int_with : Nat := 96
def c_attr_Get : ACode := .seq (.region [o (some p3) (.box x1),
  o (some p4) (.alloc [(.str (bs [])), (iv 0), (iv 0), (.str (bs []))]),
  o (some p5) (.mov (.c (.bool false)))]) (.seq (.region [o (some p7) (.mov x0),
  o (some p8) (.mkfn 141 [] [x3]),
  o (some p9) (.call 140 [x7, x8]),
  o (some p6) (.mov x9)]) (.seq (.seq (.region [o (some p10) (.mov x6),
  o (some p11) (.bin .lss x10 (.c (iv 0)))]) (.cond x11 (.seq (.region [o (some p12) (.build [(.str (bs [])), (iv 0), (iv 0), (.str (bs []))] []),
  o none (.store x4 x12 4),
  o (some p5) (.mov (.c (.bool false)))]) (.ret)) (.skip))) (.seq (.region [o (some p13) (.mov x0),
  o (some p14) (.mov x6),
  o (some p15) (.iaddrS 4 x13 x14),
  o (some p16) (.load x15 true 4),
  o none (.store x4 x16 4),
  o (some p5) (.mov (.c (.bool true)))]) (.ret))))
def a97 : AFn := ⟨c_attr_Get, [.cell p4 true 4, .t p5]⟩
abbrev f_attr_Get : Nat := 97
def c_zone_sorted_string : ACode := .seq (.region [o (some p2) (.mov (.c .nilsl))]) (.seq (.region [o (some p3) (.mov x0),
  o (some p4) (.call 143 [x3]),
  o (some p5) (.call 142 [x4]),
  o (some p2) (.mov x5)]) (.ret))
def a98 : AFn := ⟨c_zone_sorted_string, [.t p2]⟩
abbrev f_zone_sorted_string : Nat := 98
def c_slices_AppendSeq_api_Entry_api_Entry_l0 : ACode := .block 1 (.region [o (some p8) (.load x2 false 1),
  o (some p9) (.load x5 true 9),
  o (some p10) (.bslice 9 1 [(iv 0), (iv 0), (iv 0), (iv 0), (iv 0), (iv 0), (iv 0), .nilsl, .nilsl] [(0, 9, x9)]),
  o (some p11) (.append 9 104 x8 x10),
  o none (.store x2 x11 1)])
def kc_slices_AppendSeq_api_Entry_api_Entry_l0 : ACode := c_slices_AppendSeq_api_Entry_api_Entry_l0
def c_slices_AppendSeq_api_Entry_api_Entry : ACode := .seq (.region [o (some p2) (.box x0),
  o (some p4) (.mov (.c .nilsl))]) (.seq (.seq (.region [o (some p6) (.mov x1)]) (.block 0 (.rangef x6 [p7] (.region [o (some p5) (.alloc [(iv 0), (iv 0), (iv 0), (iv 0), (iv 0), (iv 0), (iv 0), .nilsl, .nilsl]),
  o none (.store x5 x7 9)]) kc_slices_AppendSeq_api_Entry_api_Entry_l0))) (.seq (.region [o (some p12) (.load x2 false 1),
  o (some p4) (.mov x12)]) (.ret)))
def a99 : AFn := ⟨c_slices_AppendSeq_api_Entry_api_Entry, [.t p4]⟩
abbrev f_slices_AppendSeq_api_Entry_api_Entry : Nat := 99
def c_slices_stableCmpFunc_api_Entry_l0 : ACode := .seq (.seq (.region [o (some p11) (.mov x8),
  o (some p12) (.mov x1),
  o (some p13) (.bin .leq x11 x12)]) (.cond x13 (.skip) (.exit 0))) (.block 1 (.seq (.region [o (some p14) (.mov x0),
  o (some p15) (.mov x7),
  o (some p16) (.mov x8),
  o (some p17) (.mov x2),
  o (some p18) (.call 144 [x14, x15, x16, x17])]) (.seq (.region [o (some p19) (.mov x8),
  o (some p7) (.mov x19)]) (.region [o (some p20) (.mov x8),
  o (some p21) (.mov x6),
  o (some p22) (.bin .add x20 x21),
  o (some p8) (.mov x22)]))))
def kc_slices_stableCmpFunc_api_Entry_l0 : ACode := c_slices_stableCmpFunc_api_Entry_l0
def c_slices_stableCmpFunc_api_Entry_l2 : ACode := .seq (.seq (.region [o (some p33) (.mov x8),
  o (some p34) (.mov x1),
  o (some p35) (.bin .leq x33 x34)]) (.cond x35 (.skip) (.exit 4))) (.block 5 (.seq (.region [o (some p36) (.mov x0),
  o (some p37) (.mov x7),
  o (some p38) (.mov x7),
  o (some p39) (.mov x6),
  o (some p40) (.bin .add x38 x39),
  o (some p41) (.mov x8),
  o (some p42) (.mov x2),
  o (some p43) (.call 145 [x36, x37, x40, x41, x42])]) (.seq (.region [o (some p44) (.mov x8),
  o (some p7) (.mov x44)]) (.region [o (some p45) (.mov x8),
  o (some p46) (.mov x6),
  o (some p47) (.bin .mul (.c (iv 2)) x46),
  o (some p48) (.bin .add x45 x47),
  o (some p8) (.mov x48)]))))
def kc_slices_stableCmpFunc_api_Entry_l2 : ACode := c_slices_stableCmpFunc_api_Entry_l2
def c_slices_stableCmpFunc_api_Entry_l1 : ACode := .seq (.seq (.region [o (some p28) (.mov x6),
  o (some p29) (.mov x1),
  o (some p30) (.bin .lss x28 x29)]) (.cond x30 (.skip) (.exit 2))) (.block 3 (.seq (.region [o (some p31) (.mov x6),
  o (some p32) (.bin .mul (.c (iv 2)) x31),
  o (some p7) (.mov (.c (iv 0))),
  o (some p8) (.mov x32)]) (.seq (.block 4 (.loop kc_slices_stableCmpFunc_api_Entry_l2)) (.seq (.seq (.region [o (some p49) (.mov x7),
  o (some p50) (.mov x6),
  o (some p51) (.bin .add x49 x50),
  o (some p9) (.mov x51)]) (.seq (.region [o (some p52) (.mov x9),
  o (some p53) (.mov x1),
  o (some p54) (.bin .lss x52 x53)]) (.cond x54 (.region [o (some p55) (.mov x0),
  o (some p56) (.mov x7),
  o (some p57) (.mov x9),
  o (some p58) (.mov x1),
  o (some p59) (.mov x2),
  o (some p60) (.call 145 [x55, x56, x57, x58, x59])]) (.skip)))) (.region [o (some p61) (.mov x6),
  o (some p62) (.bin .mul x61 (.c (iv 2))),
  o (some p6) (.mov x62)])))))
def kc_slices_stableCmpFunc_api_Entry_l1 : ACode := c_slices_stableCmpFunc_api_Entry_l1
def c_slices_stableCmpFunc_api_Entry : ACode := .seq (.region [o (some p6) (.mov (.c (iv 20)))]) (.seq (.region [o (some p10) (.mov x6),
  o (some p7) (.mov (.c (iv 0))),
  o (some p8) (.mov x10)]) (.seq (.block 0 (.loop kc_slices_stableCmpFunc_api_Entry_l0)) (.seq (.region [o (some p23) (.mov x0),
  o (some p24) (.mov x7),
  o (some p25) (.mov x1),
  o (some p26) (.mov x2),
  o (some p27) (.call 144 [x23, x24, x25, x26])]) (.block 2 (.loop kc_slices_stableCmpFunc_api_Entry_l1)))))
def a100 : AFn := ⟨c_slices_stableCmpFunc_api_Entry, []⟩
abbrev f_slices_stableCmpFunc_api_Entry : Nat := 100
def c_metric_Valid : ACode := .seq (.region [o (some p4) (.mov (.c (.bool false)))]) (.seq (.region [o (some p5) (.mov x0),
  o (some p6) (.bin .geq x5 (.c (iv 1))),
  o (some p7) (.mov x6),
  og (some p8) (.mov x0) p7 true,
  og (some p9) (.bin .leq x8 (.c (iv 3))) p7 true,
  o (some p10) (.pick x7 x9 (.c (.bool false))),
  o (some p11) (.mov x10),
  og (some p12) (.mov x1) p11 true,
  og (some p13) (.call 146 [x12, (.c (iv 0)), (.c (iv 134217728))]) p11 true,
  og (some p14) (.mov x1) p11 true,
  og (some p15) (.bin .eql x13 x14) p11 true,
  o (some p16) (.pick x11 x15 (.c (.bool false))),
  o (some p4) (.mov x16)]) (.ret))
def a101 : AFn := ⟨c_metric_Valid, [.t p4]⟩
abbrev f_metric_Valid : Nat := 101
def c_pivot_fit_1 : ACode := .seq (.region [o (some p3) (.mov (.c (.bool false)))]) (.seq (.region [o (some p4) (.load x1 false 1),
  o (some p5) (.iaddrS 1 x4 (.c (iv 0))),
  o (some p6) (.load x5 false 1),
  o (some p7) (.mov x0),
  o (some p8) (.call 103 [x6, x7]),
  o (some p9) (.un .not x8),
  o (some p3) (.mov x9)]) (.ret))
def a102 : AFn := ⟨c_pivot_fit_1, [.t p3]⟩
abbrev f_pivot_fit_1 : Nat := 102
def c_vector_Alike : ACode := .seq (.region [o (some p4) (.mov (.c (.bool false)))]) (.seq (.region [o (some p5) (.mov x0),
  o (some p6) (.len false x5),
  o (some p7) (.mov x1),
  o (some p8) (.len false x7),
  o (some p9) (.bin .eql x6 x8),
  o (some p10) (.mov x9),
  og (some p11) (.mov x0) p10 true,
  og (some p12) (.call 47 [x11]) p10 true,
  o (some p13) (.pick x10 x12 (.c (.bool false))),
  o (some p14) (.mov x13),
  og (some p15) (.mov x1) p14 true,
  og (some p16) (.call 47 [x15]) p14 true,
  o (some p17) (.pick x14 x16 (.c (.bool false))),
  o (some p4) (.mov x17)]) (.ret))
def a103 : AFn := ⟨c_vector_Alike, [.t p4]⟩
abbrev f_vector_Alike : Nat := 103
def c_math_bits_Mul : ACode := .seq (.region [o (some p4) (.mov (.c (.int .u64 0))),
  o (some p5) (.mov (.c (.int .u64 0)))]) (.seq (.cond (.c (.bool false)) (.seq (.region [o (some p11) (.mov x0),
  o (some p12) (.convI .u32 x11),
  o (some p13) (.mov x1),
  o (some p14) (.convI .u32 x13),
  o (some p15) (.call 147 [x12, x14]),
  o (some p10) (.mov x15),
  o (some p16) (.extract x10 0),
  o (some p17) (.extract x10 1),
  o (some p6) (.mov x16),
  o (some p7) (.mov x17)]) (.seq (.region [o (some p18) (.mov x6),
  o (some p19) (.convI .u64 x18),
  o (some p20) (.mov x7),
  o (some p21) (.convI .u64 x20),
  o (some p4) (.mov x19),
  o (some p5) (.mov x21)]) (.ret))) (.skip)) (.seq (.region [o (some p23) (.mov x0),
  o (some p24) (.mov x1),
  o (some p25) (.call 148 [x23, x24]),
  o (some p22) (.mov x25),
  o (some p26) (.extract x22 0),
  o (some p27) (.extract x22 1),
  o (some p8) (.mov x26),
  o (some p9) (.mov x27)]) (.seq (.region [o (some p28) (.mov x8),
  o (some p29) (.mov x9),
  o (some p4) (.mov x28),
  o (some p5) (.mov x29)]) (.ret))))
def a104 : AFn := ⟨c_math_bits_Mul, [.t p4, .t p5]⟩
abbrev f_math_bits_Mul : Nat := 104
def c_slices_Max_int_int_l0 : ACode := .seq (.seq (.region [o (some p12) (.mov x4),
  o (some p13) (.mov x0),
  o (some p14) (.len false x13),
  o (some p15) (.bin .lss x12 x14)]) (.cond x15 (.skip) (.exit 0))) (.seq (.block 1 (.region [o (some p18) (.mov x3),
  o (some p19) (.mov x0),
  o (some p20) (.mov x4),
  o (some p21) (.iaddrS 1 x19 x20),
  o (some p22) (.load x21 false 1),
  o (some p23) (.mx [x18, x22]),
  o (some p3) (.mov x23)])) (.region [o (some p16) (.mov x4),
  o (some p17) (.bin .add x16 (.c (iv 1))),
  o (some p4) (.mov x17)]))
def kc_slices_Max_int_int_l0 : ACode := c_slices_Max_int_int_l0
def c_slices_Max_int_int : ACode := .seq (.region [o (some p2) (.mov (.c (iv 0)))]) (.seq (.seq (.region [o (some p5) (.mov x0),
  o (some p6) (.len false x5),
  o (some p7) (.bin .lss x6 (.c (iv 1)))]) (.cond x7 (.region [o (some p8) (.mkif 9 (.c (.str (bs [115, 108, 105, 99, 101, 115, 46, 77, 97, 120, 58, 32, 101, 109, 112, 116, 121, 32, 108, 105, 115, 116])))),
  o none (.bad)]) (.skip))) (.seq (.region [o (some p9) (.mov x0),
  o (some p10) (.iaddrS 1 x9 (.c (iv 0))),
  o (some p11) (.load x10 false 1),
  o (some p3) (.mov x11)]) (.seq (.seq (.region [o (some p4) (.mov (.c (iv 1)))]) (.block 0 (.loop kc_slices_Max_int_int_l0))) (.seq (.region [o (some p24) (.mov x3),
  o (some p2) (.mov x24)]) (.ret)))))
def a105 : AFn := ⟨c_slices_Max_int_int, [.t p2]⟩
abbrev f_slices_Max_int_int : Nat := 105
def c_slices_Index_int_int_l0 : ACode := .seq (.region [o (some p9) (.bin .lss x8 x7)]) (.seq (.cond x9 (.skip) (.exit 0)) (.seq (.block 1 (.seq (.region [o (some p10) (.mov x8),
  o (some p5) (.mov x10)]) (.seq (.region [o (some p11) (.mov x1),
  o (some p12) (.mov x0),
  o (some p13) (.mov x5),
  o (some p14) (.iaddrS 1 x12 x13),
  o (some p15) (.load x14 false 1),
  o (some p16) (.bin .eql x11 x15)]) (.cond x16 (.seq (.region [o (some p17) (.mov x5),
  o (some p4) (.mov x17)]) (.ret)) (.skip))))) (.region [o (some p18) (.bin .add x8 (.c (iv 1))),
  o (some p8) (.mov x18)])))
def kc_slices_Index_int_int_l0 : ACode := c_slices_Index_int_int_l0
def c_slices_Index_int_int : ACode := .seq (.region [o (some p4) (.mov (.c (iv 0)))]) (.seq (.seq (.region [o (some p6) (.mov x0),
  o (some p7) (.len false x6),
  o (some p8) (.mov (.c (iv 0)))]) (.block 0 (.loop kc_slices_Index_int_int_l0))) (.seq (.region [o (some p4) (.mov (.c (iv (-1))))]) (.ret)))
def a106 : AFn := ⟨c_slices_Index_int_int, [.t p4]⟩
abbrev f_slices_Index_int_int : Nat := 106
def c_vector_Key : ACode := .seq (.region [o (some p6) (.mov (.c (iv 0)))]) (.seq (.region [o (some p7) (.mov x0),
  o (some p8) (.mov x1),
  o (some p9) (.mov x2),
  o (some p10) (.call 150 [x8, x9]),
  o (some p11) (.call 149 [x7, x10]),
  o (some p6) (.mov x11)]) (.ret))
def a107 : AFn := ⟨c_vector_Key, [.t p6]⟩
abbrev f_vector_Key : Nat := 107
def c_part_Blocks_l0 : ACode := .block 1 (.seq (.region [o (some p26) (.load x4 true 3),
  o (some p27) (.load x5 false 1),
  o (some p28) (.mov x11),
  o (some p29) (.call 152 [x26, x27, x28]),
  o (some p25) (.mov x29),
  o (some p30) (.extract x25 0),
  o (some p31) (.extract x25 1),
  o (some p12) (.alloc [(iv 0), .nilsl, .nilsl, .nilsl, (iv 0), (iv 0), (iv 0), (iv 0), (iv 0), .nilsl, .nilsl, .nilsl]),
  o none (.store x12 x30 12),
  o (some p13) (.mov x31)]) (.seq (.seq (.region [o (some p32) (.mov x13),
  o (some p33) (.bin .neq x32 (.c (iv 0)))]) (.cond x33 (.seq (.region [o (some p34) (.build [(iv 0), .nilsl, .nilsl, .nilsl, (iv 0), (iv 0), (iv 0), (iv 0), (iv 0), .nilsl, .nilsl, .nilsl] []),
  o (some p35) (.mov x13),
  o none (.store x8 x34 12),
  o none (.store x9 x35 1)]) (.ret)) (.skip))) (.draw [(.l 0 0, o (some p36) (.load x10 false 1)),
  (.l 0 0, o (some p37) (.load x12 true 12)),
  (.l 0 0, o (some p38) (.len false x36)),
  (.p, o (some p39) (.bslice 12 1 [(iv 0), .nilsl, .nilsl, .nilsl, (iv 0), (iv 0), (iv 0), (iv 0), (iv 0), .nilsl, .nilsl, .nilsl] [(0, 12, (.c (.agg [(iv 0), .nilsl, .nilsl, .nilsl, (iv 0), (iv 0), (iv 0), (iv 0), (iv 0), .nilsl, .nilsl, .nilsl])))])),
  (.e, o (some p40) (.append 12 192 x36 x39)),
  (.p, o (some p41) (.iaddrS 12 x40 x38)),
  (.e, o none (.store x41 x37 12)),
  (.e2, o none (.store x10 x40 1))])))
def kc_part_Blocks_l0 : ACode := c_part_Blocks_l0
def c_part_Blocks : ACode := .seq (.region [o (some p4) (.box x0),
  o (some p5) (.box x1),
  o (some p8) (.alloc [(iv 0), .nilsl, .nilsl, .nilsl, (iv 0), (iv 0), (iv 0), (iv 0), (iv 0), .nilsl, .nilsl, .nilsl]),
  o (some p9) (.alloc [(iv 0)])]) (.seq (.seq (.region [o (some p14) (.mov x3),
  o (some p15) (.bin .lss x14 (.c (iv 1))),
  o (some p16) (.mov x15),
  og (some p17) (.mov x3) p16 false,
  og (some p18) (.bin .gtr x17 (.c (iv 16))) p16 false,
  o (some p19) (.pick x16 (.c (.bool true)) x18)]) (.cond x19 (.seq (.region [o (some p20) (.build [(iv 0), .nilsl, .nilsl, .nilsl, (iv 0), (iv 0), (iv 0), (iv 0), (iv 0), .nilsl, .nilsl, .nilsl] []),
  o none (.store x8 x20 12),
  o none (.store x9 (.c (iv 1)) 1)]) (.ret)) (.skip))) (.seq (.region [o (some p10) (.alloc [.nilsl])]) (.seq (.seq (.region [o (some p21) (.mov x2),
  o (some p22) (.mov x3),
  o (some p23) (.call 151 [x21, x22])]) (.block 0 (.rangef x23 [p24] (.region [o (some p11) (.mov x24)]) kc_part_Blocks_l0))) (.seq (.seq (.region [o (some p42) (.load x10 false 1),
  o (some p43) (.len false x42),
  o (some p44) (.bin .eql x43 (.c (iv 1)))]) (.cond x44 (.seq (.region [o (some p45) (.load x10 false 1),
  o (some p46) (.iaddrS 12 x45 (.c (iv 0))),
  o (some p47) (.load x46 true 12),
  o none (.store x8 x47 12),
  o none (.store x9 (.c (iv 0)) 1)]) (.ret)) (.skip))) (.seq (.region [o (some p48) (.load x4 true 3),
  o (some p49) (.load x10 false 1),
  o (some p50) (.call 153 [x48, x49]),
  o (some p51) (.extract x50 0),
  o (some p52) (.extract x50 1),
  o none (.store x8 x51 12),
  o none (.store x9 x52 1)]) (.ret))))))
def a108 : AFn := ⟨c_part_Blocks, [.cell p8 true 12, .cell p9 false 1]⟩
abbrev f_part_Blocks : Nat := 108
def c_tree_Build : ACode := .seq (.region [o (some p3) (.box x0),
  o (some p6) (.alloc [(iv 0), .nilsl, .nilsl, .nilsl, (iv 0), (iv 0), (iv 0), (iv 0), (iv 0), .nilsl, .nilsl, .nilsl]),
  o (some p7) (.mov (.c (iv 0)))]) (.seq (.seq (.region [o (some p12) (.load x3 true 3),
  o (some p13) (.mov x1),
  o (some p14) (.mov x2),
  o (some p15) (.call 30 [x12, x13, x14]),
  o (some p11) (.mov x15),
  o (some p16) (.extract x11 0),
  o (some p17) (.extract x11 1),
  o (some p8) (.alloc [(iv 0), .nilsl, .nilsl, .nilsl, (iv 0), (iv 0), (iv 0), (iv 0), (iv 0), .nilsl]),
  o none (.store x8 x16 10),
  o (some p9) (.mov x17)]) (.seq (.region [o (some p18) (.mov x9),
  o (some p19) (.bin .neq x18 (.c (iv 0)))]) (.cond x19 (.seq (.region [o (some p20) (.build [(iv 0), .nilsl, .nilsl, .nilsl, (iv 0), (iv 0), (iv 0), (iv 0), (iv 0), .nilsl, .nilsl, .nilsl] []),
  o (some p21) (.mov x9),
  o none (.store x6 x20 12),
  o (some p7) (.mov x21)]) (.ret)) (.skip)))) (.seq (.region [o (some p22) (.mov x2),
  o (some p23) (.call 111 [x22]),
  o (some p10) (.mov x23)]) (.seq (.region [o (some p24) (.mov x10),
  o (some p25) (.call 57 [x24, (.c (.fn 154 [] []))])]) (.seq (.region [o (some p26) (.load x3 true 3),
  o (some p27) (.mov x1),
  o (some p28) (.build [(iv 0), (iv 0), .nilsl, .nilsl] [(0, 3, x26), (3, 1, x27)]),
  o (some p29) (.mov x10),
  o (some p30) (.call 155 [x28, x29, (.c (iv 0))]),
  o (some p31) (.extract x30 0),
  o (some p32) (.extract x30 1),
  o none (.store x6 x31 12),
  o (some p7) (.mov x32)]) (.ret)))))
def a109 : AFn := ⟨c_tree_Build, [.cell p6 true 12, .t p7]⟩
abbrev f_tree_Build : Nat := 109
def c_graph_Build_l0 : ACode := .seq (.region [o (some p32) (.bin .lss x31 x30)]) (.seq (.cond x32 (.skip) (.exit 0)) (.seq (.block 1 (.seq (.region [o (some p33) (.iaddrS 1 x29 x31),
  o (some p34) (.load x33 false 1),
  o (some p11) (.mov x34)]) (.seq (.region [o (some p35) (.load x8 true 2),
  o (some p36) (.mov x11),
  o (some p37) (.call 157 [x35, x36]),
  o (some p12) (.mov x37)]) (.seq (.region [o (some p38) (.mov x12),
  o (some p39) (.call 159 [x38]),
  o (some p40) (.call 158 [x39]),
  o (some p41) (.mov x2),
  o (some p42) (.mov x1),
  o (some p43) (.len false x42),
  o (some p44) (.mn [x41, x43]),
  o (some p45) (.bin .sub x44 (.c (iv 1))),
  o (some p46) (.iaddrS 1 x40 x45),
  o (some p47) (.load x46 false 1),
  o (some p13) (.mov x47)]) (.draw [(.p, o (some p48) (.faddr 0 x9)),
  (.l 0 1, o (some p49) (.load x48 false 1)),
  (.p, o (some p50) (.mov x13)),
  (.p, o (some p51) (.mov x12)),
  (.p, o (some p52) (.mov x13)),
  (.e, o (some p53) (.call 160 [x51, x52])),
  (.p, o (some p54) (.build [(iv 0), .nilsl] [(0, 1, x50), (1, 1, x53)])),
  (.p, o (some p55) (.bslice 2 1 [(iv 0), .nilsl] [(0, 2, x54)])),
  (.e, o (some p56) (.append 2 32 x49 x55)),
  (.p, o (some p57) (.faddr 0 x9)),
  (.e, o none (.store x57 x56 1))]))))) (.region [o (some p58) (.bin .add x31 (.c (iv 1))),
  o (some p31) (.mov x58)])))
def kc_graph_Build_l0 : ACode := c_graph_Build_l0
def c_graph_Build : ACode := .seq (.region [o (some p6) (.alloc [.nilsl]),
  o (some p7) (.mov (.c (iv 0)))]) (.seq (.region [o (some p14) (.mov x0),
  o (some p15) (.mov x1),
  o (some p16) (.build [(iv 0), .nilsl] [(0, 1, x14), (1, 1, x15)]),
  o (some p8) (.alloc [(iv 0), .nilsl]),
  o none (.store x8 x16 2)]) (.seq (.seq (.region [o (some p17) (.load x8 true 2),
  o (some p18) (.call 156 [x17]),
  o (some p19) (.un .not x18),
  o (some p20) (.mov x19),
  og (some p21) (.mov x2) p20 false,
  og (some p22) (.bin .lss x21 (.c (iv 1))) p20 false,
  o (some p23) (.pick x20 (.c (.bool true)) x22),
  o (some p24) (.mov x23),
  og (some p25) (.mov x2) p24 false,
  og (some p26) (.bin .gtr x25 (.c (iv 4096))) p24 false,
  o (some p27) (.pick x24 (.c (.bool true)) x26)]) (.cond x27 (.seq (.region [o (some p28) (.build [.nilsl] []),
  o none (.store x6 x28 1),
  o (some p7) (.mov (.c (iv 1)))]) (.ret)) (.skip))) (.seq (.region [o (some p9) (.alloc [.nilsl])]) (.seq (.seq (.region [o (some p29) (.mov x1),
  o (some p30) (.len false x29),
  o (some p31) (.mov (.c (iv 0)))]) (.block 0 (.loop kc_graph_Build_l0))) (.seq (.region [o (some p59) (.load x9 true 1),
  o none (.store x6 x59 1),
  o (some p7) (.mov (.c (iv 0)))]) (.ret))))))
def a110 : AFn := ⟨c_graph_Build, [.cell p6 true 1, .t p7]⟩
abbrev f_graph_Build : Nat := 110
def c_slices_Clone_api_Entry_api_Entry : ACode := .seq (.region [o (some p2) (.mov (.c .nilsl))]) (.seq (.seq (.region [o (some p3) (.mov x0),
  o (some p4) (.eqv false .nilsl x3 (.c .nilsl))]) (.cond x4 (.seq (.region [o (some p2) (.mov (.c .nilsl))]) (.ret)) (.skip))) (.seq (.region [o (some p5) (.bslice 9 0 [] []),
  o (some p6) (.mov x0),
  o (some p7) (.append 9 104 x5 x6),
  o (some p2) (.mov x7)]) (.ret)))
def a111 : AFn := ⟨c_slices_Clone_api_Entry_api_Entry, [.t p2]⟩
abbrev f_slices_Clone_api_Entry_api_Entry : Nat := 111
def c_slices_IndexFunc_api_Row_api_Row_l0 : ACode := .seq (.region [o (some p9) (.bin .lss x8 x7)]) (.seq (.cond x9 (.skip) (.exit 0)) (.seq (.block 1 (.seq (.region [o (some p10) (.mov x8),
  o (some p5) (.mov x10)]) (.seq (.region [o (some p11) (.mov x1),
  o (some p12) (.mov x0),
  o (some p13) (.mov x5),
  o (some p14) (.iaddrS 10 x12 x13),
  o (some p15) (.load x14 true 10),
  o (some p16) (.callv x11 [x15])]) (.cond x16 (.seq (.region [o (some p17) (.mov x5),
  o (some p4) (.mov x17)]) (.ret)) (.skip))))) (.region [o (some p18) (.bin .add x8 (.c (iv 1))),
  o (some p8) (.mov x18)])))
def kc_slices_IndexFunc_api_Row_api_Row_l0 : ACode := c_slices_IndexFunc_api_Row_api_Row_l0
def c_slices_IndexFunc_api_Row_api_Row : ACode := .seq (.region [o (some p4) (.mov (.c (iv 0)))]) (.seq (.seq (.region [o (some p6) (.mov x0),
  o (some p7) (.len false x6),
  o (some p8) (.mov (.c (iv 0)))]) (.block 0 (.loop kc_slices_IndexFunc_api_Row_api_Row_l0))) (.seq (.region [o (some p4) (.mov (.c (iv (-1))))]) (.ret)))
def a112 : AFn := ⟨c_slices_IndexFunc_api_Row_api_Row, [.t p4]⟩
abbrev f_slices_IndexFunc_api_Row_api_Row : Nat := 112
def c_slices_insertionSortCmpFunc_int_l1 : ACode := .seq (.seq (.draw [(.p, o (some p18) (.mov x9)),
  (.p, o (some p19) (.mov x1)),
  (.p, o (some p20) (.bin .gtr x18 x19)),
  (.p, o (some p21) (.mov x20)),
  (.p, og (some p22) (.mov x3) p21 true),
  (.p, og (some p23) (.mov x0) p21 true),
  (.p, og (some p24) (.mov x9) p21 true),
  (.p, og (some p25) (.iaddrS 1 x23 x24) p21 true),
  (.l 0 0, og (some p26) (.load x25 false 1) p21 true),
  (.p, og (some p27) (.mov x0) p21 true),
  (.p, og (some p28) (.mov x9) p21 true),
  (.p, og (some p29) (.bin .sub x28 (.c (iv 1))) p21 true),
  (.p, og (some p30) (.iaddrS 1 x27 x29) p21 true),
  (.l 0 0, og (some p31) (.load x30 false 1) p21 true),
  (.e, og (some p32) (.callv x22 [x26, x31]) p21 true),
  (.p, og (some p33) (.bin .lss x32 (.c (iv 0))) p21 true),
  (.p, o (some p34) (.pick x21 x33 (.c (.bool false))))]) (.cond x34 (.skip) (.exit 2))) (.seq (.block 3 (.draw [(.p, o (some p37) (.mov x0)),
  (.p, o (some p38) (.mov x9)),
  (.p, o (some p39) (.mov x0)),
  (.p, o (some p40) (.mov x9)),
  (.p, o (some p41) (.bin .sub x40 (.c (iv 1)))),
  (.p, o (some p42) (.mov x0)),
  (.p, o (some p43) (.mov x9)),
  (.p, o (some p44) (.bin .sub x43 (.c (iv 1)))),
  (.p, o (some p45) (.iaddrS 1 x42 x44)),
  (.l 0 0, o (some p46) (.load x45 false 1)),
  (.p, o (some p47) (.mov x0)),
  (.p, o (some p48) (.mov x9)),
  (.p, o (some p49) (.iaddrS 1 x47 x48)),
  (.l 0 0, o (some p50) (.load x49 false 1)),
  (.p, o (some p51) (.iaddrS 1 x37 x38)),
  (.e, o none (.store x51 x46 1)),
  (.p, o (some p52) (.iaddrS 1 x39 x41)),
  (.e, o none (.store x52 x50 1))])) (.region [o (some p35) (.mov x9),
  o (some p36) (.bin .sub x35 (.c (iv 1))),
  o (some p9) (.mov x36)]))
def kc_slices_insertionSortCmpFunc_int_l1 : ACode := c_slices_insertionSortCmpFunc_int_l1
def c_slices_insertionSortCmpFunc_int_l0 : ACode := .seq (.seq (.region [o (some p12) (.mov x8),
  o (some p13) (.mov x2),
  o (some p14) (.bin .lss x12 x13)]) (.cond x14 (.skip) (.exit 0))) (.seq (.block 1 (.seq (.region [o (some p17) (.mov x8),
  o (some p9) (.mov x17)]) (.block 2 (.loop kc_slices_insertionSortCmpFunc_int_l1)))) (.region [o (some p15) (.mov x8),
  o (some p16) (.bin .add x15 (.c (iv 1))),
  o (some p8) (.mov x16)]))
def kc_slices_insertionSortCmpFunc_int_l0 : ACode := c_slices_insertionSortCmpFunc_int_l0
def c_slices_insertionSortCmpFunc_int : ACode := .seq (.region [o (some p10) (.mov x1),
  o (some p11) (.bin .add x10 (.c (iv 1))),
  o (some p8) (.mov x11)]) (.block 0 (.loop kc_slices_insertionSortCmpFunc_int_l0))
def a113 : AFn := ⟨c_slices_insertionSortCmpFunc_int, []⟩
abbrev f_slices_insertionSortCmpFunc_int : Nat := 113
def c_slices_symMergeCmpFunc_int_l0 : ACode := .seq (.seq (.region [o (some p31) (.mov x10),
  o (some p32) (.mov x11),
  o (some p33) (.bin .lss x31 x32)]) (.cond x33 (.skip) (.exit 0))) (.block 1 (.seq (.region [o (some p34) (.mov x10),
  o (some p35) (.mov x11),
  o (some p36) (.bin .add x34 x35),
  o (some p37) (.convI .u64 x36),
  o (some p38) (.bin .shr x37 (.c (.int .u64 1))),
  o (some p39) (.convI .i64 x38),
  o (some p12) (.mov x39)]) (.seq (.draw [(.p, o (some p40) (.mov x4)),
  (.p, o (some p41) (.mov x0)),
  (.p, o (some p42) (.mov x12)),
  (.p, o (some p43) (.iaddrS 1 x41 x42)),
  (.l 0 0, o (some p44) (.load x43 false 1)),
  (.p, o (some p45) (.mov x0)),
  (.p, o (some p46) (.mov x1)),
  (.p, o (some p47) (.iaddrS 1 x45 x46)),
  (.l 0 0, o (some p48) (.load x47 false 1)),
  (.e, o (some p49) (.callv x40 [x44, x48])),
  (.p, o (some p50) (.bin .lss x49 (.c (iv 0))))]) (.cond x50 (.region [o (some p51) (.mov x12),
  o (some p52) (.bin .add x51 (.c (iv 1))),
  o (some p10) (.mov x52)]) (.region [o (some p53) (.mov x12),
  o (some p11) (.mov x53)])))))
def kc_slices_symMergeCmpFunc_int_l0 : ACode := c_slices_symMergeCmpFunc_int_l0
def c_slices_symMergeCmpFunc_int_l1 : ACode := .seq (.seq (.region [o (some p55) (.mov x13),
  o (some p56) (.mov x10),
  o (some p57) (.bin .sub x56 (.c (iv 1))),
  o (some p58) (.bin .lss x55 x57)]) (.cond x58 (.skip) (.exit 2))) (.seq (.block 3 (.draw [(.p, o (some p61) (.mov x0)),
  (.p, o (some p62) (.mov x13)),
  (.p, o (some p63) (.mov x0)),
  (.p, o (some p64) (.mov x13)),
  (.p, o (some p65) (.bin .add x64 (.c (iv 1)))),
  (.p, o (some p66) (.mov x0)),
  (.p, o (some p67) (.mov x13)),
  (.p, o (some p68) (.bin .add x67 (.c (iv 1)))),
  (.p, o (some p69) (.iaddrS 1 x66 x68)),
  (.l 0 0, o (some p70) (.load x69 false 1)),
  (.p, o (some p71) (.mov x0)),
  (.p, o (some p72) (.mov x13)),
  (.p, o (some p73) (.iaddrS 1 x71 x72)),
  (.l 0 0, o (some p74) (.load x73 false 1)),
  (.p, o (some p75) (.iaddrS 1 x61 x62)),
  (.e, o none (.store x75 x70 1)),
  (.p, o (some p76) (.iaddrS 1 x63 x65)),
  (.e, o none (.store x76 x74 1))])) (.region [o (some p59) (.mov x13),
  o (some p60) (.bin .add x59 (.c (iv 1))),
  o (some p13) (.mov x60)]))
def kc_slices_symMergeCmpFunc_int_l1 : ACode := c_slices_symMergeCmpFunc_int_l1
def c_slices_symMergeCmpFunc_int_l2 : ACode := .seq (.seq (.region [o (some p83) (.mov x14),
  o (some p84) (.mov x15),
  o (some p85) (.bin .lss x83 x84)]) (.cond x85 (.skip) (.exit 4))) (.block 5 (.seq (.region [o (some p86) (.mov x14),
  o (some p87) (.mov x15),
  o (some p88) (.bin .add x86 x87),
  o (some p89) (.convI .u64 x88),
  o (some p90) (.bin .shr x89 (.c (.int .u64 1))),
  o (some p91) (.convI .i64 x90),
  o (some p16) (.mov x91)]) (.seq (.draw [(.p, o (some p92) (.mov x4)),
  (.p, o (some p93) (.mov x0)),
  (.p, o (some p94) (.mov x2)),
  (.p, o (some p95) (.iaddrS 1 x93 x94)),
  (.l 0 0, o (some p96) (.load x95 false 1)),
  (.p, o (some p97) (.mov x0)),
  (.p, o (some p98) (.mov x16)),
  (.p, o (some p99) (.iaddrS 1 x97 x98)),
  (.l 0 0, o (some p100) (.load x99 false 1)),
  (.e, o (some p101) (.callv x92 [x96, x100])),
  (.p, o (some p102) (.bin .lss x101 (.c (iv 0)))),
  (.p, o (some p103) (.un .not x102))]) (.cond x103 (.region [o (some p104) (.mov x16),
  o (some p105) (.bin .add x104 (.c (iv 1))),
  o (some p14) (.mov x105)]) (.region [o (some p106) (.mov x16),
  o (some p15) (.mov x106)])))))
def kc_slices_symMergeCmpFunc_int_l2 : ACode := c_slices_symMergeCmpFunc_int_l2
def c_slices_symMergeCmpFunc_int_l3 : ACode := .seq (.seq (.region [o (some p108) (.mov x17),
  o (some p109) (.mov x14),
  o (some p110) (.bin .gtr x108 x109)]) (.cond x110 (.skip) (.exit 6))) (.seq (.block 7 (.draw [(.p, o (some p113) (.mov x0)),
  (.p, o (some p114) (.mov x17)),
  (.p, o (some p115) (.mov x0)),
  (.p, o (some p116) (.mov x17)),
  (.p, o (some p117) (.bin .sub x116 (.c (iv 1)))),
  (.p, o (some p118) (.mov x0)),
  (.p, o (some p119) (.mov x17)),
  (.p, o (some p120) (.bin .sub x119 (.c (iv 1)))),
  (.p, o (some p121) (.iaddrS 1 x118 x120)),
  (.l 0 0, o (some p122) (.load x121 false 1)),
  (.p, o (some p123) (.mov x0)),
  (.p, o (some p124) (.mov x17)),
  (.p, o (some p125) (.iaddrS 1 x123 x124)),
  (.l 0 0, o (some p126) (.load x125 false 1)),
  (.p, o (some p127) (.iaddrS 1 x113 x114)),
  (.e, o none (.store x127 x122 1)),
  (.p, o (some p128) (.iaddrS 1 x115 x117)),
  (.e, o none (.store x128 x126 1))])) (.region [o (some p111) (.mov x17),
  o (some p112) (.bin .sub x111 (.c (iv 1))),
  o (some p17) (.mov x112)]))
def kc_slices_symMergeCmpFunc_int_l3 : ACode := c_slices_symMergeCmpFunc_int_l3
def c_slices_symMergeCmpFunc_int_l4 : ACode := .seq (.seq (.region [o (some p149) (.mov x20),
  o (some p150) (.mov x21),
  o (some p151) (.bin .lss x149 x150)]) (.cond x151 (.skip) (.exit 8))) (.block 9 (.seq (.region [o (some p152) (.mov x20),
  o (some p153) (.mov x21),
  o (some p154) (.bin .add x152 x153),
  o (some p155) (.convI .u64 x154),
  o (some p156) (.bin .shr x155 (.c (.int .u64 1))),
  o (some p157) (.convI .i64 x156),
  o (some p23) (.mov x157)]) (.seq (.draw [(.p, o (some p158) (.mov x4)),
  (.p, o (some p159) (.mov x0)),
  (.p, o (some p160) (.mov x22)),
  (.p, o (some p161) (.mov x23)),
  (.p, o (some p162) (.bin .sub x160 x161)),
  (.p, o (some p163) (.iaddrS 1 x159 x162)),
  (.l 0 0, o (some p164) (.load x163 false 1)),
  (.p, o (some p165) (.mov x0)),
  (.p, o (some p166) (.mov x23)),
  (.p, o (some p167) (.iaddrS 1 x165 x166)),
  (.l 0 0, o (some p168) (.load x167 false 1)),
  (.e, o (some p169) (.callv x158 [x164, x168])),
  (.p, o (some p170) (.bin .lss x169 (.c (iv 0)))),
  (.p, o (some p171) (.un .not x170))]) (.cond x171 (.region [o (some p172) (.mov x23),
  o (some p173) (.bin .add x172 (.c (iv 1))),
  o (some p20) (.mov x173)]) (.region [o (some p174) (.mov x23),
  o (some p21) (.mov x174)])))))
def kc_slices_symMergeCmpFunc_int_l4 : ACode := c_slices_symMergeCmpFunc_int_l4
def c_slices_symMergeCmpFunc_int : ACode := .seq (.seq (.region [o (some p25) (.mov x2),
  o (some p26) (.mov x1),
  o (some p27) (.bin .sub x25 x26),
  o (some p28) (.bin .eql x27 (.c (iv 1)))]) (.cond x28 (.seq (.region [o (some p29) (.mov x2),
  o (some p10) (.mov x29)]) (.seq (.region [o (some p30) (.mov x3),
  o (some p11) (.mov x30)]) (.seq (.block 0 (.loop kc_slices_symMergeCmpFunc_int_l0)) (.seq (.seq (.region [o (some p54) (.mov x1),
  o (some p13) (.mov x54)]) (.block 2 (.loop kc_slices_symMergeCmpFunc_int_l1))) (.ret))))) (.skip))) (.seq (.seq (.region [o (some p77) (.mov x3),
  o (some p78) (.mov x2),
  o (some p79) (.bin .sub x77 x78),
  o (some p80) (.bin .eql x79 (.c (iv 1)))]) (.cond x80 (.seq (.region [o (some p81) (.mov x1),
  o (some p14) (.mov x81)]) (.seq (.region [o (some p82) (.mov x2),
  o (some p15) (.mov x82)]) (.seq (.block 4 (.loop kc_slices_symMergeCmpFunc_int_l2)) (.seq (.seq (.region [o (some p107) (.mov x2),
  o (some p17) (.mov x107)]) (.block 6 (.loop kc_slices_symMergeCmpFunc_int_l3))) (.ret))))) (.skip))) (.seq (.region [o (some p129) (.mov x1),
  o (some p130) (.mov x3),
  o (some p131) (.bin .add x129 x130),
  o (some p132) (.convI .u64 x131),
  o (some p133) (.bin .shr x132 (.c (.int .u64 1))),
  o (some p134) (.convI .i64 x133),
  o (some p18) (.mov x134)]) (.seq (.region [o (some p135) (.mov x18),
  o (some p136) (.mov x2),
  o (some p137) (.bin .add x135 x136),
  o (some p19) (.mov x137)]) (.seq (.region [o (some p20) (.mov (.c (iv 0))),
  o (some p21) (.mov (.c (iv 0)))]) (.seq (.seq (.region [o (some p138) (.mov x2),
  o (some p139) (.mov x18),
  o (some p140) (.bin .gtr x138 x139)]) (.cond x140 (.seq (.region [o (some p141) (.mov x19),
  o (some p142) (.mov x3),
  o (some p143) (.bin .sub x141 x142),
  o (some p20) (.mov x143)]) (.region [o (some p144) (.mov x18),
  o (some p21) (.mov x144)])) (.seq (.region [o (some p145) (.mov x1),
  o (some p20) (.mov x145)]) (.region [o (some p146) (.mov x2),
  o (some p21) (.mov x146)])))) (.seq (.region [o (some p147) (.mov x19),
  o (some p148) (.bin .sub x147 (.c (iv 1))),
  o (some p22) (.mov x148)]) (.seq (.block 8 (.loop kc_slices_symMergeCmpFunc_int_l4)) (.seq (.region [o (some p175) (.mov x19),
  o (some p176) (.mov x20),
  o (some p177) (.bin .sub x175 x176),
  o (some p24) (.mov x177)]) (.seq (.seq (.region [o (some p178) (.mov x20),
  o (some p179) (.mov x2),
  o (some p180) (.bin .lss x178 x179),
  o (some p181) (.mov x180),
  og (some p182) (.mov x2) p181 true,
  og (some p183) (.mov x24) p181 true,
  og (some p184) (.bin .lss x182 x183) p181 true,
  o (some p185) (.pick x181 x184 (.c (.bool false)))]) (.cond x185 (.region [o (some p186) (.mov x0),
  o (some p187) (.mov x20),
  o (some p188) (.mov x2),
  o (some p189) (.mov x24),
  o (some p190) (.mov x4),
  o (some p191) (.call 161 [x186, x187, x188, x189, x190])]) (.skip))) (.seq (.seq (.region [o (some p192) (.mov x1),
  o (some p193) (.mov x20),
  o (some p194) (.bin .lss x192 x193),
  o (some p195) (.mov x194),
  og (some p196) (.mov x20) p195 true,
  og (some p197) (.mov x18) p195 true,
  og (some p198) (.bin .lss x196 x197) p195 true,
  o (some p199) (.pick x195 x198 (.c (.bool false)))]) (.cond x199 (.region [o (some p200) (.mov x0),
  o (some p201) (.mov x1),
  o (some p202) (.mov x20),
  o (some p203) (.mov x18),
  o (some p204) (.mov x4),
  o (some p205) (.call 114 [x200, x201, x202, x203, x204])]) (.skip))) (.seq (.region [o (some p206) (.mov x18),
  o (some p207) (.mov x24),
  o (some p208) (.bin .lss x206 x207),
  o (some p209) (.mov x208),
  og (some p210) (.mov x24) p209 true,
  og (some p211) (.mov x3) p209 true,
  og (some p212) (.bin .lss x210 x211) p209 true,
  o (some p213) (.pick x209 x212 (.c (.bool false)))]) (.cond x213 (.region [o (some p214) (.mov x0),
  o (some p215) (.mov x18),
  o (some p216) (.mov x24),
  o (some p217) (.mov x3),
  o (some p218) (.mov x4),
  o (some p219) (.call 114 [x214, x215, x216, x217, x218])]) (.skip)))))))))))))
def a114 : AFn := ⟨c_slices_symMergeCmpFunc_int, []⟩
abbrev f_slices_symMergeCmpFunc_int : Nat := 114
def c_attr_def_1 : ACode := .seq (.region [o (some p1) (.mov (.c (.bool false)))]) (.seq (.region [o (some p2) (.faddr 0 x0),
  o (some p3) (.load x2 false 1),
  o (some p4) (.call 116 [x3]),
  o (some p5) (.un .not x4),
  o (some p1) (.mov x5)]) (.ret))
def a115 : AFn := ⟨c_attr_def_1, [.t p1]⟩
abbrev f_attr_def_1 : Nat := 115
def c_attr_Name_l0 : ACode := .seq (.region [o (some p7) (.bad),
  o (some p8) (.extract x7 0)]) (.seq (.cond x8 (.skip) (.exit 0)) (.block 1 (.seq (.region [o (some p9) (.extract x7 1),
  o (some p10) (.extract x7 2),
  o (some p3) (.mov x9),
  o (some p4) (.mov x10)]) (.seq (.region [o (some p11) (.mov x4),
  o (some p12) (.bin .lss x11 (.c (.int .i32 97))),
  o (some p13) (.mov x12),
  og (some p14) (.mov x4) p13 false,
  og (some p15) (.bin .gtr x14 (.c (.int .i32 122))) p13 false,
  o (some p16) (.pick x13 (.c (.bool true)) x15),
  o (some p17) (.mov x16),
  og (some p18) (.mov x3) p17 true,
  og (some p19) (.bin .eql x18 (.c (iv 0))) p17 true,
  og (some p20) (.mov x19) p17 true,
  og (some p21) (.mov x4) p20 false,
  og (some p22) (.bin .lss x21 (.c (.int .i32 48))) p20 false,
  og (some p23) (.mov x22) p20 false,
  og (some p24) (.mov x4) p23 false,
  og (some p25) (.bin .gtr x24 (.c (.int .i32 57))) p23 false,
  og (some p26) (.pick x23 (.c (.bool true)) x25) p20 false,
  og (some p27) (.mov x26) p20 false,
  og (some p28) (.mov x4) p27 true,
  og (some p29) (.bin .neq x28 (.c (.int .i32 95))) p27 true,
  og (some p30) (.pick x27 x29 (.c (.bool false))) p20 false,
  og (some p31) (.pick x20 (.c (.bool true)) x30) p17 true,
  o (some p32) (.pick x17 x31 (.c (.bool false)))]) (.cond x32 (.seq (.region [o (some p2) (.mov (.c (.bool false)))]) (.ret)) (.skip))))))
def kc_attr_Name_l0 : ACode := c_attr_Name_l0
def c_attr_Name : ACode := .seq (.region [o (some p2) (.mov (.c (.bool false)))]) (.seq (.seq (.region [o (some p5) (.mov x0),
  o (some p6) (.bad)]) (.block 0 (.loop kc_attr_Name_l0))) (.seq (.region [o (some p33) (.mov x0),
  o (some p34) (.len true x33),
  o (some p35) (.bin .geq x34 (.c (iv 1))),
  o (some p36) (.mov x35),
  og (some p37) (.mov x0) p36 true,
  og (some p38) (.len true x37) p36 true,
  og (some p39) (.bin .leq x38 (.c (iv 40))) p36 true,
  o (some p40) (.pick x36 x39 (.c (.bool false))),
  o (some p41) (.mov x40),
  og (some p42) (.bslice 1 6 [(.str (bs [])), (.str (bs [])), (.str (bs [])), (.str (bs [])), (.str (bs [])), (.str (bs []))] [(0, 1, (.c (.str (bs [97, 108, 108])))), (1, 1, (.c (.str (bs [97, 110, 100])))), (2, 1, (.c (.str (bs [104, 97, 115])))), (3, 1, (.c (.str (bs [105, 110])))), (4, 1, (.c (.str (bs [110, 111, 116])))), (5, 1, (.c (.str (bs [111, 114]))))]) p41 true,
  og (some p43) (.mov x0) p41 true,
  og (some p44) (.call 135 [x42, x43]) p41 true,
  og (some p45) (.un .not x44) p41 true,
  o (some p46) (.pick x41 x45 (.c (.bool false))),
  o (some p2) (.mov x46)]) (.ret)))
def a116 : AFn := ⟨c_attr_Name, [.t p2]⟩
abbrev f_attr_Name : Nat := 116
end Go.AM.T
