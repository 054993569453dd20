/- PRINTED by sh.py: shallow forms of functions of the program, each proved equal to what the ghost machine makes of its code. -/
import Derived.Test.YthicilkmjamefaaGlSh
import Derived.Test.YthicilkmjamefaaProg
import Derived.Test.YthicilkmjamefaaShStacks3a
namespace Go.Proofs.Ythicilkmjamefaa
open Go.Gh
set_option linter.unusedVariables false
set_option linter.unusedSimpArgs false
set_option maxRecDepth 100000
section
variable {β : Type} {call : Handle} {k : Nat} {a : GA} {K : Kont β} {K' : GA → GH → M β}
variable {x0 x1 x2 x3 x4 x5 x6 x7 x8 x9 x10 x11 x12 x13 x14 x15 x16 x17 x18 x19 x20 x21 x22 x23 x24 x25 x26 x27 x28 x29 x30 x31 x32 x33 x34 x35 x36 x37 x38 x39 x40 x41 x42 x43 x44 x45 x46 x47 x48 x49 x50 x51 x52 x53 x54 x55 x56 x57 x58 x59 x60 x61 x62 x63 x64 x65 x66 x67 x68 x69 x70 x71 x72 x73 x74 x75 x76 x77 x78 x79 x80 x81 x82 x83 x84 x85 x86 x87 x88 x89 x90 x91 x92 x93 x94 x95 x96 x97 x98 x99 x100 x101 x102 x103 x104 x105 x106 x107 x108 x109 x110 x111 x112 x113 x114 x115 x116 x117 x118 x119 x120 x121 x122 x123 x124 x125 x126 x127 x128 x129 x130 x131 x132 x133 x134 x135 x136 x137 x138 x139 x140 x141 x142 x143 x144 x145 x146 x147 x148 x149 x150 x151 x152 x153 x154 x155 x156 x157 x158 x159 x160 x161 x162 x163 x164 x165 x166 x167 x168 x169 x170 x171 x172 x173 : Value}
variable {p0 : Value}
variable {v1 v2 v3 v4 v5 v6 v7 v8 v9 : Value}
variable {H H3 H4 H10 : GH}
def f3_l25_P (ag : GA → GH → M (Value × GH)) (sg : Value → Value → Value → Value → Value → GH → M (Value × GH)) : Prop := ∀ (x0 x1 x2 x3 x4 x5 x6 x7 x8 x9 x10 x11 x12 x13 x14 x15 x16 x17 x18 x19 x20 x21 x22 x23 x24 x25 x26 x27 x28 x29 x30 x31 x32 x33 x34 x35 x36 x37 x38 x39 x40 x41 x42 x43 x44 x45 x46 x47 x48 x49 x50 x51 x52 x53 x54 x55 x56 x57 x58 x59 x60 x61 x62 x63 x64 x65 x66 x67 x68 x69 x70 x71 x72 x73 x74 x75 x76 x77 x78 x79 x80 x81 x82 x83 x84 x85 x86 x87 x88 x89 x90 x91 x92 x93 x94 x95 x96 x97 x98 x99 x100 x101 x102 x103 x104 x105 x106 x107 x108 x109 x110 x111 x112 x113 x114 x115 x116 x117 x118 x119 x120 x121 x122 x123 x124 x125 x126 x127 x128 x129 x130 x131 x132 x133 x134 x135 x136 x137 x138 x139 x140 x141 x142 x143 x144 x145 x146 x147 x148 x149 x150 x151 x152 x153 x154 x155 x156 x157 x158 x159 x160 x161 x162 x163 x164 x165 x166 x167 x168 x169 x170 x171 x172 x173 : Value) (H : GH), ag (x0::x1::x2::x3::x4::x5::x6::x7::x8::x9::x10::x11::x12::x13::x14::x15::x16::x17::x18::x19::x20::x21::x22::x23::x24::x25::x26::x27::x28::x29::x30::x31::x32::x33::x34::x35::x36::x37::x38::x39::x40::x41::x42::x43::x44::x45::x46::x47::x48::x49::x50::x51::x52::x53::x54::x55::x56::x57::x58::x59::x60::x61::x62::x63::x64::x65::x66::x67::x68::x69::x70::x71::x72::x73::x74::x75::x76::x77::x78::x79::x80::x81::x82::x83::x84::x85::x86::x87::x88::x89::x90::x91::x92::x93::x94::x95::x96::x97::x98::x99::x100::x101::x102::x103::x104::x105::x106::x107::x108::x109::x110::x111::x112::x113::x114::x115::x116::x117::x118::x119::x120::x121::x122::x123::x124::x125::x126::x127::x128::x129::x130::x131::x132::x133::x134::x135::x136::x137::x138::x139::x140::x141::x142::x143::x144::x145::x146::x147::x148::x149::x150::x151::x152::x153::x154::x155::x156::x157::x158::x159::x160::x161::x162::x163::x164::x165::x166::x167::x168::x169::x170::x171::x172::x173::[]) H = sg x1 x4 x5 x8 x9 H
theorem f3_l25_at {ag : GA → GH → M (Value × GH)} {sg : Value → Value → Value → Value → Value → GH → M (Value × GH)} (h : f3_l25_P ag sg) : ag (x0::x1::x2::x3::x4::x5::x6::x7::x8::x9::x10::x11::x12::x13::x14::x15::x16::x17::x18::x19::x20::x21::x22::x23::x24::x25::x26::x27::x28::x29::x30::x31::x32::x33::x34::x35::x36::x37::x38::x39::x40::x41::x42::x43::x44::x45::x46::x47::x48::x49::x50::x51::x52::x53::x54::x55::x56::x57::x58::x59::x60::x61::x62::x63::x64::x65::x66::x67::x68::x69::x70::x71::x72::x73::x74::x75::x76::x77::x78::x79::x80::x81::x82::x83::x84::x85::x86::x87::x88::x89::x90::x91::x92::x93::x94::x95::x96::x97::x98::x99::x100::x101::x102::x103::x104::x105::x106::x107::x108::x109::x110::x111::x112::x113::x114::x115::x116::x117::x118::x119::x120::x121::x122::x123::x124::x125::x126::x127::x128::x129::x130::x131::x132::x133::x134::x135::x136::x137::x138::x139::x140::x141::x142::x143::x144::x145::x146::x147::x148::x149::x150::x151::x152::x153::x154::x155::x156::x157::x158::x159::x160::x161::x162::x163::x164::x165::x166::x167::x168::x169::x170::x171::x172::x173::[]) H = sg x1 x4 x5 x8 x9 H := h x0 x1 x2 x3 x4 x5 x6 x7 x8 x9 x10 x11 x12 x13 x14 x15 x16 x17 x18 x19 x20 x21 x22 x23 x24 x25 x26 x27 x28 x29 x30 x31 x32 x33 x34 x35 x36 x37 x38 x39 x40 x41 x42 x43 x44 x45 x46 x47 x48 x49 x50 x51 x52 x53 x54 x55 x56 x57 x58 x59 x60 x61 x62 x63 x64 x65 x66 x67 x68 x69 x70 x71 x72 x73 x74 x75 x76 x77 x78 x79 x80 x81 x82 x83 x84 x85 x86 x87 x88 x89 x90 x91 x92 x93 x94 x95 x96 x97 x98 x99 x100 x101 x102 x103 x104 x105 x106 x107 x108 x109 x110 x111 x112 x113 x114 x115 x116 x117 x118 x119 x120 x121 x122 x123 x124 x125 x126 x127 x128 x129 x130 x131 x132 x133 x134 x135 x136 x137 x138 x139 x140 x141 x142 x143 x144 x145 x146 x147 x148 x149 x150 x151 x152 x153 x154 x155 x156 x157 x158 x159 x160 x161 x162 x163 x164 x165 x166 x167 x168 x169 x170 x171 x172 x173 H
def f3_l22_P (ag : GA → GH → M (Value × GH)) (sg : Value → Value → Value → Value → GH → M (Value × GH)) : Prop := ∀ (x0 x1 x2 x3 x4 x5 x6 x7 x8 x9 x10 x11 x12 x13 x14 x15 x16 x17 x18 x19 x20 x21 x22 x23 x24 x25 x26 x27 x28 x29 x30 x31 x32 x33 x34 x35 x36 x37 x38 x39 x40 x41 x42 x43 x44 x45 x46 x47 x48 x49 x50 x51 x52 x53 x54 x55 x56 x57 x58 x59 x60 x61 x62 x63 x64 x65 x66 x67 x68 x69 x70 x71 x72 x73 x74 x75 x76 x77 x78 x79 x80 x81 x82 x83 x84 x85 x86 x87 x88 x89 x90 x91 x92 x93 x94 x95 x96 x97 x98 x99 x100 x101 x102 x103 x104 x105 x106 x107 x108 x109 x110 x111 x112 x113 x114 x115 x116 x117 x118 x119 x120 x121 x122 x123 x124 x125 x126 x127 x128 x129 x130 x131 x132 x133 x134 x135 x136 x137 x138 x139 x140 x141 x142 x143 x144 x145 x146 x147 x148 x149 x150 x151 x152 x153 x154 x155 x156 x157 x158 x159 x160 x161 x162 x163 x164 x165 x166 x167 x168 x169 x170 x171 x172 x173 : Value) (H : GH), ag (x0::x1::x2::x3::x4::x5::x6::x7::x8::x9::x10::x11::x12::x13::x14::x15::x16::x17::x18::x19::x20::x21::x22::x23::x24::x25::x26::x27::x28::x29::x30::x31::x32::x33::x34::x35::x36::x37::x38::x39::x40::x41::x42::x43::x44::x45::x46::x47::x48::x49::x50::x51::x52::x53::x54::x55::x56::x57::x58::x59::x60::x61::x62::x63::x64::x65::x66::x67::x68::x69::x70::x71::x72::x73::x74::x75::x76::x77::x78::x79::x80::x81::x82::x83::x84::x85::x86::x87::x88::x89::x90::x91::x92::x93::x94::x95::x96::x97::x98::x99::x100::x101::x102::x103::x104::x105::x106::x107::x108::x109::x110::x111::x112::x113::x114::x115::x116::x117::x118::x119::x120::x121::x122::x123::x124::x125::x126::x127::x128::x129::x130::x131::x132::x133::x134::x135::x136::x137::x138::x139::x140::x141::x142::x143::x144::x145::x146::x147::x148::x149::x150::x151::x152::x153::x154::x155::x156::x157::x158::x159::x160::x161::x162::x163::x164::x165::x166::x167::x168::x169::x170::x171::x172::x173::[]) H = sg x1 x4 x5 x8 H
theorem f3_l22_at {ag : GA → GH → M (Value × GH)} {sg : Value → Value → Value → Value → GH → M (Value × GH)} (h : f3_l22_P ag sg) : ag (x0::x1::x2::x3::x4::x5::x6::x7::x8::x9::x10::x11::x12::x13::x14::x15::x16::x17::x18::x19::x20::x21::x22::x23::x24::x25::x26::x27::x28::x29::x30::x31::x32::x33::x34::x35::x36::x37::x38::x39::x40::x41::x42::x43::x44::x45::x46::x47::x48::x49::x50::x51::x52::x53::x54::x55::x56::x57::x58::x59::x60::x61::x62::x63::x64::x65::x66::x67::x68::x69::x70::x71::x72::x73::x74::x75::x76::x77::x78::x79::x80::x81::x82::x83::x84::x85::x86::x87::x88::x89::x90::x91::x92::x93::x94::x95::x96::x97::x98::x99::x100::x101::x102::x103::x104::x105::x106::x107::x108::x109::x110::x111::x112::x113::x114::x115::x116::x117::x118::x119::x120::x121::x122::x123::x124::x125::x126::x127::x128::x129::x130::x131::x132::x133::x134::x135::x136::x137::x138::x139::x140::x141::x142::x143::x144::x145::x146::x147::x148::x149::x150::x151::x152::x153::x154::x155::x156::x157::x158::x159::x160::x161::x162::x163::x164::x165::x166::x167::x168::x169::x170::x171::x172::x173::[]) H = sg x1 x4 x5 x8 H := h x0 x1 x2 x3 x4 x5 x6 x7 x8 x9 x10 x11 x12 x13 x14 x15 x16 x17 x18 x19 x20 x21 x22 x23 x24 x25 x26 x27 x28 x29 x30 x31 x32 x33 x34 x35 x36 x37 x38 x39 x40 x41 x42 x43 x44 x45 x46 x47 x48 x49 x50 x51 x52 x53 x54 x55 x56 x57 x58 x59 x60 x61 x62 x63 x64 x65 x66 x67 x68 x69 x70 x71 x72 x73 x74 x75 x76 x77 x78 x79 x80 x81 x82 x83 x84 x85 x86 x87 x88 x89 x90 x91 x92 x93 x94 x95 x96 x97 x98 x99 x100 x101 x102 x103 x104 x105 x106 x107 x108 x109 x110 x111 x112 x113 x114 x115 x116 x117 x118 x119 x120 x121 x122 x123 x124 x125 x126 x127 x128 x129 x130 x131 x132 x133 x134 x135 x136 x137 x138 x139 x140 x141 x142 x143 x144 x145 x146 x147 x148 x149 x150 x151 x152 x153 x154 x155 x156 x157 x158 x159 x160 x161 x162 x163 x164 x165 x166 x167 x168 x169 x170 x171 x172 x173 H
def f3_l17_P (ag : GA → GH → M (Value × GH)) (sg : Value → Value → Value → Value → GH → M (Value × GH)) : Prop := ∀ (x0 x1 x2 x3 x4 x5 x6 x7 x8 x9 x10 x11 x12 x13 x14 x15 x16 x17 x18 x19 x20 x21 x22 x23 x24 x25 x26 x27 x28 x29 x30 x31 x32 x33 x34 x35 x36 x37 x38 x39 x40 x41 x42 x43 x44 x45 x46 x47 x48 x49 x50 x51 x52 x53 x54 x55 x56 x57 x58 x59 x60 x61 x62 x63 x64 x65 x66 x67 x68 x69 x70 x71 x72 x73 x74 x75 x76 x77 x78 x79 x80 x81 x82 x83 x84 x85 x86 x87 x88 x89 x90 x91 x92 x93 x94 x95 x96 x97 x98 x99 x100 x101 x102 x103 x104 x105 x106 x107 x108 x109 x110 x111 x112 x113 x114 x115 x116 x117 x118 x119 x120 x121 x122 x123 x124 x125 x126 x127 x128 x129 x130 x131 x132 x133 x134 x135 x136 x137 x138 x139 x140 x141 x142 x143 x144 x145 x146 x147 x148 x149 x150 x151 x152 x153 x154 x155 x156 x157 x158 x159 x160 x161 x162 x163 x164 x165 x166 x167 x168 x169 x170 x171 x172 x173 : Value) (H : GH), ag (x0::x1::x2::x3::x4::x5::x6::x7::x8::x9::x10::x11::x12::x13::x14::x15::x16::x17::x18::x19::x20::x21::x22::x23::x24::x25::x26::x27::x28::x29::x30::x31::x32::x33::x34::x35::x36::x37::x38::x39::x40::x41::x42::x43::x44::x45::x46::x47::x48::x49::x50::x51::x52::x53::x54::x55::x56::x57::x58::x59::x60::x61::x62::x63::x64::x65::x66::x67::x68::x69::x70::x71::x72::x73::x74::x75::x76::x77::x78::x79::x80::x81::x82::x83::x84::x85::x86::x87::x88::x89::x90::x91::x92::x93::x94::x95::x96::x97::x98::x99::x100::x101::x102::x103::x104::x105::x106::x107::x108::x109::x110::x111::x112::x113::x114::x115::x116::x117::x118::x119::x120::x121::x122::x123::x124::x125::x126::x127::x128::x129::x130::x131::x132::x133::x134::x135::x136::x137::x138::x139::x140::x141::x142::x143::x144::x145::x146::x147::x148::x149::x150::x151::x152::x153::x154::x155::x156::x157::x158::x159::x160::x161::x162::x163::x164::x165::x166::x167::x168::x169::x170::x171::x172::x173::[]) H = sg x1 x4 x5 x7 H
theorem f3_l17_at {ag : GA → GH → M (Value × GH)} {sg : Value → Value → Value → Value → GH → M (Value × GH)} (h : f3_l17_P ag sg) : ag (x0::x1::x2::x3::x4::x5::x6::x7::x8::x9::x10::x11::x12::x13::x14::x15::x16::x17::x18::x19::x20::x21::x22::x23::x24::x25::x26::x27::x28::x29::x30::x31::x32::x33::x34::x35::x36::x37::x38::x39::x40::x41::x42::x43::x44::x45::x46::x47::x48::x49::x50::x51::x52::x53::x54::x55::x56::x57::x58::x59::x60::x61::x62::x63::x64::x65::x66::x67::x68::x69::x70::x71::x72::x73::x74::x75::x76::x77::x78::x79::x80::x81::x82::x83::x84::x85::x86::x87::x88::x89::x90::x91::x92::x93::x94::x95::x96::x97::x98::x99::x100::x101::x102::x103::x104::x105::x106::x107::x108::x109::x110::x111::x112::x113::x114::x115::x116::x117::x118::x119::x120::x121::x122::x123::x124::x125::x126::x127::x128::x129::x130::x131::x132::x133::x134::x135::x136::x137::x138::x139::x140::x141::x142::x143::x144::x145::x146::x147::x148::x149::x150::x151::x152::x153::x154::x155::x156::x157::x158::x159::x160::x161::x162::x163::x164::x165::x166::x167::x168::x169::x170::x171::x172::x173::[]) H = sg x1 x4 x5 x7 H := h x0 x1 x2 x3 x4 x5 x6 x7 x8 x9 x10 x11 x12 x13 x14 x15 x16 x17 x18 x19 x20 x21 x22 x23 x24 x25 x26 x27 x28 x29 x30 x31 x32 x33 x34 x35 x36 x37 x38 x39 x40 x41 x42 x43 x44 x45 x46 x47 x48 x49 x50 x51 x52 x53 x54 x55 x56 x57 x58 x59 x60 x61 x62 x63 x64 x65 x66 x67 x68 x69 x70 x71 x72 x73 x74 x75 x76 x77 x78 x79 x80 x81 x82 x83 x84 x85 x86 x87 x88 x89 x90 x91 x92 x93 x94 x95 x96 x97 x98 x99 x100 x101 x102 x103 x104 x105 x106 x107 x108 x109 x110 x111 x112 x113 x114 x115 x116 x117 x118 x119 x120 x121 x122 x123 x124 x125 x126 x127 x128 x129 x130 x131 x132 x133 x134 x135 x136 x137 x138 x139 x140 x141 x142 x143 x144 x145 x146 x147 x148 x149 x150 x151 x152 x153 x154 x155 x156 x157 x158 x159 x160 x161 x162 x163 x164 x165 x166 x167 x168 x169 x170 x171 x172 x173 H
def f3_l7_P (ag : GA → GH → M (Value × GH)) (sg : Value → Value → Value → Value → Value → GH → M (Value × GH)) : Prop := ∀ (x0 x1 x2 x3 x4 x5 x6 x7 x8 x9 x10 x11 x12 x13 x14 x15 x16 x17 x18 x19 x20 x21 x22 x23 x24 x25 x26 x27 x28 x29 x30 x31 x32 x33 x34 x35 x36 x37 x38 x39 x40 x41 x42 x43 x44 x45 x46 x47 x48 x49 x50 x51 x52 x53 x54 x55 x56 x57 x58 x59 x60 x61 x62 x63 x64 x65 x66 x67 x68 x69 x70 x71 x72 x73 x74 x75 x76 x77 x78 x79 x80 x81 x82 x83 x84 x85 x86 x87 x88 x89 x90 x91 x92 x93 x94 x95 x96 x97 x98 x99 x100 x101 x102 x103 x104 x105 x106 x107 x108 x109 x110 x111 x112 x113 x114 x115 x116 x117 x118 x119 x120 x121 x122 x123 x124 x125 x126 x127 x128 x129 x130 x131 x132 x133 x134 x135 x136 x137 x138 x139 x140 x141 x142 x143 x144 x145 x146 x147 x148 x149 x150 x151 x152 x153 x154 x155 x156 x157 x158 x159 x160 x161 x162 x163 x164 x165 x166 x167 x168 x169 x170 x171 x172 x173 : Value) (H : GH), ag (x0::x1::x2::x3::x4::x5::x6::x7::x8::x9::x10::x11::x12::x13::x14::x15::x16::x17::x18::x19::x20::x21::x22::x23::x24::x25::x26::x27::x28::x29::x30::x31::x32::x33::x34::x35::x36::x37::x38::x39::x40::x41::x42::x43::x44::x45::x46::x47::x48::x49::x50::x51::x52::x53::x54::x55::x56::x57::x58::x59::x60::x61::x62::x63::x64::x65::x66::x67::x68::x69::x70::x71::x72::x73::x74::x75::x76::x77::x78::x79::x80::x81::x82::x83::x84::x85::x86::x87::x88::x89::x90::x91::x92::x93::x94::x95::x96::x97::x98::x99::x100::x101::x102::x103::x104::x105::x106::x107::x108::x109::x110::x111::x112::x113::x114::x115::x116::x117::x118::x119::x120::x121::x122::x123::x124::x125::x126::x127::x128::x129::x130::x131::x132::x133::x134::x135::x136::x137::x138::x139::x140::x141::x142::x143::x144::x145::x146::x147::x148::x149::x150::x151::x152::x153::x154::x155::x156::x157::x158::x159::x160::x161::x162::x163::x164::x165::x166::x167::x168::x169::x170::x171::x172::x173::[]) H = sg x1 x3 x4 x5 x6 H
theorem f3_l7_at {ag : GA → GH → M (Value × GH)} {sg : Value → Value → Value → Value → Value → GH → M (Value × GH)} (h : f3_l7_P ag sg) : ag (x0::x1::x2::x3::x4::x5::x6::x7::x8::x9::x10::x11::x12::x13::x14::x15::x16::x17::x18::x19::x20::x21::x22::x23::x24::x25::x26::x27::x28::x29::x30::x31::x32::x33::x34::x35::x36::x37::x38::x39::x40::x41::x42::x43::x44::x45::x46::x47::x48::x49::x50::x51::x52::x53::x54::x55::x56::x57::x58::x59::x60::x61::x62::x63::x64::x65::x66::x67::x68::x69::x70::x71::x72::x73::x74::x75::x76::x77::x78::x79::x80::x81::x82::x83::x84::x85::x86::x87::x88::x89::x90::x91::x92::x93::x94::x95::x96::x97::x98::x99::x100::x101::x102::x103::x104::x105::x106::x107::x108::x109::x110::x111::x112::x113::x114::x115::x116::x117::x118::x119::x120::x121::x122::x123::x124::x125::x126::x127::x128::x129::x130::x131::x132::x133::x134::x135::x136::x137::x138::x139::x140::x141::x142::x143::x144::x145::x146::x147::x148::x149::x150::x151::x152::x153::x154::x155::x156::x157::x158::x159::x160::x161::x162::x163::x164::x165::x166::x167::x168::x169::x170::x171::x172::x173::[]) H = sg x1 x3 x4 x5 x6 H := h x0 x1 x2 x3 x4 x5 x6 x7 x8 x9 x10 x11 x12 x13 x14 x15 x16 x17 x18 x19 x20 x21 x22 x23 x24 x25 x26 x27 x28 x29 x30 x31 x32 x33 x34 x35 x36 x37 x38 x39 x40 x41 x42 x43 x44 x45 x46 x47 x48 x49 x50 x51 x52 x53 x54 x55 x56 x57 x58 x59 x60 x61 x62 x63 x64 x65 x66 x67 x68 x69 x70 x71 x72 x73 x74 x75 x76 x77 x78 x79 x80 x81 x82 x83 x84 x85 x86 x87 x88 x89 x90 x91 x92 x93 x94 x95 x96 x97 x98 x99 x100 x101 x102 x103 x104 x105 x106 x107 x108 x109 x110 x111 x112 x113 x114 x115 x116 x117 x118 x119 x120 x121 x122 x123 x124 x125 x126 x127 x128 x129 x130 x131 x132 x133 x134 x135 x136 x137 x138 x139 x140 x141 x142 x143 x144 x145 x146 x147 x148 x149 x150 x151 x152 x153 x154 x155 x156 x157 x158 x159 x160 x161 x162 x163 x164 x165 x166 x167 x168 x169 x170 x171 x172 x173 H
noncomputable def f3_r13 (call : Handle) (k : Nat) (sg_l7 : Value → Value → Value → Value → Value → GH → M (Value × GH)) (x1 x3 x4 x5 x6 : Value) (H : GH) : M (Value × GH) :=
  onV (oIndexAddr Try.prog 22 x3 x6) fun v1 =>
  onV (gLoad Try.prog 26 v1 H) fun v2 =>
  onVH (gAppend Try.prog 26 26 x4 v2 H) fun v3 H4 =>
  onV ((oBin Try.prog .add 3 x6 (.int .i64 1)).filter closed) fun v5 =>
  (sg_l7 x1 x3 v3 x5 v5 H4)
theorem f3_r13_eq (call : Handle) (k : Nat) (ag_l7 : GA → GH → M (Value × GH)) (sg_l7 : Value → Value → Value → Value → Value → GH → M (Value × GH)) (h_l7 : f3_l7_P ag_l7 sg_l7) : gCode Try.prog call k (fAt Try.f3 [1,1,1,1,1,0,1,0,0,1,0,0,1,1]) (x0::x1::x2::x3::x4::x5::x6::x7::x8::x9::x10::x11::x12::x13::x14::x15::x16::x17::x18::x19::x20::x21::x22::x23::x24::x25::x26::x27::x28::x29::x30::x31::x32::x33::x34::x35::x36::x37::x38::x39::x40::x41::x42::x43::x44::x45::x46::x47::x48::x49::x50::x51::x52::x53::x54::x55::x56::x57::x58::x59::x60::x61::x62::x63::x64::x65::x66::x67::x68::x69::x70::x71::x72::x73::x74::x75::x76::x77::x78::x79::x80::x81::x82::x83::x84::x85::x86::x87::x88::x89::x90::x91::x92::x93::x94::x95::x96::x97::x98::x99::x100::x101::x102::x103::x104::x105::x106::x107::x108::x109::x110::x111::x112::x113::x114::x115::x116::x117::x118::x119::x120::x121::x122::x123::x124::x125::x126::x127::x128::x129::x130::x131::x132::x133::x134::x135::x136::x137::x138::x139::x140::x141::x142::x143::x144::x145::x146::x147::x148::x149::x150::x151::x152::x153::x154::x155::x156::x157::x158::x159::x160::x161::x162::x163::x164::x165::x166::x167::x168::x169::x170::x171::x172::x173::[]) H (hBlock 1 (hSeq (gCode Try.prog call k (fAt Try.f3 [1,1,1,1,1,0,1,0,0,1,1])) (hLoop ag_l7 (hBlock 0 (hSeq (gCode Try.prog call k (fAt Try.f3 [1,1,1,1,1,1])) (hFin Try.prog Try.f3)))))) = f3_r13 call k sg_l7 x1 x3 x4 x5 x6 H := by
  unfold f3_r13
  rw [n3_54]
  rw [s3_24]
  refine onV_c fun v1 => ?_
  refine onV_c fun v2 => ?_
  refine onVH_c fun v3 H4 => ?_
  rw [hBlock_n]
  rw [hSeq_n]
  rw [n3_55]
  rw [s3_25]
  refine onV_c fun v5 => ?_
  rw [hLoop_n]
  exact f3_l7_at h_l7
noncomputable def f3_g9_7 (call : Handle) (k : Nat) (sg_l7 : Value → Value → Value → Value → Value → GH → M (Value × GH)) (x44 : Value) (x1 x3 x4 x5 x6 : Value) (H : GH) : M (Value × GH) :=
 onBool (asB x44)
  (onCall 0 call (.func (.func 8) #[] #[]) [] H fun v1 H2 =>
  some [(v1, H2)])
  (onV (oLen Try.prog 26 x4) fun v1 =>
  onV ((oBin Try.prog .gtr 3 v1 (.int .i64 60)).filter closed) fun v2 =>
  onBool (asB v2)
  (onCall 0 call (.func (.func 8) #[] #[]) [] H fun v3 H4 =>
  some [(v3, H4)])
  (onV (oIndexAddr Try.prog 22 x3 x6) fun v5 =>
  onV (gLoad Try.prog 26 v5 H) fun v6 =>
  onV (oLen Try.prog 26 v6) fun v7 =>
  onV ((oBin Try.prog .gtr 3 v7 (.int .i64 4)).filter closed) fun v8 =>
  onBool (asB v8)
  ((f3_r13 call k (sg_l7) x1 x3 x4 (.int .i64 9) x6 H))
  ((f3_r13 call k (sg_l7) x1 x3 x4 x5 x6 H))))
theorem f3_g9_7_true (call : Handle) (k : Nat) (ag_l7 : GA → GH → M (Value × GH)) (sg_l7 : Value → Value → Value → Value → Value → GH → M (Value × GH)) (h_l7 : f3_l7_P ag_l7 sg_l7) : gOps Try.prog 0 call (opsAt (fAt Try.f3 [1,1,1,1,1,0,1,0,0,1,0,0,0,0])) ((opsAt (fAt Try.f3 [1,1,1,1,1,0,1,0,0,1,0,0,0,0])).drop 7) (x0::x1::x2::x3::x4::x5::x6::x7::x8::x9::x10::x11::x12::x13::x14::x15::x16::x17::x18::x19::x20::x21::x22::x23::x24::x25::x26::x27::x28::x29::x30::x31::x32::x33::x34::x35::x36::x37::x38::x39::x40::x41::x42::x43::(.bool true)::x45::x46::x47::x48::x49::x50::x51::x52::x53::x54::x55::x56::x57::x58::x59::x60::x61::x62::x63::x64::x65::x66::x67::x68::x69::x70::x71::x72::x73::x74::x75::x76::x77::x78::x79::x80::x81::x82::x83::x84::x85::x86::x87::x88::x89::x90::x91::x92::x93::x94::x95::x96::x97::x98::x99::x100::x101::x102::x103::x104::x105::x106::x107::x108::x109::x110::x111::x112::x113::x114::x115::x116::x117::x118::x119::x120::x121::x122::x123::x124::x125::x126::x127::x128::x129::x130::x131::x132::x133::x134::x135::x136::x137::x138::x139::x140::x141::x142::x143::x144::x145::x146::x147::x148::x149::x150::x151::x152::x153::x154::x155::x156::x157::x158::x159::x160::x161::x162::x163::x164::x165::x166::x167::x168::x169::x170::x171::x172::x173::[]) H ((hSeq (gCode Try.prog call k (fAt Try.f3 [1,1,1,1,1,0,1,0,0,1,0,0,0,1])) (hSeq (gCode Try.prog call k (fAt Try.f3 [1,1,1,1,1,0,1,0,0,1,0,0,1])) (hBlock 1 (hSeq (gCode Try.prog call k (fAt Try.f3 [1,1,1,1,1,0,1,0,0,1,1])) (hLoop ag_l7 (hBlock 0 (hSeq (gCode Try.prog call k (fAt Try.f3 [1,1,1,1,1,1])) (hFin Try.prog Try.f3)))))))) .normal) =
  onCall 0 call (.func (.func 8) #[] #[]) [] H fun v1 H2 =>
  some [(v1, H2)] := by
  rw [s3_13]
  rw [hSeq_n]
  rw [n3_35]
  refine (onBool_tt rfl).trans ?_
  rw [n3_36]
  rw [n3_37]
  rw [s3_14]
  refine onCall_c fun v1 H2 => ?_
  rw [hSeq_n]
  rw [n3_38]
  rw [hSeq_r, hBlock_r, hSeq_r, hLoop_r, hBlock_r, hSeq_r]
  exact fin3_ret
theorem f3_g9_7_false (call : Handle) (k : Nat) (ag_l7 : GA → GH → M (Value × GH)) (sg_l7 : Value → Value → Value → Value → Value → GH → M (Value × GH)) (h_l7 : f3_l7_P ag_l7 sg_l7) : gOps Try.prog 0 call (opsAt (fAt Try.f3 [1,1,1,1,1,0,1,0,0,1,0,0,0,0])) ((opsAt (fAt Try.f3 [1,1,1,1,1,0,1,0,0,1,0,0,0,0])).drop 7) (x0::x1::x2::x3::x4::x5::x6::x7::x8::x9::x10::x11::x12::x13::x14::x15::x16::x17::x18::x19::x20::x21::x22::x23::x24::x25::x26::x27::x28::x29::x30::x31::x32::x33::x34::x35::x36::x37::x38::x39::x40::x41::x42::x43::(.bool false)::x45::x46::x47::x48::x49::x50::x51::x52::x53::x54::x55::x56::x57::x58::x59::x60::x61::x62::x63::x64::x65::x66::x67::x68::x69::x70::x71::x72::x73::x74::x75::x76::x77::x78::x79::x80::x81::x82::x83::x84::x85::x86::x87::x88::x89::x90::x91::x92::x93::x94::x95::x96::x97::x98::x99::x100::x101::x102::x103::x104::x105::x106::x107::x108::x109::x110::x111::x112::x113::x114::x115::x116::x117::x118::x119::x120::x121::x122::x123::x124::x125::x126::x127::x128::x129::x130::x131::x132::x133::x134::x135::x136::x137::x138::x139::x140::x141::x142::x143::x144::x145::x146::x147::x148::x149::x150::x151::x152::x153::x154::x155::x156::x157::x158::x159::x160::x161::x162::x163::x164::x165::x166::x167::x168::x169::x170::x171::x172::x173::[]) H ((hSeq (gCode Try.prog call k (fAt Try.f3 [1,1,1,1,1,0,1,0,0,1,0,0,0,1])) (hSeq (gCode Try.prog call k (fAt Try.f3 [1,1,1,1,1,0,1,0,0,1,0,0,1])) (hBlock 1 (hSeq (gCode Try.prog call k (fAt Try.f3 [1,1,1,1,1,0,1,0,0,1,1])) (hLoop ag_l7 (hBlock 0 (hSeq (gCode Try.prog call k (fAt Try.f3 [1,1,1,1,1,1])) (hFin Try.prog Try.f3)))))))) .normal) =
  onV (oLen Try.prog 26 x4) fun v1 =>
  onV ((oBin Try.prog .gtr 3 v1 (.int .i64 60)).filter closed) fun v2 =>
  onBool (asB v2)
  (onCall 0 call (.func (.func 8) #[] #[]) [] H fun v3 H4 =>
  some [(v3, H4)])
  (onV (oIndexAddr Try.prog 22 x3 x6) fun v5 =>
  onV (gLoad Try.prog 26 v5 H) fun v6 =>
  onV (oLen Try.prog 26 v6) fun v7 =>
  onV ((oBin Try.prog .gtr 3 v7 (.int .i64 4)).filter closed) fun v8 =>
  onBool (asB v8)
  ((f3_r13 call k (sg_l7) x1 x3 x4 (.int .i64 9) x6 H))
  ((f3_r13 call k (sg_l7) x1 x3 x4 x5 x6 H))) := by
  rw [s3_15]
  refine onV_c fun v1 => ?_
  refine onV_c fun v2 => ?_
  rw [hSeq_n]
  rw [n3_35]
  refine onBool_cc rfl ?_ ?_
  · rw [n3_36]
    rw [n3_37]
    rw [s3_16]
    refine onCall_c fun v3 H4 => ?_
    rw [hSeq_n]
    rw [n3_38]
    rw [hSeq_r, hBlock_r, hSeq_r, hLoop_r, hBlock_r, hSeq_r]
    exact fin3_ret
  · rw [n3_39]
    rw [hSeq_n]
    rw [n3_40]
    rw [n3_41]
    rw [n3_42]
    rw [s3_17]
    refine onV_c fun v5 => ?_
    refine onV_c fun v6 => ?_
    refine onV_c fun v7 => ?_
    refine onV_c fun v8 => ?_
    rw [hSeq_n]
    rw [n3_43]
    refine onBool_cc rfl ?_ ?_
    · rw [n3_44]
      rw [s3_18]
      rw [hSeq_n]
      exact f3_r13_eq call k ag_l7 sg_l7 h_l7
    · rw [n3_45]
      rw [hSeq_n]
      exact f3_r13_eq call k ag_l7 sg_l7 h_l7
theorem f3_g9_7_eq (call : Handle) (k : Nat) (ag_l7 : GA → GH → M (Value × GH)) (sg_l7 : Value → Value → Value → Value → Value → GH → M (Value × GH)) (h_l7 : f3_l7_P ag_l7 sg_l7) : gOps Try.prog 0 call (opsAt (fAt Try.f3 [1,1,1,1,1,0,1,0,0,1,0,0,0,0])) ((opsAt (fAt Try.f3 [1,1,1,1,1,0,1,0,0,1,0,0,0,0])).drop 7) (x0::x1::x2::x3::x4::x5::x6::x7::x8::x9::x10::x11::x12::x13::x14::x15::x16::x17::x18::x19::x20::x21::x22::x23::x24::x25::x26::x27::x28::x29::x30::x31::x32::x33::x34::x35::x36::x37::x38::x39::x40::x41::x42::x43::x44::x45::x46::x47::x48::x49::x50::x51::x52::x53::x54::x55::x56::x57::x58::x59::x60::x61::x62::x63::x64::x65::x66::x67::x68::x69::x70::x71::x72::x73::x74::x75::x76::x77::x78::x79::x80::x81::x82::x83::x84::x85::x86::x87::x88::x89::x90::x91::x92::x93::x94::x95::x96::x97::x98::x99::x100::x101::x102::x103::x104::x105::x106::x107::x108::x109::x110::x111::x112::x113::x114::x115::x116::x117::x118::x119::x120::x121::x122::x123::x124::x125::x126::x127::x128::x129::x130::x131::x132::x133::x134::x135::x136::x137::x138::x139::x140::x141::x142::x143::x144::x145::x146::x147::x148::x149::x150::x151::x152::x153::x154::x155::x156::x157::x158::x159::x160::x161::x162::x163::x164::x165::x166::x167::x168::x169::x170::x171::x172::x173::[]) H ((hSeq (gCode Try.prog call k (fAt Try.f3 [1,1,1,1,1,0,1,0,0,1,0,0,0,1])) (hSeq (gCode Try.prog call k (fAt Try.f3 [1,1,1,1,1,0,1,0,0,1,0,0,1])) (hBlock 1 (hSeq (gCode Try.prog call k (fAt Try.f3 [1,1,1,1,1,0,1,0,0,1,1])) (hLoop ag_l7 (hBlock 0 (hSeq (gCode Try.prog call k (fAt Try.f3 [1,1,1,1,1,1])) (hFin Try.prog Try.f3)))))))) .normal) =
  f3_g9_7 call k sg_l7 x44 x1 x3 x4 x5 x6 H := by
  cases x44 with
  | bool b => cases b with
    | true => exact f3_g9_7_true call k ag_l7 sg_l7 h_l7
    | false => exact f3_g9_7_false call k ag_l7 sg_l7 h_l7
  | _ => kernel_rfl
noncomputable def f3_r9 (call : Handle) (k : Nat) (sg_l7 : Value → Value → Value → Value → Value → GH → M (Value × GH)) (x1 x3 x4 x5 x6 : Value) (H : GH) : M (Value × GH) :=
  onV (oIndexAddr Try.prog 22 x3 x6) fun v1 =>
  onV (gLoad Try.prog 26 v1 H) fun v2 =>
  onV (oLen Try.prog 26 v2) fun v3 =>
  onV ((oBin Try.prog .gtr 3 v3 (.int .i64 6)).filter closed) fun v4 =>
  (f3_g9_7 call k (sg_l7) v4 x1 x3 x4 x5 x6 H)
theorem f3_r9_eq (call : Handle) (k : Nat) (ag_l7 : GA → GH → M (Value × GH)) (sg_l7 : Value → Value → Value → Value → Value → GH → M (Value × GH)) (h_l7 : f3_l7_P ag_l7 sg_l7) : gCode Try.prog call k (fAt Try.f3 [1,1,1,1,1,0,1,0,0,1,0,0,0,0]) (x0::x1::x2::x3::x4::x5::x6::x7::x8::x9::x10::x11::x12::x13::x14::x15::x16::x17::x18::x19::x20::x21::x22::x23::x24::x25::x26::x27::x28::x29::x30::x31::x32::x33::x34::x35::x36::x37::x38::x39::x40::x41::x42::x43::x44::x45::x46::x47::x48::x49::x50::x51::x52::x53::x54::x55::x56::x57::x58::x59::x60::x61::x62::x63::x64::x65::x66::x67::x68::x69::x70::x71::x72::x73::x74::x75::x76::x77::x78::x79::x80::x81::x82::x83::x84::x85::x86::x87::x88::x89::x90::x91::x92::x93::x94::x95::x96::x97::x98::x99::x100::x101::x102::x103::x104::x105::x106::x107::x108::x109::x110::x111::x112::x113::x114::x115::x116::x117::x118::x119::x120::x121::x122::x123::x124::x125::x126::x127::x128::x129::x130::x131::x132::x133::x134::x135::x136::x137::x138::x139::x140::x141::x142::x143::x144::x145::x146::x147::x148::x149::x150::x151::x152::x153::x154::x155::x156::x157::x158::x159::x160::x161::x162::x163::x164::x165::x166::x167::x168::x169::x170::x171::x172::x173::[]) H (hSeq (gCode Try.prog call k (fAt Try.f3 [1,1,1,1,1,0,1,0,0,1,0,0,0,1])) (hSeq (gCode Try.prog call k (fAt Try.f3 [1,1,1,1,1,0,1,0,0,1,0,0,1])) (hBlock 1 (hSeq (gCode Try.prog call k (fAt Try.f3 [1,1,1,1,1,0,1,0,0,1,1])) (hLoop ag_l7 (hBlock 0 (hSeq (gCode Try.prog call k (fAt Try.f3 [1,1,1,1,1,1])) (hFin Try.prog Try.f3)))))))) = f3_r9 call k sg_l7 x1 x3 x4 x5 x6 H := by
  unfold f3_r9
  rw [n3_31]
  rw [gOps_split 0 7, s3_11]
  refine onV_c fun v1 => ?_
  refine onV_c fun v2 => ?_
  refine onV_c fun v3 => ?_
  refine onV_c fun v4 => ?_
  exact f3_g9_7_eq call k ag_l7 sg_l7 h_l7
noncomputable def f3_r20 (call : Handle) (k : Nat) (sg_l17 : Value → Value → Value → Value → GH → M (Value × GH)) (x1 x4 x7 : Value) (H : GH) : M (Value × GH) :=
  onV ((oBin Try.prog .add 3 x7 (.int .i64 1)).filter closed) fun v1 =>
  (sg_l17 x1 x4 (.int .i64 1) v1 H)
theorem f3_r20_eq (call : Handle) (k : Nat) (ag_l17 : GA → GH → M (Value × GH)) (sg_l17 : Value → Value → Value → Value → GH → M (Value × GH)) (h_l17 : f3_l17_P ag_l17 sg_l17) : gCode Try.prog call k (fAt Try.f3 [1,1,1,1,1,1,1,0,1,0,0,1,0,0,1,0]) (x0::x1::x2::x3::x4::x5::x6::x7::x8::x9::x10::x11::x12::x13::x14::x15::x16::x17::x18::x19::x20::x21::x22::x23::x24::x25::x26::x27::x28::x29::x30::x31::x32::x33::x34::x35::x36::x37::x38::x39::x40::x41::x42::x43::x44::x45::x46::x47::x48::x49::x50::x51::x52::x53::x54::x55::x56::x57::x58::x59::x60::x61::x62::x63::x64::x65::x66::x67::x68::x69::x70::x71::x72::x73::x74::x75::x76::x77::x78::x79::x80::x81::x82::x83::x84::x85::x86::x87::x88::x89::x90::x91::x92::x93::x94::x95::x96::x97::x98::x99::x100::x101::x102::x103::x104::x105::x106::x107::x108::x109::x110::x111::x112::x113::x114::x115::x116::x117::x118::x119::x120::x121::x122::x123::x124::x125::x126::x127::x128::x129::x130::x131::x132::x133::x134::x135::x136::x137::x138::x139::x140::x141::x142::x143::x144::x145::x146::x147::x148::x149::x150::x151::x152::x153::x154::x155::x156::x157::x158::x159::x160::x161::x162::x163::x164::x165::x166::x167::x168::x169::x170::x171::x172::x173::[]) H (hBlock 3 (hSeq (gCode Try.prog call k (fAt Try.f3 [1,1,1,1,1,1,1,0,1,0,0,1,1])) (hLoop ag_l17 (hBlock 2 (hSeq (gCode Try.prog call k (fAt Try.f3 [1,1,1,1,1,1,1,1])) (hFin Try.prog Try.f3)))))) = f3_r20 call k sg_l17 x1 x4 x7 H := by
  unfold f3_r20
  rw [n3_75]
  rw [s3_35]
  rw [hBlock_n]
  rw [hSeq_n]
  rw [n3_76]
  rw [s3_36]
  refine onV_c fun v1 => ?_
  rw [hLoop_n]
  exact f3_l17_at h_l17
noncomputable def f3_r18 (call : Handle) (k : Nat) (sg_l17 : Value → Value → Value → Value → GH → M (Value × GH)) (x1 x4 x5 x7 : Value) (H : GH) : M (Value × GH) :=
  onV ((oBin Try.prog .add 3 x7 (.int .i64 1)).filter closed) fun v1 =>
  (sg_l17 x1 x4 x5 v1 H)
theorem f3_r18_eq (call : Handle) (k : Nat) (ag_l17 : GA → GH → M (Value × GH)) (sg_l17 : Value → Value → Value → Value → GH → M (Value × GH)) (h_l17 : f3_l17_P ag_l17 sg_l17) : gCode Try.prog call k (fAt Try.f3 [1,1,1,1,1,1,1,0,1,0,0,1,1]) (x0::x1::x2::x3::x4::x5::x6::x7::x8::x9::x10::x11::x12::x13::x14::x15::x16::x17::x18::x19::x20::x21::x22::x23::x24::x25::x26::x27::x28::x29::x30::x31::x32::x33::x34::x35::x36::x37::x38::x39::x40::x41::x42::x43::x44::x45::x46::x47::x48::x49::x50::x51::x52::x53::x54::x55::x56::x57::x58::x59::x60::x61::x62::x63::x64::x65::x66::x67::x68::x69::x70::x71::x72::x73::x74::x75::x76::x77::x78::x79::x80::x81::x82::x83::x84::x85::x86::x87::x88::x89::x90::x91::x92::x93::x94::x95::x96::x97::x98::x99::x100::x101::x102::x103::x104::x105::x106::x107::x108::x109::x110::x111::x112::x113::x114::x115::x116::x117::x118::x119::x120::x121::x122::x123::x124::x125::x126::x127::x128::x129::x130::x131::x132::x133::x134::x135::x136::x137::x138::x139::x140::x141::x142::x143::x144::x145::x146::x147::x148::x149::x150::x151::x152::x153::x154::x155::x156::x157::x158::x159::x160::x161::x162::x163::x164::x165::x166::x167::x168::x169::x170::x171::x172::x173::[]) H (hLoop ag_l17 (hBlock 2 (hSeq (gCode Try.prog call k (fAt Try.f3 [1,1,1,1,1,1,1,1])) (hFin Try.prog Try.f3)))) = f3_r18 call k sg_l17 x1 x4 x5 x7 H := by
  unfold f3_r18
  rw [n3_76]
  rw [s3_43]
  refine onV_c fun v1 => ?_
  rw [hLoop_n]
  exact f3_l17_at h_l17
noncomputable def f3_g19_23 (call : Handle) (k : Nat) (sg_l17 : Value → Value → Value → Value → GH → M (Value × GH)) (x104 : Value) (x1 x4 x5 x7 : Value) (H : GH) : M (Value × GH) :=
 onBool (asB x104)
  (onV ((oBin Try.prog .add 3 x7 (.int .i64 1)).filter closed) fun v1 =>
  (sg_l17 x1 x4 (.int .i64 1) v1 H))
  (onV (oIndexAddr Try.prog 26 x4 x7) fun v1 =>
  onV (oFieldAddr Try.prog 29 v1 1) fun v2 =>
  onV (gLoad Try.prog 3 v2 H) fun v3 =>
  onV ((oBin Try.prog .gtr 3 v3 (.int .i64 2047)).filter closed) fun v4 =>
  onBool (asB v4)
  (onV ((oBin Try.prog .add 3 x7 (.int .i64 1)).filter closed) fun v5 =>
  (sg_l17 x1 x4 (.int .i64 1) v5 H))
  (onV ((oBin Try.prog .add 3 x7 (.int .i64 1)).filter closed) fun v6 =>
  (sg_l17 x1 x4 x5 v6 H)))
theorem f3_g19_23_true (call : Handle) (k : Nat) (ag_l17 : GA → GH → M (Value × GH)) (sg_l17 : Value → Value → Value → Value → GH → M (Value × GH)) (h_l17 : f3_l17_P ag_l17 sg_l17) : gOps Try.prog 0 call (opsAt (fAt Try.f3 [1,1,1,1,1,1,1,0,1,0,0,1,0,0,0])) ((opsAt (fAt Try.f3 [1,1,1,1,1,1,1,0,1,0,0,1,0,0,0])).drop 23) (x0::x1::x2::x3::x4::x5::x6::x7::x8::x9::x10::x11::x12::x13::x14::x15::x16::x17::x18::x19::x20::x21::x22::x23::x24::x25::x26::x27::x28::x29::x30::x31::x32::x33::x34::x35::x36::x37::x38::x39::x40::x41::x42::x43::x44::x45::x46::x47::x48::x49::x50::x51::x52::x53::x54::x55::x56::x57::x58::x59::x60::x61::x62::x63::x64::x65::x66::x67::x68::x69::x70::x71::x72::x73::x74::x75::x76::x77::x78::x79::x80::x81::x82::x83::x84::x85::x86::x87::x88::x89::x90::x91::x92::x93::x94::x95::x96::x97::x98::x99::x100::x101::x102::x103::(.bool true)::x105::x106::x107::x108::x109::x110::x111::x112::x113::x114::x115::x116::x117::x118::x119::x120::x121::x122::x123::x124::x125::x126::x127::x128::x129::x130::x131::x132::x133::x134::x135::x136::x137::x138::x139::x140::x141::x142::x143::x144::x145::x146::x147::x148::x149::x150::x151::x152::x153::x154::x155::x156::x157::x158::x159::x160::x161::x162::x163::x164::x165::x166::x167::x168::x169::x170::x171::x172::x173::[]) H ((hSeq (gCode Try.prog call k (fAt Try.f3 [1,1,1,1,1,1,1,0,1,0,0,1,0,0,1])) (hBlock 3 (hSeq (gCode Try.prog call k (fAt Try.f3 [1,1,1,1,1,1,1,0,1,0,0,1,1])) (hLoop ag_l17 (hBlock 2 (hSeq (gCode Try.prog call k (fAt Try.f3 [1,1,1,1,1,1,1,1])) (hFin Try.prog Try.f3))))))) .normal) =
  onV ((oBin Try.prog .add 3 x7 (.int .i64 1)).filter closed) fun v1 =>
  (sg_l17 x1 x4 (.int .i64 1) v1 H) := by
  rw [s3_44]
  rw [hSeq_n]
  rw [n3_71]
  refine (onBool_tt rfl).trans ?_
  rw [n3_75]
  rw [s3_45]
  rw [hBlock_n]
  rw [hSeq_n]
  rw [n3_76]
  rw [s3_46]
  refine onV_c fun v1 => ?_
  rw [hLoop_n]
  exact f3_l17_at h_l17
theorem f3_g19_23_false (call : Handle) (k : Nat) (ag_l17 : GA → GH → M (Value × GH)) (sg_l17 : Value → Value → Value → Value → GH → M (Value × GH)) (h_l17 : f3_l17_P ag_l17 sg_l17) : gOps Try.prog 0 call (opsAt (fAt Try.f3 [1,1,1,1,1,1,1,0,1,0,0,1,0,0,0])) ((opsAt (fAt Try.f3 [1,1,1,1,1,1,1,0,1,0,0,1,0,0,0])).drop 23) (x0::x1::x2::x3::x4::x5::x6::x7::x8::x9::x10::x11::x12::x13::x14::x15::x16::x17::x18::x19::x20::x21::x22::x23::x24::x25::x26::x27::x28::x29::x30::x31::x32::x33::x34::x35::x36::x37::x38::x39::x40::x41::x42::x43::x44::x45::x46::x47::x48::x49::x50::x51::x52::x53::x54::x55::x56::x57::x58::x59::x60::x61::x62::x63::x64::x65::x66::x67::x68::x69::x70::x71::x72::x73::x74::x75::x76::x77::x78::x79::x80::x81::x82::x83::x84::x85::x86::x87::x88::x89::x90::x91::x92::x93::x94::x95::x96::x97::x98::x99::x100::x101::x102::x103::(.bool false)::x105::x106::x107::x108::x109::x110::x111::x112::x113::x114::x115::x116::x117::x118::x119::x120::x121::x122::x123::x124::x125::x126::x127::x128::x129::x130::x131::x132::x133::x134::x135::x136::x137::x138::x139::x140::x141::x142::x143::x144::x145::x146::x147::x148::x149::x150::x151::x152::x153::x154::x155::x156::x157::x158::x159::x160::x161::x162::x163::x164::x165::x166::x167::x168::x169::x170::x171::x172::x173::[]) H ((hSeq (gCode Try.prog call k (fAt Try.f3 [1,1,1,1,1,1,1,0,1,0,0,1,0,0,1])) (hBlock 3 (hSeq (gCode Try.prog call k (fAt Try.f3 [1,1,1,1,1,1,1,0,1,0,0,1,1])) (hLoop ag_l17 (hBlock 2 (hSeq (gCode Try.prog call k (fAt Try.f3 [1,1,1,1,1,1,1,1])) (hFin Try.prog Try.f3))))))) .normal) =
  onV (oIndexAddr Try.prog 26 x4 x7) fun v1 =>
  onV (oFieldAddr Try.prog 29 v1 1) fun v2 =>
  onV (gLoad Try.prog 3 v2 H) fun v3 =>
  onV ((oBin Try.prog .gtr 3 v3 (.int .i64 2047)).filter closed) fun v4 =>
  onBool (asB v4)
  (onV ((oBin Try.prog .add 3 x7 (.int .i64 1)).filter closed) fun v5 =>
  (sg_l17 x1 x4 (.int .i64 1) v5 H))
  (onV ((oBin Try.prog .add 3 x7 (.int .i64 1)).filter closed) fun v6 =>
  (sg_l17 x1 x4 x5 v6 H)) := by
  rw [s3_47]
  refine onV_c fun v1 => ?_
  refine onV_c fun v2 => ?_
  refine onV_c fun v3 => ?_
  refine onV_c fun v4 => ?_
  rw [hSeq_n]
  rw [n3_71]
  refine onBool_cc rfl ?_ ?_
  · rw [n3_75]
    rw [s3_48]
    rw [hBlock_n]
    rw [hSeq_n]
    rw [n3_76]
    rw [s3_49]
    refine onV_c fun v5 => ?_
    rw [hLoop_n]
    exact f3_l17_at h_l17
  · rw [n3_86]
    rw [hBlock_n]
    rw [hSeq_n]
    rw [n3_76]
    rw [s3_50]
    refine onV_c fun v6 => ?_
    rw [hLoop_n]
    exact f3_l17_at h_l17
theorem f3_g19_23_eq (call : Handle) (k : Nat) (ag_l17 : GA → GH → M (Value × GH)) (sg_l17 : Value → Value → Value → Value → GH → M (Value × GH)) (h_l17 : f3_l17_P ag_l17 sg_l17) : gOps Try.prog 0 call (opsAt (fAt Try.f3 [1,1,1,1,1,1,1,0,1,0,0,1,0,0,0])) ((opsAt (fAt Try.f3 [1,1,1,1,1,1,1,0,1,0,0,1,0,0,0])).drop 23) (x0::x1::x2::x3::x4::x5::x6::x7::x8::x9::x10::x11::x12::x13::x14::x15::x16::x17::x18::x19::x20::x21::x22::x23::x24::x25::x26::x27::x28::x29::x30::x31::x32::x33::x34::x35::x36::x37::x38::x39::x40::x41::x42::x43::x44::x45::x46::x47::x48::x49::x50::x51::x52::x53::x54::x55::x56::x57::x58::x59::x60::x61::x62::x63::x64::x65::x66::x67::x68::x69::x70::x71::x72::x73::x74::x75::x76::x77::x78::x79::x80::x81::x82::x83::x84::x85::x86::x87::x88::x89::x90::x91::x92::x93::x94::x95::x96::x97::x98::x99::x100::x101::x102::x103::x104::x105::x106::x107::x108::x109::x110::x111::x112::x113::x114::x115::x116::x117::x118::x119::x120::x121::x122::x123::x124::x125::x126::x127::x128::x129::x130::x131::x132::x133::x134::x135::x136::x137::x138::x139::x140::x141::x142::x143::x144::x145::x146::x147::x148::x149::x150::x151::x152::x153::x154::x155::x156::x157::x158::x159::x160::x161::x162::x163::x164::x165::x166::x167::x168::x169::x170::x171::x172::x173::[]) H ((hSeq (gCode Try.prog call k (fAt Try.f3 [1,1,1,1,1,1,1,0,1,0,0,1,0,0,1])) (hBlock 3 (hSeq (gCode Try.prog call k (fAt Try.f3 [1,1,1,1,1,1,1,0,1,0,0,1,1])) (hLoop ag_l17 (hBlock 2 (hSeq (gCode Try.prog call k (fAt Try.f3 [1,1,1,1,1,1,1,1])) (hFin Try.prog Try.f3))))))) .normal) =
  f3_g19_23 call k sg_l17 x104 x1 x4 x5 x7 H := by
  cases x104 with
  | bool b => cases b with
    | true => exact f3_g19_23_true call k ag_l17 sg_l17 h_l17
    | false => exact f3_g19_23_false call k ag_l17 sg_l17 h_l17
  | _ => kernel_rfl
noncomputable def f3_g19_15 (call : Handle) (k : Nat) (sg_l17 : Value → Value → Value → Value → GH → M (Value × GH)) (x96 : Value) (x1 x4 x5 x7 : Value) (H : GH) : M (Value × GH) :=
 onBool (asB x96)
  ((f3_r18 call k (sg_l17) x1 x4 (.int .i64 1) x7 H))
  (onV (oIndexAddr Try.prog 26 x4 x7) fun v1 =>
  onV (oFieldAddr Try.prog 29 v1 1) fun v2 =>
  onV (gLoad Try.prog 3 v2 H) fun v3 =>
  onV ((oBin Try.prog .lss 3 v3 (.int .i64 0)).filter closed) fun v4 =>
  (f3_g19_23 call k (sg_l17) v4 x1 x4 x5 x7 H))
theorem f3_g19_15_true (call : Handle) (k : Nat) (ag_l17 : GA → GH → M (Value × GH)) (sg_l17 : Value → Value → Value → Value → GH → M (Value × GH)) (h_l17 : f3_l17_P ag_l17 sg_l17) : gOps Try.prog 0 call (opsAt (fAt Try.f3 [1,1,1,1,1,1,1,0,1,0,0,1,0,0,0])) ((opsAt (fAt Try.f3 [1,1,1,1,1,1,1,0,1,0,0,1,0,0,0])).drop 15) (x0::x1::x2::x3::x4::x5::x6::x7::x8::x9::x10::x11::x12::x13::x14::x15::x16::x17::x18::x19::x20::x21::x22::x23::x24::x25::x26::x27::x28::x29::x30::x31::x32::x33::x34::x35::x36::x37::x38::x39::x40::x41::x42::x43::x44::x45::x46::x47::x48::x49::x50::x51::x52::x53::x54::x55::x56::x57::x58::x59::x60::x61::x62::x63::x64::x65::x66::x67::x68::x69::x70::x71::x72::x73::x74::x75::x76::x77::x78::x79::x80::x81::x82::x83::x84::x85::x86::x87::x88::x89::x90::x91::x92::x93::x94::x95::(.bool true)::x97::x98::x99::x100::x101::x102::x103::x104::x105::x106::x107::x108::x109::x110::x111::x112::x113::x114::x115::x116::x117::x118::x119::x120::x121::x122::x123::x124::x125::x126::x127::x128::x129::x130::x131::x132::x133::x134::x135::x136::x137::x138::x139::x140::x141::x142::x143::x144::x145::x146::x147::x148::x149::x150::x151::x152::x153::x154::x155::x156::x157::x158::x159::x160::x161::x162::x163::x164::x165::x166::x167::x168::x169::x170::x171::x172::x173::[]) H ((hSeq (gCode Try.prog call k (fAt Try.f3 [1,1,1,1,1,1,1,0,1,0,0,1,0,0,1])) (hBlock 3 (hSeq (gCode Try.prog call k (fAt Try.f3 [1,1,1,1,1,1,1,0,1,0,0,1,1])) (hLoop ag_l17 (hBlock 2 (hSeq (gCode Try.prog call k (fAt Try.f3 [1,1,1,1,1,1,1,1])) (hFin Try.prog Try.f3))))))) .normal) =
  (f3_r18 call k (sg_l17) x1 x4 (.int .i64 1) x7 H) := by
  rw [s3_37]
  rw [hSeq_n]
  rw [n3_71]
  refine (onBool_tt rfl).trans ?_
  rw [n3_75]
  rw [s3_38]
  rw [hBlock_n]
  rw [hSeq_n]
  exact f3_r18_eq call k ag_l17 sg_l17 h_l17
theorem f3_g19_15_false (call : Handle) (k : Nat) (ag_l17 : GA → GH → M (Value × GH)) (sg_l17 : Value → Value → Value → Value → GH → M (Value × GH)) (h_l17 : f3_l17_P ag_l17 sg_l17) : gOps Try.prog 0 call (opsAt (fAt Try.f3 [1,1,1,1,1,1,1,0,1,0,0,1,0,0,0])) ((opsAt (fAt Try.f3 [1,1,1,1,1,1,1,0,1,0,0,1,0,0,0])).drop 15) (x0::x1::x2::x3::x4::x5::x6::x7::x8::x9::x10::x11::x12::x13::x14::x15::x16::x17::x18::x19::x20::x21::x22::x23::x24::x25::x26::x27::x28::x29::x30::x31::x32::x33::x34::x35::x36::x37::x38::x39::x40::x41::x42::x43::x44::x45::x46::x47::x48::x49::x50::x51::x52::x53::x54::x55::x56::x57::x58::x59::x60::x61::x62::x63::x64::x65::x66::x67::x68::x69::x70::x71::x72::x73::x74::x75::x76::x77::x78::x79::x80::x81::x82::x83::x84::x85::x86::x87::x88::x89::x90::x91::x92::x93::x94::x95::(.bool false)::x97::x98::x99::x100::x101::x102::x103::x104::x105::x106::x107::x108::x109::x110::x111::x112::x113::x114::x115::x116::x117::x118::x119::x120::x121::x122::x123::x124::x125::x126::x127::x128::x129::x130::x131::x132::x133::x134::x135::x136::x137::x138::x139::x140::x141::x142::x143::x144::x145::x146::x147::x148::x149::x150::x151::x152::x153::x154::x155::x156::x157::x158::x159::x160::x161::x162::x163::x164::x165::x166::x167::x168::x169::x170::x171::x172::x173::[]) H ((hSeq (gCode Try.prog call k (fAt Try.f3 [1,1,1,1,1,1,1,0,1,0,0,1,0,0,1])) (hBlock 3 (hSeq (gCode Try.prog call k (fAt Try.f3 [1,1,1,1,1,1,1,0,1,0,0,1,1])) (hLoop ag_l17 (hBlock 2 (hSeq (gCode Try.prog call k (fAt Try.f3 [1,1,1,1,1,1,1,1])) (hFin Try.prog Try.f3))))))) .normal) =
  onV (oIndexAddr Try.prog 26 x4 x7) fun v1 =>
  onV (oFieldAddr Try.prog 29 v1 1) fun v2 =>
  onV (gLoad Try.prog 3 v2 H) fun v3 =>
  onV ((oBin Try.prog .lss 3 v3 (.int .i64 0)).filter closed) fun v4 =>
  (f3_g19_23 call k (sg_l17) v4 x1 x4 x5 x7 H) := by
  rw [gOps_split 15 8, s3_39]
  refine onV_c fun v1 => ?_
  refine onV_c fun v2 => ?_
  refine onV_c fun v3 => ?_
  refine onV_c fun v4 => ?_
  exact f3_g19_23_eq call k ag_l17 sg_l17 h_l17
theorem f3_g19_15_eq (call : Handle) (k : Nat) (ag_l17 : GA → GH → M (Value × GH)) (sg_l17 : Value → Value → Value → Value → GH → M (Value × GH)) (h_l17 : f3_l17_P ag_l17 sg_l17) : gOps Try.prog 0 call (opsAt (fAt Try.f3 [1,1,1,1,1,1,1,0,1,0,0,1,0,0,0])) ((opsAt (fAt Try.f3 [1,1,1,1,1,1,1,0,1,0,0,1,0,0,0])).drop 15) (x0::x1::x2::x3::x4::x5::x6::x7::x8::x9::x10::x11::x12::x13::x14::x15::x16::x17::x18::x19::x20::x21::x22::x23::x24::x25::x26::x27::x28::x29::x30::x31::x32::x33::x34::x35::x36::x37::x38::x39::x40::x41::x42::x43::x44::x45::x46::x47::x48::x49::x50::x51::x52::x53::x54::x55::x56::x57::x58::x59::x60::x61::x62::x63::x64::x65::x66::x67::x68::x69::x70::x71::x72::x73::x74::x75::x76::x77::x78::x79::x80::x81::x82::x83::x84::x85::x86::x87::x88::x89::x90::x91::x92::x93::x94::x95::x96::x97::x98::x99::x100::x101::x102::x103::x104::x105::x106::x107::x108::x109::x110::x111::x112::x113::x114::x115::x116::x117::x118::x119::x120::x121::x122::x123::x124::x125::x126::x127::x128::x129::x130::x131::x132::x133::x134::x135::x136::x137::x138::x139::x140::x141::x142::x143::x144::x145::x146::x147::x148::x149::x150::x151::x152::x153::x154::x155::x156::x157::x158::x159::x160::x161::x162::x163::x164::x165::x166::x167::x168::x169::x170::x171::x172::x173::[]) H ((hSeq (gCode Try.prog call k (fAt Try.f3 [1,1,1,1,1,1,1,0,1,0,0,1,0,0,1])) (hBlock 3 (hSeq (gCode Try.prog call k (fAt Try.f3 [1,1,1,1,1,1,1,0,1,0,0,1,1])) (hLoop ag_l17 (hBlock 2 (hSeq (gCode Try.prog call k (fAt Try.f3 [1,1,1,1,1,1,1,1])) (hFin Try.prog Try.f3))))))) .normal) =
  f3_g19_15 call k sg_l17 x96 x1 x4 x5 x7 H := by
  cases x96 with
  | bool b => cases b with
    | true => exact f3_g19_15_true call k ag_l17 sg_l17 h_l17
    | false => exact f3_g19_15_false call k ag_l17 sg_l17 h_l17
  | _ => kernel_rfl
noncomputable def f3_g19_7 (call : Handle) (k : Nat) (sg_l17 : Value → Value → Value → Value → GH → M (Value × GH)) (x88 : Value) (x1 x4 x5 x7 : Value) (H : GH) : M (Value × GH) :=
 onBool (asB x88)
  ((f3_r20 call k (sg_l17) x1 x4 x7 H))
  (onV (oIndexAddr Try.prog 26 x4 x7) fun v1 =>
  onV (oFieldAddr Try.prog 29 v1 0) fun v2 =>
  onV (gLoad Try.prog 5 v2 H) fun v3 =>
  onV ((oBin Try.prog .gtr 5 v3 (.int .u8 6)).filter closed) fun v4 =>
  (f3_g19_15 call k (sg_l17) v4 x1 x4 x5 x7 H))
theorem f3_g19_7_true (call : Handle) (k : Nat) (ag_l17 : GA → GH → M (Value × GH)) (sg_l17 : Value → Value → Value → Value → GH → M (Value × GH)) (h_l17 : f3_l17_P ag_l17 sg_l17) : gOps Try.prog 0 call (opsAt (fAt Try.f3 [1,1,1,1,1,1,1,0,1,0,0,1,0,0,0])) ((opsAt (fAt Try.f3 [1,1,1,1,1,1,1,0,1,0,0,1,0,0,0])).drop 7) (x0::x1::x2::x3::x4::x5::x6::x7::x8::x9::x10::x11::x12::x13::x14::x15::x16::x17::x18::x19::x20::x21::x22::x23::x24::x25::x26::x27::x28::x29::x30::x31::x32::x33::x34::x35::x36::x37::x38::x39::x40::x41::x42::x43::x44::x45::x46::x47::x48::x49::x50::x51::x52::x53::x54::x55::x56::x57::x58::x59::x60::x61::x62::x63::x64::x65::x66::x67::x68::x69::x70::x71::x72::x73::x74::x75::x76::x77::x78::x79::x80::x81::x82::x83::x84::x85::x86::x87::(.bool true)::x89::x90::x91::x92::x93::x94::x95::x96::x97::x98::x99::x100::x101::x102::x103::x104::x105::x106::x107::x108::x109::x110::x111::x112::x113::x114::x115::x116::x117::x118::x119::x120::x121::x122::x123::x124::x125::x126::x127::x128::x129::x130::x131::x132::x133::x134::x135::x136::x137::x138::x139::x140::x141::x142::x143::x144::x145::x146::x147::x148::x149::x150::x151::x152::x153::x154::x155::x156::x157::x158::x159::x160::x161::x162::x163::x164::x165::x166::x167::x168::x169::x170::x171::x172::x173::[]) H ((hSeq (gCode Try.prog call k (fAt Try.f3 [1,1,1,1,1,1,1,0,1,0,0,1,0,0,1])) (hBlock 3 (hSeq (gCode Try.prog call k (fAt Try.f3 [1,1,1,1,1,1,1,0,1,0,0,1,1])) (hLoop ag_l17 (hBlock 2 (hSeq (gCode Try.prog call k (fAt Try.f3 [1,1,1,1,1,1,1,1])) (hFin Try.prog Try.f3))))))) .normal) =
  (f3_r20 call k (sg_l17) x1 x4 x7 H) := by
  rw [s3_32]
  rw [hSeq_n]
  rw [n3_71]
  refine (onBool_tt rfl).trans ?_
  exact f3_r20_eq call k ag_l17 sg_l17 h_l17
theorem f3_g19_7_false (call : Handle) (k : Nat) (ag_l17 : GA → GH → M (Value × GH)) (sg_l17 : Value → Value → Value → Value → GH → M (Value × GH)) (h_l17 : f3_l17_P ag_l17 sg_l17) : gOps Try.prog 0 call (opsAt (fAt Try.f3 [1,1,1,1,1,1,1,0,1,0,0,1,0,0,0])) ((opsAt (fAt Try.f3 [1,1,1,1,1,1,1,0,1,0,0,1,0,0,0])).drop 7) (x0::x1::x2::x3::x4::x5::x6::x7::x8::x9::x10::x11::x12::x13::x14::x15::x16::x17::x18::x19::x20::x21::x22::x23::x24::x25::x26::x27::x28::x29::x30::x31::x32::x33::x34::x35::x36::x37::x38::x39::x40::x41::x42::x43::x44::x45::x46::x47::x48::x49::x50::x51::x52::x53::x54::x55::x56::x57::x58::x59::x60::x61::x62::x63::x64::x65::x66::x67::x68::x69::x70::x71::x72::x73::x74::x75::x76::x77::x78::x79::x80::x81::x82::x83::x84::x85::x86::x87::(.bool false)::x89::x90::x91::x92::x93::x94::x95::x96::x97::x98::x99::x100::x101::x102::x103::x104::x105::x106::x107::x108::x109::x110::x111::x112::x113::x114::x115::x116::x117::x118::x119::x120::x121::x122::x123::x124::x125::x126::x127::x128::x129::x130::x131::x132::x133::x134::x135::x136::x137::x138::x139::x140::x141::x142::x143::x144::x145::x146::x147::x148::x149::x150::x151::x152::x153::x154::x155::x156::x157::x158::x159::x160::x161::x162::x163::x164::x165::x166::x167::x168::x169::x170::x171::x172::x173::[]) H ((hSeq (gCode Try.prog call k (fAt Try.f3 [1,1,1,1,1,1,1,0,1,0,0,1,0,0,1])) (hBlock 3 (hSeq (gCode Try.prog call k (fAt Try.f3 [1,1,1,1,1,1,1,0,1,0,0,1,1])) (hLoop ag_l17 (hBlock 2 (hSeq (gCode Try.prog call k (fAt Try.f3 [1,1,1,1,1,1,1,1])) (hFin Try.prog Try.f3))))))) .normal) =
  onV (oIndexAddr Try.prog 26 x4 x7) fun v1 =>
  onV (oFieldAddr Try.prog 29 v1 0) fun v2 =>
  onV (gLoad Try.prog 5 v2 H) fun v3 =>
  onV ((oBin Try.prog .gtr 5 v3 (.int .u8 6)).filter closed) fun v4 =>
  (f3_g19_15 call k (sg_l17) v4 x1 x4 x5 x7 H) := by
  rw [gOps_split 7 8, s3_33]
  refine onV_c fun v1 => ?_
  refine onV_c fun v2 => ?_
  refine onV_c fun v3 => ?_
  refine onV_c fun v4 => ?_
  exact f3_g19_15_eq call k ag_l17 sg_l17 h_l17
theorem f3_g19_7_eq (call : Handle) (k : Nat) (ag_l17 : GA → GH → M (Value × GH)) (sg_l17 : Value → Value → Value → Value → GH → M (Value × GH)) (h_l17 : f3_l17_P ag_l17 sg_l17) : gOps Try.prog 0 call (opsAt (fAt Try.f3 [1,1,1,1,1,1,1,0,1,0,0,1,0,0,0])) ((opsAt (fAt Try.f3 [1,1,1,1,1,1,1,0,1,0,0,1,0,0,0])).drop 7) (x0::x1::x2::x3::x4::x5::x6::x7::x8::x9::x10::x11::x12::x13::x14::x15::x16::x17::x18::x19::x20::x21::x22::x23::x24::x25::x26::x27::x28::x29::x30::x31::x32::x33::x34::x35::x36::x37::x38::x39::x40::x41::x42::x43::x44::x45::x46::x47::x48::x49::x50::x51::x52::x53::x54::x55::x56::x57::x58::x59::x60::x61::x62::x63::x64::x65::x66::x67::x68::x69::x70::x71::x72::x73::x74::x75::x76::x77::x78::x79::x80::x81::x82::x83::x84::x85::x86::x87::x88::x89::x90::x91::x92::x93::x94::x95::x96::x97::x98::x99::x100::x101::x102::x103::x104::x105::x106::x107::x108::x109::x110::x111::x112::x113::x114::x115::x116::x117::x118::x119::x120::x121::x122::x123::x124::x125::x126::x127::x128::x129::x130::x131::x132::x133::x134::x135::x136::x137::x138::x139::x140::x141::x142::x143::x144::x145::x146::x147::x148::x149::x150::x151::x152::x153::x154::x155::x156::x157::x158::x159::x160::x161::x162::x163::x164::x165::x166::x167::x168::x169::x170::x171::x172::x173::[]) H ((hSeq (gCode Try.prog call k (fAt Try.f3 [1,1,1,1,1,1,1,0,1,0,0,1,0,0,1])) (hBlock 3 (hSeq (gCode Try.prog call k (fAt Try.f3 [1,1,1,1,1,1,1,0,1,0,0,1,1])) (hLoop ag_l17 (hBlock 2 (hSeq (gCode Try.prog call k (fAt Try.f3 [1,1,1,1,1,1,1,1])) (hFin Try.prog Try.f3))))))) .normal) =
  f3_g19_7 call k sg_l17 x88 x1 x4 x5 x7 H := by
  cases x88 with
  | bool b => cases b with
    | true => exact f3_g19_7_true call k ag_l17 sg_l17 h_l17
    | false => exact f3_g19_7_false call k ag_l17 sg_l17 h_l17
  | _ => kernel_rfl
noncomputable def f3_r19 (call : Handle) (k : Nat) (sg_l17 : Value → Value → Value → Value → GH → M (Value × GH)) (x1 x4 x5 x7 : Value) (H : GH) : M (Value × GH) :=
  onV (oIndexAddr Try.prog 26 x4 x7) fun v1 =>
  onV (oFieldAddr Try.prog 29 v1 0) fun v2 =>
  onV (gLoad Try.prog 5 v2 H) fun v3 =>
  onV ((oBin Try.prog .lss 5 v3 (.int .u8 1)).filter closed) fun v4 =>
  (f3_g19_7 call k (sg_l17) v4 x1 x4 x5 x7 H)
theorem f3_r19_eq (call : Handle) (k : Nat) (ag_l17 : GA → GH → M (Value × GH)) (sg_l17 : Value → Value → Value → Value → GH → M (Value × GH)) (h_l17 : f3_l17_P ag_l17 sg_l17) : gCode Try.prog call k (fAt Try.f3 [1,1,1,1,1,1,1,0,1,0,0,1,0,0,0]) (x0::x1::x2::x3::x4::x5::x6::x7::x8::x9::x10::x11::x12::x13::x14::x15::x16::x17::x18::x19::x20::x21::x22::x23::x24::x25::x26::x27::x28::x29::x30::x31::x32::x33::x34::x35::x36::x37::x38::x39::x40::x41::x42::x43::x44::x45::x46::x47::x48::x49::x50::x51::x52::x53::x54::x55::x56::x57::x58::x59::x60::x61::x62::x63::x64::x65::x66::x67::x68::x69::x70::x71::x72::x73::x74::x75::x76::x77::x78::x79::x80::x81::x82::x83::x84::x85::x86::x87::x88::x89::x90::x91::x92::x93::x94::x95::x96::x97::x98::x99::x100::x101::x102::x103::x104::x105::x106::x107::x108::x109::x110::x111::x112::x113::x114::x115::x116::x117::x118::x119::x120::x121::x122::x123::x124::x125::x126::x127::x128::x129::x130::x131::x132::x133::x134::x135::x136::x137::x138::x139::x140::x141::x142::x143::x144::x145::x146::x147::x148::x149::x150::x151::x152::x153::x154::x155::x156::x157::x158::x159::x160::x161::x162::x163::x164::x165::x166::x167::x168::x169::x170::x171::x172::x173::[]) H (hSeq (gCode Try.prog call k (fAt Try.f3 [1,1,1,1,1,1,1,0,1,0,0,1,0,0,1])) (hBlock 3 (hSeq (gCode Try.prog call k (fAt Try.f3 [1,1,1,1,1,1,1,0,1,0,0,1,1])) (hLoop ag_l17 (hBlock 2 (hSeq (gCode Try.prog call k (fAt Try.f3 [1,1,1,1,1,1,1,1])) (hFin Try.prog Try.f3))))))) = f3_r19 call k sg_l17 x1 x4 x5 x7 H := by
  unfold f3_r19
  rw [n3_65]
  rw [gOps_split 0 7, s3_30]
  refine onV_c fun v1 => ?_
  refine onV_c fun v2 => ?_
  refine onV_c fun v3 => ?_
  refine onV_c fun v4 => ?_
  exact f3_g19_7_eq call k ag_l17 sg_l17 h_l17
noncomputable def f3_g34_9 (call : Handle) (k : Nat) (x163 : Value) (H : GH) : M (Value × GH) :=
 onBool (asB x163)
  (onCall 0 call (.func (.func 8) #[] #[]) [] H fun v1 H2 =>
  some [(v1, H2)])
  (some [((.bool false), H)])
theorem f3_g34_9_true (call : Handle) (k : Nat) : gOps Try.prog 0 call (opsAt (fAt Try.f3 [1,1,1,1,1,1,1,1,1,1,0,1,0,1,1,0])) ((opsAt (fAt Try.f3 [1,1,1,1,1,1,1,1,1,1,0,1,0,1,1,0])).drop 9) (x0::x1::x2::x3::x4::x5::x6::x7::x8::x9::x10::x11::x12::x13::x14::x15::x16::x17::x18::x19::x20::x21::x22::x23::x24::x25::x26::x27::x28::x29::x30::x31::x32::x33::x34::x35::x36::x37::x38::x39::x40::x41::x42::x43::x44::x45::x46::x47::x48::x49::x50::x51::x52::x53::x54::x55::x56::x57::x58::x59::x60::x61::x62::x63::x64::x65::x66::x67::x68::x69::x70::x71::x72::x73::x74::x75::x76::x77::x78::x79::x80::x81::x82::x83::x84::x85::x86::x87::x88::x89::x90::x91::x92::x93::x94::x95::x96::x97::x98::x99::x100::x101::x102::x103::x104::x105::x106::x107::x108::x109::x110::x111::x112::x113::x114::x115::x116::x117::x118::x119::x120::x121::x122::x123::x124::x125::x126::x127::x128::x129::x130::x131::x132::x133::x134::x135::x136::x137::x138::x139::x140::x141::x142::x143::x144::x145::x146::x147::x148::x149::x150::x151::x152::x153::x154::x155::x156::x157::x158::x159::x160::x161::x162::(.bool true)::x164::x165::x166::x167::x168::x169::x170::x171::x172::x173::[]) H ((hSeq (gCode Try.prog call k (fAt Try.f3 [1,1,1,1,1,1,1,1,1,1,0,1,0,1,1,1])) (hSeq (gCode Try.prog call k (fAt Try.f3 [1,1,1,1,1,1,1,1,1,1,1])) (hFin Try.prog Try.f3))) .normal) =
  onCall 0 call (.func (.func 8) #[] #[]) [] H fun v1 H2 =>
  some [(v1, H2)] := by
  rw [s3_68]
  refine onCall_c fun v1 H2 => ?_
  rw [hSeq_n]
  rw [n3_124]
  rw [hSeq_r]
  exact fin3_ret
theorem f3_g34_9_false (call : Handle) (k : Nat) : gOps Try.prog 0 call (opsAt (fAt Try.f3 [1,1,1,1,1,1,1,1,1,1,0,1,0,1,1,0])) ((opsAt (fAt Try.f3 [1,1,1,1,1,1,1,1,1,1,0,1,0,1,1,0])).drop 9) (x0::x1::x2::x3::x4::x5::x6::x7::x8::x9::x10::x11::x12::x13::x14::x15::x16::x17::x18::x19::x20::x21::x22::x23::x24::x25::x26::x27::x28::x29::x30::x31::x32::x33::x34::x35::x36::x37::x38::x39::x40::x41::x42::x43::x44::x45::x46::x47::x48::x49::x50::x51::x52::x53::x54::x55::x56::x57::x58::x59::x60::x61::x62::x63::x64::x65::x66::x67::x68::x69::x70::x71::x72::x73::x74::x75::x76::x77::x78::x79::x80::x81::x82::x83::x84::x85::x86::x87::x88::x89::x90::x91::x92::x93::x94::x95::x96::x97::x98::x99::x100::x101::x102::x103::x104::x105::x106::x107::x108::x109::x110::x111::x112::x113::x114::x115::x116::x117::x118::x119::x120::x121::x122::x123::x124::x125::x126::x127::x128::x129::x130::x131::x132::x133::x134::x135::x136::x137::x138::x139::x140::x141::x142::x143::x144::x145::x146::x147::x148::x149::x150::x151::x152::x153::x154::x155::x156::x157::x158::x159::x160::x161::x162::(.bool false)::x164::x165::x166::x167::x168::x169::x170::x171::x172::x173::[]) H ((hSeq (gCode Try.prog call k (fAt Try.f3 [1,1,1,1,1,1,1,1,1,1,0,1,0,1,1,1])) (hSeq (gCode Try.prog call k (fAt Try.f3 [1,1,1,1,1,1,1,1,1,1,1])) (hFin Try.prog Try.f3))) .normal) =
  some [((.bool false), H)] := by
  rw [s3_69]
  rw [hSeq_n]
  rw [n3_124]
  rw [hSeq_r]
  exact fin3_ret
theorem f3_g34_9_eq (call : Handle) (k : Nat) : gOps Try.prog 0 call (opsAt (fAt Try.f3 [1,1,1,1,1,1,1,1,1,1,0,1,0,1,1,0])) ((opsAt (fAt Try.f3 [1,1,1,1,1,1,1,1,1,1,0,1,0,1,1,0])).drop 9) (x0::x1::x2::x3::x4::x5::x6::x7::x8::x9::x10::x11::x12::x13::x14::x15::x16::x17::x18::x19::x20::x21::x22::x23::x24::x25::x26::x27::x28::x29::x30::x31::x32::x33::x34::x35::x36::x37::x38::x39::x40::x41::x42::x43::x44::x45::x46::x47::x48::x49::x50::x51::x52::x53::x54::x55::x56::x57::x58::x59::x60::x61::x62::x63::x64::x65::x66::x67::x68::x69::x70::x71::x72::x73::x74::x75::x76::x77::x78::x79::x80::x81::x82::x83::x84::x85::x86::x87::x88::x89::x90::x91::x92::x93::x94::x95::x96::x97::x98::x99::x100::x101::x102::x103::x104::x105::x106::x107::x108::x109::x110::x111::x112::x113::x114::x115::x116::x117::x118::x119::x120::x121::x122::x123::x124::x125::x126::x127::x128::x129::x130::x131::x132::x133::x134::x135::x136::x137::x138::x139::x140::x141::x142::x143::x144::x145::x146::x147::x148::x149::x150::x151::x152::x153::x154::x155::x156::x157::x158::x159::x160::x161::x162::x163::x164::x165::x166::x167::x168::x169::x170::x171::x172::x173::[]) H ((hSeq (gCode Try.prog call k (fAt Try.f3 [1,1,1,1,1,1,1,1,1,1,0,1,0,1,1,1])) (hSeq (gCode Try.prog call k (fAt Try.f3 [1,1,1,1,1,1,1,1,1,1,1])) (hFin Try.prog Try.f3))) .normal) =
  f3_g34_9 call k x163 H := by
  cases x163 with
  | bool b => cases b with
    | true => exact f3_g34_9_true call k
    | false => exact f3_g34_9_false call k
  | _ => kernel_rfl
noncomputable def f3_g34_4 (call : Handle) (k : Nat) (x158 : Value) (x5 x13 : Value) (H : GH) : M (Value × GH) :=
 onBool (asB x158)
  (onV ((oBin Try.prog .eql 27 x13 x5).filter closed) fun v1 =>
  (f3_g34_9 call k v1 H))
  (some [((.bool false), H)])
theorem f3_g34_4_true (call : Handle) (k : Nat) : gOps Try.prog 0 call (opsAt (fAt Try.f3 [1,1,1,1,1,1,1,1,1,1,0,1,0,1,1,0])) ((opsAt (fAt Try.f3 [1,1,1,1,1,1,1,1,1,1,0,1,0,1,1,0])).drop 4) (x0::x1::x2::x3::x4::x5::x6::x7::x8::x9::x10::x11::x12::x13::x14::x15::x16::x17::x18::x19::x20::x21::x22::x23::x24::x25::x26::x27::x28::x29::x30::x31::x32::x33::x34::x35::x36::x37::x38::x39::x40::x41::x42::x43::x44::x45::x46::x47::x48::x49::x50::x51::x52::x53::x54::x55::x56::x57::x58::x59::x60::x61::x62::x63::x64::x65::x66::x67::x68::x69::x70::x71::x72::x73::x74::x75::x76::x77::x78::x79::x80::x81::x82::x83::x84::x85::x86::x87::x88::x89::x90::x91::x92::x93::x94::x95::x96::x97::x98::x99::x100::x101::x102::x103::x104::x105::x106::x107::x108::x109::x110::x111::x112::x113::x114::x115::x116::x117::x118::x119::x120::x121::x122::x123::x124::x125::x126::x127::x128::x129::x130::x131::x132::x133::x134::x135::x136::x137::x138::x139::x140::x141::x142::x143::x144::x145::x146::x147::x148::x149::x150::x151::x152::x153::x154::x155::x156::x157::(.bool true)::x159::x160::x161::x162::x163::x164::x165::x166::x167::x168::x169::x170::x171::x172::x173::[]) H ((hSeq (gCode Try.prog call k (fAt Try.f3 [1,1,1,1,1,1,1,1,1,1,0,1,0,1,1,1])) (hSeq (gCode Try.prog call k (fAt Try.f3 [1,1,1,1,1,1,1,1,1,1,1])) (hFin Try.prog Try.f3))) .normal) =
  onV ((oBin Try.prog .eql 27 x13 x5).filter closed) fun v1 =>
  (f3_g34_9 call k v1 H) := by
  rw [gOps_split 4 5, s3_66]
  refine onV_c fun v1 => ?_
  exact f3_g34_9_eq call k
theorem f3_g34_4_false (call : Handle) (k : Nat) : gOps Try.prog 0 call (opsAt (fAt Try.f3 [1,1,1,1,1,1,1,1,1,1,0,1,0,1,1,0])) ((opsAt (fAt Try.f3 [1,1,1,1,1,1,1,1,1,1,0,1,0,1,1,0])).drop 4) (x0::x1::x2::x3::x4::x5::x6::x7::x8::x9::x10::x11::x12::x13::x14::x15::x16::x17::x18::x19::x20::x21::x22::x23::x24::x25::x26::x27::x28::x29::x30::x31::x32::x33::x34::x35::x36::x37::x38::x39::x40::x41::x42::x43::x44::x45::x46::x47::x48::x49::x50::x51::x52::x53::x54::x55::x56::x57::x58::x59::x60::x61::x62::x63::x64::x65::x66::x67::x68::x69::x70::x71::x72::x73::x74::x75::x76::x77::x78::x79::x80::x81::x82::x83::x84::x85::x86::x87::x88::x89::x90::x91::x92::x93::x94::x95::x96::x97::x98::x99::x100::x101::x102::x103::x104::x105::x106::x107::x108::x109::x110::x111::x112::x113::x114::x115::x116::x117::x118::x119::x120::x121::x122::x123::x124::x125::x126::x127::x128::x129::x130::x131::x132::x133::x134::x135::x136::x137::x138::x139::x140::x141::x142::x143::x144::x145::x146::x147::x148::x149::x150::x151::x152::x153::x154::x155::x156::x157::(.bool false)::x159::x160::x161::x162::x163::x164::x165::x166::x167::x168::x169::x170::x171::x172::x173::[]) H ((hSeq (gCode Try.prog call k (fAt Try.f3 [1,1,1,1,1,1,1,1,1,1,0,1,0,1,1,1])) (hSeq (gCode Try.prog call k (fAt Try.f3 [1,1,1,1,1,1,1,1,1,1,1])) (hFin Try.prog Try.f3))) .normal) =
  some [((.bool false), H)] := by
  rw [s3_67]
  rw [hSeq_n]
  rw [n3_124]
  rw [hSeq_r]
  exact fin3_ret
theorem f3_g34_4_eq (call : Handle) (k : Nat) : gOps Try.prog 0 call (opsAt (fAt Try.f3 [1,1,1,1,1,1,1,1,1,1,0,1,0,1,1,0])) ((opsAt (fAt Try.f3 [1,1,1,1,1,1,1,1,1,1,0,1,0,1,1,0])).drop 4) (x0::x1::x2::x3::x4::x5::x6::x7::x8::x9::x10::x11::x12::x13::x14::x15::x16::x17::x18::x19::x20::x21::x22::x23::x24::x25::x26::x27::x28::x29::x30::x31::x32::x33::x34::x35::x36::x37::x38::x39::x40::x41::x42::x43::x44::x45::x46::x47::x48::x49::x50::x51::x52::x53::x54::x55::x56::x57::x58::x59::x60::x61::x62::x63::x64::x65::x66::x67::x68::x69::x70::x71::x72::x73::x74::x75::x76::x77::x78::x79::x80::x81::x82::x83::x84::x85::x86::x87::x88::x89::x90::x91::x92::x93::x94::x95::x96::x97::x98::x99::x100::x101::x102::x103::x104::x105::x106::x107::x108::x109::x110::x111::x112::x113::x114::x115::x116::x117::x118::x119::x120::x121::x122::x123::x124::x125::x126::x127::x128::x129::x130::x131::x132::x133::x134::x135::x136::x137::x138::x139::x140::x141::x142::x143::x144::x145::x146::x147::x148::x149::x150::x151::x152::x153::x154::x155::x156::x157::x158::x159::x160::x161::x162::x163::x164::x165::x166::x167::x168::x169::x170::x171::x172::x173::[]) H ((hSeq (gCode Try.prog call k (fAt Try.f3 [1,1,1,1,1,1,1,1,1,1,0,1,0,1,1,1])) (hSeq (gCode Try.prog call k (fAt Try.f3 [1,1,1,1,1,1,1,1,1,1,1])) (hFin Try.prog Try.f3))) .normal) =
  f3_g34_4 call k x158 x5 x13 H := by
  cases x158 with
  | bool b => cases b with
    | true => exact f3_g34_4_true call k
    | false => exact f3_g34_4_false call k
  | _ => kernel_rfl
noncomputable def f3_r34 (call : Handle) (k : Nat) (x5 x11 x13 : Value) (H : GH) : M (Value × GH) :=
  onV ((oBin Try.prog .eql 27 x11 x5).filter closed) fun v1 =>
  (f3_g34_4 call k v1 x5 x13 H)
theorem f3_r34_eq (call : Handle) (k : Nat) : gCode Try.prog call k (fAt Try.f3 [1,1,1,1,1,1,1,1,1,1,0,1,0,1,1,0]) (x0::x1::x2::x3::x4::x5::x6::x7::x8::x9::x10::x11::x12::x13::x14::x15::x16::x17::x18::x19::x20::x21::x22::x23::x24::x25::x26::x27::x28::x29::x30::x31::x32::x33::x34::x35::x36::x37::x38::x39::x40::x41::x42::x43::x44::x45::x46::x47::x48::x49::x50::x51::x52::x53::x54::x55::x56::x57::x58::x59::x60::x61::x62::x63::x64::x65::x66::x67::x68::x69::x70::x71::x72::x73::x74::x75::x76::x77::x78::x79::x80::x81::x82::x83::x84::x85::x86::x87::x88::x89::x90::x91::x92::x93::x94::x95::x96::x97::x98::x99::x100::x101::x102::x103::x104::x105::x106::x107::x108::x109::x110::x111::x112::x113::x114::x115::x116::x117::x118::x119::x120::x121::x122::x123::x124::x125::x126::x127::x128::x129::x130::x131::x132::x133::x134::x135::x136::x137::x138::x139::x140::x141::x142::x143::x144::x145::x146::x147::x148::x149::x150::x151::x152::x153::x154::x155::x156::x157::x158::x159::x160::x161::x162::x163::x164::x165::x166::x167::x168::x169::x170::x171::x172::x173::[]) H (hSeq (gCode Try.prog call k (fAt Try.f3 [1,1,1,1,1,1,1,1,1,1,0,1,0,1,1,1])) (hSeq (gCode Try.prog call k (fAt Try.f3 [1,1,1,1,1,1,1,1,1,1,1])) (hFin Try.prog Try.f3))) = f3_r34 call k x5 x11 x13 H := by
  unfold f3_r34
  rw [n3_123]
  rw [gOps_split 0 4, s3_65]
  refine onV_c fun v1 => ?_
  exact f3_g34_4_eq call k
noncomputable def f3_r33 (call : Handle) (k : Nat) (x1 x5 x11 : Value) (H : GH) : M (Value × GH) :=
  onV (gLoad Try.prog 24 x1 H) fun v1 =>
  onCall 0 call (.func (.func 11) #[] #[]) [v1, (.agg #[(.int .u8 0), (.int .i64 1)]), (.agg #[(.int .u8 1), (.int .i64 1)])] H fun v2 H3 =>
  onV (oExtract v2 0) fun v4 =>
  onV (oExtract v2 1) fun v5 =>
  onH (gStore Try.prog 24 (.pointer (some ⟨H3.n, 0, none⟩)) v4 (GH.push H3 (.row [(.slice none 0 0), (.slice none 0 0)] 24 false))) fun H6 =>
  (f3_r34 call k x5 x11 v5 H6)
theorem f3_r33_eq (call : Handle) (k : Nat) : gCode Try.prog call k (fAt Try.f3 [1,1,1,1,1,1,1,1,1,1,0,1,0,1,0]) (x0::x1::x2::x3::x4::x5::x6::x7::x8::x9::x10::x11::x12::x13::x14::x15::x16::x17::x18::x19::x20::x21::x22::x23::x24::x25::x26::x27::x28::x29::x30::x31::x32::x33::x34::x35::x36::x37::x38::x39::x40::x41::x42::x43::x44::x45::x46::x47::x48::x49::x50::x51::x52::x53::x54::x55::x56::x57::x58::x59::x60::x61::x62::x63::x64::x65::x66::x67::x68::x69::x70::x71::x72::x73::x74::x75::x76::x77::x78::x79::x80::x81::x82::x83::x84::x85::x86::x87::x88::x89::x90::x91::x92::x93::x94::x95::x96::x97::x98::x99::x100::x101::x102::x103::x104::x105::x106::x107::x108::x109::x110::x111::x112::x113::x114::x115::x116::x117::x118::x119::x120::x121::x122::x123::x124::x125::x126::x127::x128::x129::x130::x131::x132::x133::x134::x135::x136::x137::x138::x139::x140::x141::x142::x143::x144::x145::x146::x147::x148::x149::x150::x151::x152::x153::x154::x155::x156::x157::x158::x159::x160::x161::x162::x163::x164::x165::x166::x167::x168::x169::x170::x171::x172::x173::[]) H (hSeq (gCode Try.prog call k (fAt Try.f3 [1,1,1,1,1,1,1,1,1,1,0,1,0,1,1])) (hSeq (gCode Try.prog call k (fAt Try.f3 [1,1,1,1,1,1,1,1,1,1,1])) (hFin Try.prog Try.f3))) = f3_r33 call k x1 x5 x11 H := by
  unfold f3_r33
  rw [n3_120]
  rw [s3_62]
  refine onV_c fun v1 => ?_
  refine onCall_c fun v2 H3 => ?_
  refine onV_c fun v4 => ?_
  refine onV_c fun v5 => ?_
  refine onH_c fun H6 => ?_
  rw [hSeq_n]
  rw [n3_121]
  exact f3_r34_eq call k
noncomputable def f3_r32 (call : Handle) (k : Nat) (x1 x5 : Value) (H : GH) : M (Value × GH) :=
  onV (gLoad Try.prog 24 x1 H) fun v1 =>
  onCall 0 call (.func (.func 10) #[] #[]) [v1, (.agg #[(.int .u8 0), (.int .i64 1)]), (.slice none 0 0)] H fun v2 H3 =>
  onV (oExtract v2 0) fun v4 =>
  onV (oExtract v2 1) fun v5 =>
  onH (gStore Try.prog 24 (.pointer (some ⟨H3.n, 0, none⟩)) v4 (GH.push H3 (.row [(.slice none 0 0), (.slice none 0 0)] 24 false))) fun H6 =>
  (f3_r33 call k x1 x5 v5 H6)
theorem f3_r32_eq (call : Handle) (k : Nat) : gCode Try.prog call k (fAt Try.f3 [1,1,1,1,1,1,1,1,1,1,0,1,0,0]) (x0::x1::x2::x3::x4::x5::x6::x7::x8::x9::x10::x11::x12::x13::x14::x15::x16::x17::x18::x19::x20::x21::x22::x23::x24::x25::x26::x27::x28::x29::x30::x31::x32::x33::x34::x35::x36::x37::x38::x39::x40::x41::x42::x43::x44::x45::x46::x47::x48::x49::x50::x51::x52::x53::x54::x55::x56::x57::x58::x59::x60::x61::x62::x63::x64::x65::x66::x67::x68::x69::x70::x71::x72::x73::x74::x75::x76::x77::x78::x79::x80::x81::x82::x83::x84::x85::x86::x87::x88::x89::x90::x91::x92::x93::x94::x95::x96::x97::x98::x99::x100::x101::x102::x103::x104::x105::x106::x107::x108::x109::x110::x111::x112::x113::x114::x115::x116::x117::x118::x119::x120::x121::x122::x123::x124::x125::x126::x127::x128::x129::x130::x131::x132::x133::x134::x135::x136::x137::x138::x139::x140::x141::x142::x143::x144::x145::x146::x147::x148::x149::x150::x151::x152::x153::x154::x155::x156::x157::x158::x159::x160::x161::x162::x163::x164::x165::x166::x167::x168::x169::x170::x171::x172::x173::[]) H (hSeq (gCode Try.prog call k (fAt Try.f3 [1,1,1,1,1,1,1,1,1,1,0,1,0,1])) (hSeq (gCode Try.prog call k (fAt Try.f3 [1,1,1,1,1,1,1,1,1,1,1])) (hFin Try.prog Try.f3))) = f3_r32 call k x1 x5 H := by
  unfold f3_r32
  rw [n3_117]
  rw [s3_60]
  refine onV_c fun v1 => ?_
  refine onCall_c fun v2 H3 => ?_
  refine onV_c fun v4 => ?_
  refine onV_c fun v5 => ?_
  refine onH_c fun H6 => ?_
  rw [hSeq_n]
  rw [n3_118]
  exact f3_r33_eq call k
noncomputable def f3_g35_6 (call : Handle) (k : Nat) (x171 : Value) (H : GH) : M (Value × GH) :=
 onBool (asB x171)
  (onCall 0 call (.func (.func 8) #[] #[]) [] H fun v1 H2 =>
  some [(v1, H2)])
  (some [((.bool false), H)])
theorem f3_g35_6_true (call : Handle) (k : Nat) : gOps Try.prog 0 call (opsAt (fAt Try.f3 [1,1,1,1,1,1,1,1,1,1,1,0])) ((opsAt (fAt Try.f3 [1,1,1,1,1,1,1,1,1,1,1,0])).drop 6) (x0::x1::x2::x3::x4::x5::x6::x7::x8::x9::x10::x11::x12::x13::x14::x15::x16::x17::x18::x19::x20::x21::x22::x23::x24::x25::x26::x27::x28::x29::x30::x31::x32::x33::x34::x35::x36::x37::x38::x39::x40::x41::x42::x43::x44::x45::x46::x47::x48::x49::x50::x51::x52::x53::x54::x55::x56::x57::x58::x59::x60::x61::x62::x63::x64::x65::x66::x67::x68::x69::x70::x71::x72::x73::x74::x75::x76::x77::x78::x79::x80::x81::x82::x83::x84::x85::x86::x87::x88::x89::x90::x91::x92::x93::x94::x95::x96::x97::x98::x99::x100::x101::x102::x103::x104::x105::x106::x107::x108::x109::x110::x111::x112::x113::x114::x115::x116::x117::x118::x119::x120::x121::x122::x123::x124::x125::x126::x127::x128::x129::x130::x131::x132::x133::x134::x135::x136::x137::x138::x139::x140::x141::x142::x143::x144::x145::x146::x147::x148::x149::x150::x151::x152::x153::x154::x155::x156::x157::x158::x159::x160::x161::x162::x163::x164::x165::x166::x167::x168::x169::x170::(.bool true)::x172::x173::[]) H ((hSeq (gCode Try.prog call k (fAt Try.f3 [1,1,1,1,1,1,1,1,1,1,1,1])) (hFin Try.prog Try.f3)) .normal) =
  onCall 0 call (.func (.func 8) #[] #[]) [] H fun v1 H2 =>
  some [(v1, H2)] := by
  rw [s3_63]
  refine onCall_c fun v1 H2 => ?_
  rw [hSeq_n]
  rw [n3_122]
  exact fin3_ret
theorem f3_g35_6_false (call : Handle) (k : Nat) : gOps Try.prog 0 call (opsAt (fAt Try.f3 [1,1,1,1,1,1,1,1,1,1,1,0])) ((opsAt (fAt Try.f3 [1,1,1,1,1,1,1,1,1,1,1,0])).drop 6) (x0::x1::x2::x3::x4::x5::x6::x7::x8::x9::x10::x11::x12::x13::x14::x15::x16::x17::x18::x19::x20::x21::x22::x23::x24::x25::x26::x27::x28::x29::x30::x31::x32::x33::x34::x35::x36::x37::x38::x39::x40::x41::x42::x43::x44::x45::x46::x47::x48::x49::x50::x51::x52::x53::x54::x55::x56::x57::x58::x59::x60::x61::x62::x63::x64::x65::x66::x67::x68::x69::x70::x71::x72::x73::x74::x75::x76::x77::x78::x79::x80::x81::x82::x83::x84::x85::x86::x87::x88::x89::x90::x91::x92::x93::x94::x95::x96::x97::x98::x99::x100::x101::x102::x103::x104::x105::x106::x107::x108::x109::x110::x111::x112::x113::x114::x115::x116::x117::x118::x119::x120::x121::x122::x123::x124::x125::x126::x127::x128::x129::x130::x131::x132::x133::x134::x135::x136::x137::x138::x139::x140::x141::x142::x143::x144::x145::x146::x147::x148::x149::x150::x151::x152::x153::x154::x155::x156::x157::x158::x159::x160::x161::x162::x163::x164::x165::x166::x167::x168::x169::x170::(.bool false)::x172::x173::[]) H ((hSeq (gCode Try.prog call k (fAt Try.f3 [1,1,1,1,1,1,1,1,1,1,1,1])) (hFin Try.prog Try.f3)) .normal) =
  some [((.bool false), H)] := by
  rw [s3_64]
  rw [hSeq_n]
  rw [n3_122]
  exact fin3_ret
theorem f3_g35_6_eq (call : Handle) (k : Nat) : gOps Try.prog 0 call (opsAt (fAt Try.f3 [1,1,1,1,1,1,1,1,1,1,1,0])) ((opsAt (fAt Try.f3 [1,1,1,1,1,1,1,1,1,1,1,0])).drop 6) (x0::x1::x2::x3::x4::x5::x6::x7::x8::x9::x10::x11::x12::x13::x14::x15::x16::x17::x18::x19::x20::x21::x22::x23::x24::x25::x26::x27::x28::x29::x30::x31::x32::x33::x34::x35::x36::x37::x38::x39::x40::x41::x42::x43::x44::x45::x46::x47::x48::x49::x50::x51::x52::x53::x54::x55::x56::x57::x58::x59::x60::x61::x62::x63::x64::x65::x66::x67::x68::x69::x70::x71::x72::x73::x74::x75::x76::x77::x78::x79::x80::x81::x82::x83::x84::x85::x86::x87::x88::x89::x90::x91::x92::x93::x94::x95::x96::x97::x98::x99::x100::x101::x102::x103::x104::x105::x106::x107::x108::x109::x110::x111::x112::x113::x114::x115::x116::x117::x118::x119::x120::x121::x122::x123::x124::x125::x126::x127::x128::x129::x130::x131::x132::x133::x134::x135::x136::x137::x138::x139::x140::x141::x142::x143::x144::x145::x146::x147::x148::x149::x150::x151::x152::x153::x154::x155::x156::x157::x158::x159::x160::x161::x162::x163::x164::x165::x166::x167::x168::x169::x170::x171::x172::x173::[]) H ((hSeq (gCode Try.prog call k (fAt Try.f3 [1,1,1,1,1,1,1,1,1,1,1,1])) (hFin Try.prog Try.f3)) .normal) =
  f3_g35_6 call k x171 H := by
  cases x171 with
  | bool b => cases b with
    | true => exact f3_g35_6_true call k
    | false => exact f3_g35_6_false call k
  | _ => kernel_rfl
noncomputable def f3_r35 (call : Handle) (k : Nat) (x1 x4 : Value) (H : GH) : M (Value × GH) :=
  onV (gLoad Try.prog 24 x1 H) fun v1 =>
  onCall 0 call (.func (.func 12) #[] #[]) [v1] H fun v2 H3 =>
  onV (oLen Try.prog 26 x4) fun v4 =>
  onV ((oBin Try.prog .eql 3 v2 v4).filter closed) fun v5 =>
  (f3_g35_6 call k v5 H3)
theorem f3_r35_eq (call : Handle) (k : Nat) : gCode Try.prog call k (fAt Try.f3 [1,1,1,1,1,1,1,1,1,1,1,0]) (x0::x1::x2::x3::x4::x5::x6::x7::x8::x9::x10::x11::x12::x13::x14::x15::x16::x17::x18::x19::x20::x21::x22::x23::x24::x25::x26::x27::x28::x29::x30::x31::x32::x33::x34::x35::x36::x37::x38::x39::x40::x41::x42::x43::x44::x45::x46::x47::x48::x49::x50::x51::x52::x53::x54::x55::x56::x57::x58::x59::x60::x61::x62::x63::x64::x65::x66::x67::x68::x69::x70::x71::x72::x73::x74::x75::x76::x77::x78::x79::x80::x81::x82::x83::x84::x85::x86::x87::x88::x89::x90::x91::x92::x93::x94::x95::x96::x97::x98::x99::x100::x101::x102::x103::x104::x105::x106::x107::x108::x109::x110::x111::x112::x113::x114::x115::x116::x117::x118::x119::x120::x121::x122::x123::x124::x125::x126::x127::x128::x129::x130::x131::x132::x133::x134::x135::x136::x137::x138::x139::x140::x141::x142::x143::x144::x145::x146::x147::x148::x149::x150::x151::x152::x153::x154::x155::x156::x157::x158::x159::x160::x161::x162::x163::x164::x165::x166::x167::x168::x169::x170::x171::x172::x173::[]) H (hSeq (gCode Try.prog call k (fAt Try.f3 [1,1,1,1,1,1,1,1,1,1,1,1])) (hFin Try.prog Try.f3)) = f3_r35 call k x1 x4 H := by
  unfold f3_r35
  rw [n3_119]
  rw [gOps_split 0 6, s3_61]
  refine onV_c fun v1 => ?_
  refine onCall_c fun v2 H3 => ?_
  refine onV_c fun v4 => ?_
  refine onV_c fun v5 => ?_
  exact f3_g35_6_eq call k
noncomputable def f3_r29 (call : Handle) (k : Nat) (x1 x4 x5 : Value) (H : GH) : M (Value × GH) :=
  onV (gLoad Try.prog 24 x1 H) fun v1 =>
  onCall 0 call (.func (.func 9) #[] #[]) [v1] H fun v2 H3 =>
  onV ((oBin Try.prog .neq 27 v2 x5).filter closed) fun v4 =>
  onBool (asB v4)
  (some [((.bool false), H3)])
  (onV ((oBin Try.prog .neq 27 x5 (.int .i64 0)).filter closed) fun v5 =>
  onBool (asB v5)
  ((f3_r32 call k x1 x5 H3))
  ((f3_r35 call k x1 x4 H3)))
theorem f3_r29_eq (call : Handle) (k : Nat) : gCode Try.prog call k (fAt Try.f3 [1,1,1,1,1,1,1,1,1]) (x0::x1::x2::x3::x4::x5::x6::x7::x8::x9::x10::x11::x12::x13::x14::x15::x16::x17::x18::x19::x20::x21::x22::x23::x24::x25::x26::x27::x28::x29::x30::x31::x32::x33::x34::x35::x36::x37::x38::x39::x40::x41::x42::x43::x44::x45::x46::x47::x48::x49::x50::x51::x52::x53::x54::x55::x56::x57::x58::x59::x60::x61::x62::x63::x64::x65::x66::x67::x68::x69::x70::x71::x72::x73::x74::x75::x76::x77::x78::x79::x80::x81::x82::x83::x84::x85::x86::x87::x88::x89::x90::x91::x92::x93::x94::x95::x96::x97::x98::x99::x100::x101::x102::x103::x104::x105::x106::x107::x108::x109::x110::x111::x112::x113::x114::x115::x116::x117::x118::x119::x120::x121::x122::x123::x124::x125::x126::x127::x128::x129::x130::x131::x132::x133::x134::x135::x136::x137::x138::x139::x140::x141::x142::x143::x144::x145::x146::x147::x148::x149::x150::x151::x152::x153::x154::x155::x156::x157::x158::x159::x160::x161::x162::x163::x164::x165::x166::x167::x168::x169::x170::x171::x172::x173::[]) H (hFin Try.prog Try.f3) = f3_r29 call k x1 x4 x5 H := by
  unfold f3_r29
  rw [n3_102]
  rw [n3_103]
  rw [n3_104]
  rw [s3_57]
  refine onV_c fun v1 => ?_
  refine onCall_c fun v2 H3 => ?_
  refine onV_c fun v4 => ?_
  rw [hSeq_n]
  rw [n3_105]
  refine onBool_cc rfl ?_ ?_
  · rw [n3_106]
    rw [n3_107]
    rw [s3_58]
    rw [hSeq_n]
    rw [n3_108]
    rw [hSeq_r]
    exact fin3_ret
  · rw [n3_109]
    rw [hSeq_n]
    rw [n3_110]
    rw [n3_111]
    rw [n3_112]
    rw [s3_59]
    refine onV_c fun v5 => ?_
    rw [hSeq_n]
    rw [n3_113]
    refine onBool_cc rfl ?_ ?_
    · rw [n3_114]
      exact f3_r32_eq call k
    · rw [n3_115]
      rw [hSeq_n]
      rw [n3_116]
      exact f3_r35_eq call k
noncomputable def f3_l25b (call : Handle) (k : Nat) (sg_l22 : Value → Value → Value → Value → GH → M (Value × GH)) (sg_l25 : Value → Value → Value → Value → Value → GH → M (Value × GH)) (x1 x4 x5 x8 x9 : Value) (H : GH) : M (Value × GH) :=
  onV ((oBin Try.prog .lss 3 x9 x8).filter closed) fun v1 =>
  onBool (asB v1)
  (onV (oIndexAddr Try.prog 26 x4 x9) fun v2 =>
  onV (gLoad Try.prog 29 v2 H) fun v3 =>
  onV (oIndexAddr Try.prog 26 x4 x8) fun v4 =>
  onV (gLoad Try.prog 29 v4 H) fun v5 =>
  onV ((oBin Try.prog .eql 29 v3 v5).filter closed) fun v6 =>
  onBool (asB v6)
  (onV ((oBin Try.prog .add 3 x9 (.int .i64 1)).filter closed) fun v7 =>
  (sg_l25 x1 x4 (.int .i64 8) x8 v7 H))
  (onV ((oBin Try.prog .add 3 x9 (.int .i64 1)).filter closed) fun v8 =>
  (sg_l25 x1 x4 x5 x8 v8 H)))
  (onV ((oBin Try.prog .add 3 x8 (.int .i64 1)).filter closed) fun v9 =>
  (sg_l22 x1 x4 x5 v9 H))
theorem f3_l25b_eq (call : Handle) (k : Nat) (ag_l22 : GA → GH → M (Value × GH)) (sg_l22 : Value → Value → Value → Value → GH → M (Value × GH)) (h_l22 : f3_l22_P ag_l22 sg_l22) (ag_l25 : GA → GH → M (Value × GH)) (sg_l25 : Value → Value → Value → Value → Value → GH → M (Value × GH)) (h_l25 : f3_l25_P ag_l25 sg_l25) : gCode Try.prog call k (fAt Try.f3 [1,1,1,1,1,1,1,1,0,1,0,0,1,0,0,1,0,0]) (x0::x1::x2::x3::x4::x5::x6::x7::x8::x9::x10::x11::x12::x13::x14::x15::x16::x17::x18::x19::x20::x21::x22::x23::x24::x25::x26::x27::x28::x29::x30::x31::x32::x33::x34::x35::x36::x37::x38::x39::x40::x41::x42::x43::x44::x45::x46::x47::x48::x49::x50::x51::x52::x53::x54::x55::x56::x57::x58::x59::x60::x61::x62::x63::x64::x65::x66::x67::x68::x69::x70::x71::x72::x73::x74::x75::x76::x77::x78::x79::x80::x81::x82::x83::x84::x85::x86::x87::x88::x89::x90::x91::x92::x93::x94::x95::x96::x97::x98::x99::x100::x101::x102::x103::x104::x105::x106::x107::x108::x109::x110::x111::x112::x113::x114::x115::x116::x117::x118::x119::x120::x121::x122::x123::x124::x125::x126::x127::x128::x129::x130::x131::x132::x133::x134::x135::x136::x137::x138::x139::x140::x141::x142::x143::x144::x145::x146::x147::x148::x149::x150::x151::x152::x153::x154::x155::x156::x157::x158::x159::x160::x161::x162::x163::x164::x165::x166::x167::x168::x169::x170::x171::x172::x173::[]) H (hLoop ag_l25 (hBlock 6 (hBlock 5 (hSeq (gCode Try.prog call k (fAt Try.f3 [1,1,1,1,1,1,1,1,0,1,0,0,1,1])) (hLoop ag_l22 (hBlock 4 (hSeq (gCode Try.prog call k (fAt Try.f3 [1,1,1,1,1,1,1,1,1])) (hFin Try.prog Try.f3)))))))) = f3_l25b call k sg_l22 sg_l25 x1 x4 x5 x8 x9 H := by
  unfold f3_l25b
  rw [n3_87]
  rw [n3_88]
  rw [n3_89]
  rw [s3_51]
  refine onV_c fun v1 => ?_
  rw [hSeq_n]
  rw [n3_90]
  refine onBool_cc rfl ?_ ?_
  · rw [n3_91]
    rw [hSeq_n]
    rw [n3_92]
    rw [n3_93]
    rw [n3_94]
    rw [n3_95]
    rw [s3_52]
    refine onV_c fun v2 => ?_
    refine onV_c fun v3 => ?_
    refine onV_c fun v4 => ?_
    refine onV_c fun v5 => ?_
    refine onV_c fun v6 => ?_
    rw [hSeq_n]
    rw [n3_96]
    refine onBool_cc rfl ?_ ?_
    · rw [n3_97]
      rw [s3_53]
      rw [hBlock_n]
      rw [hSeq_n]
      rw [n3_98]
      rw [s3_54]
      refine onV_c fun v7 => ?_
      rw [hLoop_n]
      exact f3_l25_at h_l25
    · rw [n3_99]
      rw [hBlock_n]
      rw [hSeq_n]
      rw [n3_98]
      rw [s3_55]
      refine onV_c fun v8 => ?_
      rw [hLoop_n]
      exact f3_l25_at h_l25
  · rw [n3_100]
    rw [hSeq_e, hLoop_e, hBlock_hit]
    rw [hBlock_n]
    rw [hSeq_n]
    rw [n3_101]
    rw [s3_56]
    refine onV_c fun v9 => ?_
    rw [hLoop_n]
    exact f3_l22_at h_l22
noncomputable def f3_l25 (call : Handle) (k : Nat) (sg_l22 : Value → Value → Value → Value → GH → M (Value × GH)) : Nat → Value → Value → Value → Value → Value → GH → M (Value × GH)
  | 0, _, _, _, _, _, _ => none
  | r + 1, x1, x4, x5, x8, x9, H => f3_l25b call k sg_l22 (f3_l25 call k sg_l22 r) x1 x4 x5 x8 x9 H
theorem f3_l25_eq (call : Handle) (k : Nat) (ag_l22 : GA → GH → M (Value × GH)) (sg_l22 : Value → Value → Value → Value → GH → M (Value × GH)) (h_l22 : f3_l22_P ag_l22 sg_l22) : ∀ (r : Nat), f3_l25_P (gLoop (gCode Try.prog call k (fAt Try.f3 [1,1,1,1,1,1,1,1,0,1,0,0,1,0,0,1,0,0])) (hBlock 6 (hBlock 5 (hSeq (gCode Try.prog call k (fAt Try.f3 [1,1,1,1,1,1,1,1,0,1,0,0,1,1])) (hLoop ag_l22 (hBlock 4 (hSeq (gCode Try.prog call k (fAt Try.f3 [1,1,1,1,1,1,1,1,1])) (hFin Try.prog Try.f3))))))) r) (f3_l25 call k sg_l22 r) := by
  intro r
  induction r with
  | zero => unfold f3_l25_P; intros; rfl
  | succ r ih => unfold f3_l25_P; intros; exact f3_l25b_eq call k ag_l22 sg_l22 h_l22 _ _ ih
noncomputable def f3_g22_5 (call : Handle) (k : Nat) (sg_l22 : Value → Value → Value → Value → GH → M (Value × GH)) (x116 : Value) (x1 x4 x5 x8 : Value) (H : GH) : M (Value × GH) :=
 onBool (asB x116)
  (onV ((oBin Try.prog .eql 27 x5 (.int .i64 0)).filter closed) fun v1 =>
  onBool (asB v1)
  ((f3_l25 call k (sg_l22) k x1 x4 x5 x8 (.int .i64 0) H))
  ((f3_r29 call k x1 x4 x5 H)))
  ((f3_r29 call k x1 x4 x5 H))
theorem f3_g22_5_true (call : Handle) (k : Nat) (ag_l22 : GA → GH → M (Value × GH)) (sg_l22 : Value → Value → Value → Value → GH → M (Value × GH)) (h_l22 : f3_l22_P ag_l22 sg_l22) : gOps Try.prog 0 call (opsAt (fAt Try.f3 [1,1,1,1,1,1,1,1,0,1,0,0,0,0])) ((opsAt (fAt Try.f3 [1,1,1,1,1,1,1,1,0,1,0,0,0,0])).drop 5) (x0::x1::x2::x3::x4::x5::x6::x7::x8::x9::x10::x11::x12::x13::x14::x15::x16::x17::x18::x19::x20::x21::x22::x23::x24::x25::x26::x27::x28::x29::x30::x31::x32::x33::x34::x35::x36::x37::x38::x39::x40::x41::x42::x43::x44::x45::x46::x47::x48::x49::x50::x51::x52::x53::x54::x55::x56::x57::x58::x59::x60::x61::x62::x63::x64::x65::x66::x67::x68::x69::x70::x71::x72::x73::x74::x75::x76::x77::x78::x79::x80::x81::x82::x83::x84::x85::x86::x87::x88::x89::x90::x91::x92::x93::x94::x95::x96::x97::x98::x99::x100::x101::x102::x103::x104::x105::x106::x107::x108::x109::x110::x111::x112::x113::x114::x115::(.bool true)::x117::x118::x119::x120::x121::x122::x123::x124::x125::x126::x127::x128::x129::x130::x131::x132::x133::x134::x135::x136::x137::x138::x139::x140::x141::x142::x143::x144::x145::x146::x147::x148::x149::x150::x151::x152::x153::x154::x155::x156::x157::x158::x159::x160::x161::x162::x163::x164::x165::x166::x167::x168::x169::x170::x171::x172::x173::[]) H ((hSeq (gCode Try.prog call k (fAt Try.f3 [1,1,1,1,1,1,1,1,0,1,0,0,0,1])) (hSeq (gCode Try.prog call k (fAt Try.f3 [1,1,1,1,1,1,1,1,0,1,0,0,1])) (hLoop ag_l22 (hBlock 4 (hSeq (gCode Try.prog call k (fAt Try.f3 [1,1,1,1,1,1,1,1,1])) (hFin Try.prog Try.f3)))))) .normal) =
  onV ((oBin Try.prog .eql 27 x5 (.int .i64 0)).filter closed) fun v1 =>
  onBool (asB v1)
  ((f3_l25 call k (sg_l22) k x1 x4 x5 x8 (.int .i64 0) H))
  ((f3_r29 call k x1 x4 x5 H)) := by
  rw [s3_40]
  refine onV_c fun v1 => ?_
  rw [hSeq_n]
  rw [n3_77]
  refine onBool_cc rfl ?_ ?_
  · rw [n3_78]
    rw [hSeq_n]
    rw [n3_79]
    rw [n3_80]
    rw [n3_81]
    rw [n3_82]
    rw [s3_41]
    rw [hSeq_n]
    rw [n3_83]
    rw [n3_84]
    exact f3_l25_at (f3_l25_eq call k ag_l22 sg_l22 h_l22 k)
  · rw [n3_85]
    rw [hSeq_e, hLoop_e, hBlock_hit]
    rw [hSeq_n]
    exact f3_r29_eq call k
theorem f3_g22_5_false (call : Handle) (k : Nat) (ag_l22 : GA → GH → M (Value × GH)) (sg_l22 : Value → Value → Value → Value → GH → M (Value × GH)) (h_l22 : f3_l22_P ag_l22 sg_l22) : gOps Try.prog 0 call (opsAt (fAt Try.f3 [1,1,1,1,1,1,1,1,0,1,0,0,0,0])) ((opsAt (fAt Try.f3 [1,1,1,1,1,1,1,1,0,1,0,0,0,0])).drop 5) (x0::x1::x2::x3::x4::x5::x6::x7::x8::x9::x10::x11::x12::x13::x14::x15::x16::x17::x18::x19::x20::x21::x22::x23::x24::x25::x26::x27::x28::x29::x30::x31::x32::x33::x34::x35::x36::x37::x38::x39::x40::x41::x42::x43::x44::x45::x46::x47::x48::x49::x50::x51::x52::x53::x54::x55::x56::x57::x58::x59::x60::x61::x62::x63::x64::x65::x66::x67::x68::x69::x70::x71::x72::x73::x74::x75::x76::x77::x78::x79::x80::x81::x82::x83::x84::x85::x86::x87::x88::x89::x90::x91::x92::x93::x94::x95::x96::x97::x98::x99::x100::x101::x102::x103::x104::x105::x106::x107::x108::x109::x110::x111::x112::x113::x114::x115::(.bool false)::x117::x118::x119::x120::x121::x122::x123::x124::x125::x126::x127::x128::x129::x130::x131::x132::x133::x134::x135::x136::x137::x138::x139::x140::x141::x142::x143::x144::x145::x146::x147::x148::x149::x150::x151::x152::x153::x154::x155::x156::x157::x158::x159::x160::x161::x162::x163::x164::x165::x166::x167::x168::x169::x170::x171::x172::x173::[]) H ((hSeq (gCode Try.prog call k (fAt Try.f3 [1,1,1,1,1,1,1,1,0,1,0,0,0,1])) (hSeq (gCode Try.prog call k (fAt Try.f3 [1,1,1,1,1,1,1,1,0,1,0,0,1])) (hLoop ag_l22 (hBlock 4 (hSeq (gCode Try.prog call k (fAt Try.f3 [1,1,1,1,1,1,1,1,1])) (hFin Try.prog Try.f3)))))) .normal) =
  (f3_r29 call k x1 x4 x5 H) := by
  rw [s3_42]
  rw [hSeq_n]
  rw [n3_77]
  refine (onBool_ff rfl).trans ?_
  rw [n3_85]
  rw [hSeq_e, hLoop_e, hBlock_hit]
  rw [hSeq_n]
  exact f3_r29_eq call k
theorem f3_g22_5_eq (call : Handle) (k : Nat) (ag_l22 : GA → GH → M (Value × GH)) (sg_l22 : Value → Value → Value → Value → GH → M (Value × GH)) (h_l22 : f3_l22_P ag_l22 sg_l22) : gOps Try.prog 0 call (opsAt (fAt Try.f3 [1,1,1,1,1,1,1,1,0,1,0,0,0,0])) ((opsAt (fAt Try.f3 [1,1,1,1,1,1,1,1,0,1,0,0,0,0])).drop 5) (x0::x1::x2::x3::x4::x5::x6::x7::x8::x9::x10::x11::x12::x13::x14::x15::x16::x17::x18::x19::x20::x21::x22::x23::x24::x25::x26::x27::x28::x29::x30::x31::x32::x33::x34::x35::x36::x37::x38::x39::x40::x41::x42::x43::x44::x45::x46::x47::x48::x49::x50::x51::x52::x53::x54::x55::x56::x57::x58::x59::x60::x61::x62::x63::x64::x65::x66::x67::x68::x69::x70::x71::x72::x73::x74::x75::x76::x77::x78::x79::x80::x81::x82::x83::x84::x85::x86::x87::x88::x89::x90::x91::x92::x93::x94::x95::x96::x97::x98::x99::x100::x101::x102::x103::x104::x105::x106::x107::x108::x109::x110::x111::x112::x113::x114::x115::x116::x117::x118::x119::x120::x121::x122::x123::x124::x125::x126::x127::x128::x129::x130::x131::x132::x133::x134::x135::x136::x137::x138::x139::x140::x141::x142::x143::x144::x145::x146::x147::x148::x149::x150::x151::x152::x153::x154::x155::x156::x157::x158::x159::x160::x161::x162::x163::x164::x165::x166::x167::x168::x169::x170::x171::x172::x173::[]) H ((hSeq (gCode Try.prog call k (fAt Try.f3 [1,1,1,1,1,1,1,1,0,1,0,0,0,1])) (hSeq (gCode Try.prog call k (fAt Try.f3 [1,1,1,1,1,1,1,1,0,1,0,0,1])) (hLoop ag_l22 (hBlock 4 (hSeq (gCode Try.prog call k (fAt Try.f3 [1,1,1,1,1,1,1,1,1])) (hFin Try.prog Try.f3)))))) .normal) =
  f3_g22_5 call k sg_l22 x116 x1 x4 x5 x8 H := by
  cases x116 with
  | bool b => cases b with
    | true => exact f3_g22_5_true call k ag_l22 sg_l22 h_l22
    | false => exact f3_g22_5_false call k ag_l22 sg_l22 h_l22
  | _ => kernel_rfl
noncomputable def f3_l22b (call : Handle) (k : Nat) (sg_l22 : Value → Value → Value → Value → GH → M (Value × GH)) (x1 x4 x5 x8 : Value) (H : GH) : M (Value × GH) :=
  onV (oLen Try.prog 26 x4) fun v1 =>
  onV ((oBin Try.prog .lss 3 x8 v1).filter closed) fun v2 =>
  (f3_g22_5 call k (sg_l22) v2 x1 x4 x5 x8 H)
theorem f3_l22b_eq (call : Handle) (k : Nat) (ag_l22 : GA → GH → M (Value × GH)) (sg_l22 : Value → Value → Value → Value → GH → M (Value × GH)) (h_l22 : f3_l22_P ag_l22 sg_l22) : gCode Try.prog call k (fAt Try.f3 [1,1,1,1,1,1,1,1,0,1,0,0]) (x0::x1::x2::x3::x4::x5::x6::x7::x8::x9::x10::x11::x12::x13::x14::x15::x16::x17::x18::x19::x20::x21::x22::x23::x24::x25::x26::x27::x28::x29::x30::x31::x32::x33::x34::x35::x36::x37::x38::x39::x40::x41::x42::x43::x44::x45::x46::x47::x48::x49::x50::x51::x52::x53::x54::x55::x56::x57::x58::x59::x60::x61::x62::x63::x64::x65::x66::x67::x68::x69::x70::x71::x72::x73::x74::x75::x76::x77::x78::x79::x80::x81::x82::x83::x84::x85::x86::x87::x88::x89::x90::x91::x92::x93::x94::x95::x96::x97::x98::x99::x100::x101::x102::x103::x104::x105::x106::x107::x108::x109::x110::x111::x112::x113::x114::x115::x116::x117::x118::x119::x120::x121::x122::x123::x124::x125::x126::x127::x128::x129::x130::x131::x132::x133::x134::x135::x136::x137::x138::x139::x140::x141::x142::x143::x144::x145::x146::x147::x148::x149::x150::x151::x152::x153::x154::x155::x156::x157::x158::x159::x160::x161::x162::x163::x164::x165::x166::x167::x168::x169::x170::x171::x172::x173::[]) H (hLoop ag_l22 (hBlock 4 (hSeq (gCode Try.prog call k (fAt Try.f3 [1,1,1,1,1,1,1,1,1])) (hFin Try.prog Try.f3)))) = f3_l22b call k sg_l22 x1 x4 x5 x8 H := by
  unfold f3_l22b
  rw [n3_72]
  rw [n3_73]
  rw [n3_74]
  rw [gOps_split 0 5, s3_34]
  refine onV_c fun v1 => ?_
  refine onV_c fun v2 => ?_
  exact f3_g22_5_eq call k ag_l22 sg_l22 h_l22
noncomputable def f3_l22 (call : Handle) (k : Nat) : Nat → Value → Value → Value → Value → GH → M (Value × GH)
  | 0, _, _, _, _, _ => none
  | r + 1, x1, x4, x5, x8, H => f3_l22b call k (f3_l22 call k r) x1 x4 x5 x8 H
theorem f3_l22_eq (call : Handle) (k : Nat) : ∀ (r : Nat), f3_l22_P (gLoop (gCode Try.prog call k (fAt Try.f3 [1,1,1,1,1,1,1,1,0,1,0,0])) (hBlock 4 (hSeq (gCode Try.prog call k (fAt Try.f3 [1,1,1,1,1,1,1,1,1])) (hFin Try.prog Try.f3))) r) (f3_l22 call k r) := by
  intro r
  induction r with
  | zero => unfold f3_l22_P; intros; rfl
  | succ r ih => unfold f3_l22_P; intros; exact f3_l22b_eq call k _ _ ih
noncomputable def f3_r21 (call : Handle) (k : Nat) (x1 x4 x5 : Value) (H : GH) : M (Value × GH) :=
  (f3_l22 call k k x1 x4 x5 (.int .i64 0) H)
theorem f3_r21_eq (call : Handle) (k : Nat) : gCode Try.prog call k (fAt Try.f3 [1,1,1,1,1,1,1,1]) (x0::x1::x2::x3::x4::x5::x6::x7::x8::x9::x10::x11::x12::x13::x14::x15::x16::x17::x18::x19::x20::x21::x22::x23::x24::x25::x26::x27::x28::x29::x30::x31::x32::x33::x34::x35::x36::x37::x38::x39::x40::x41::x42::x43::x44::x45::x46::x47::x48::x49::x50::x51::x52::x53::x54::x55::x56::x57::x58::x59::x60::x61::x62::x63::x64::x65::x66::x67::x68::x69::x70::x71::x72::x73::x74::x75::x76::x77::x78::x79::x80::x81::x82::x83::x84::x85::x86::x87::x88::x89::x90::x91::x92::x93::x94::x95::x96::x97::x98::x99::x100::x101::x102::x103::x104::x105::x106::x107::x108::x109::x110::x111::x112::x113::x114::x115::x116::x117::x118::x119::x120::x121::x122::x123::x124::x125::x126::x127::x128::x129::x130::x131::x132::x133::x134::x135::x136::x137::x138::x139::x140::x141::x142::x143::x144::x145::x146::x147::x148::x149::x150::x151::x152::x153::x154::x155::x156::x157::x158::x159::x160::x161::x162::x163::x164::x165::x166::x167::x168::x169::x170::x171::x172::x173::[]) H (hFin Try.prog Try.f3) = f3_r21 call k x1 x4 x5 H := by
  unfold f3_r21
  rw [n3_66]
  rw [n3_67]
  rw [n3_68]
  rw [s3_31]
  rw [hSeq_n]
  rw [n3_69]
  rw [n3_70]
  exact f3_l22_at (f3_l22_eq call k k)
noncomputable def f3_g17_5 (call : Handle) (k : Nat) (sg_l17 : Value → Value → Value → Value → GH → M (Value × GH)) (x76 : Value) (x1 x4 x5 x7 : Value) (H : GH) : M (Value × GH) :=
 onBool (asB x76)
  (onV ((oBin Try.prog .eql 27 x5 (.int .i64 0)).filter closed) fun v1 =>
  onBool (asB v1)
  ((f3_r19 call k (sg_l17) x1 x4 x5 x7 H))
  ((f3_r21 call k x1 x4 x5 H)))
  ((f3_r21 call k x1 x4 x5 H))
theorem f3_g17_5_true (call : Handle) (k : Nat) (ag_l17 : GA → GH → M (Value × GH)) (sg_l17 : Value → Value → Value → Value → GH → M (Value × GH)) (h_l17 : f3_l17_P ag_l17 sg_l17) : gOps Try.prog 0 call (opsAt (fAt Try.f3 [1,1,1,1,1,1,1,0,1,0,0,0,0])) ((opsAt (fAt Try.f3 [1,1,1,1,1,1,1,0,1,0,0,0,0])).drop 5) (x0::x1::x2::x3::x4::x5::x6::x7::x8::x9::x10::x11::x12::x13::x14::x15::x16::x17::x18::x19::x20::x21::x22::x23::x24::x25::x26::x27::x28::x29::x30::x31::x32::x33::x34::x35::x36::x37::x38::x39::x40::x41::x42::x43::x44::x45::x46::x47::x48::x49::x50::x51::x52::x53::x54::x55::x56::x57::x58::x59::x60::x61::x62::x63::x64::x65::x66::x67::x68::x69::x70::x71::x72::x73::x74::x75::(.bool true)::x77::x78::x79::x80::x81::x82::x83::x84::x85::x86::x87::x88::x89::x90::x91::x92::x93::x94::x95::x96::x97::x98::x99::x100::x101::x102::x103::x104::x105::x106::x107::x108::x109::x110::x111::x112::x113::x114::x115::x116::x117::x118::x119::x120::x121::x122::x123::x124::x125::x126::x127::x128::x129::x130::x131::x132::x133::x134::x135::x136::x137::x138::x139::x140::x141::x142::x143::x144::x145::x146::x147::x148::x149::x150::x151::x152::x153::x154::x155::x156::x157::x158::x159::x160::x161::x162::x163::x164::x165::x166::x167::x168::x169::x170::x171::x172::x173::[]) H ((hSeq (gCode Try.prog call k (fAt Try.f3 [1,1,1,1,1,1,1,0,1,0,0,0,1])) (hSeq (gCode Try.prog call k (fAt Try.f3 [1,1,1,1,1,1,1,0,1,0,0,1])) (hLoop ag_l17 (hBlock 2 (hSeq (gCode Try.prog call k (fAt Try.f3 [1,1,1,1,1,1,1,1])) (hFin Try.prog Try.f3)))))) .normal) =
  onV ((oBin Try.prog .eql 27 x5 (.int .i64 0)).filter closed) fun v1 =>
  onBool (asB v1)
  ((f3_r19 call k (sg_l17) x1 x4 x5 x7 H))
  ((f3_r21 call k x1 x4 x5 H)) := by
  rw [s3_28]
  refine onV_c fun v1 => ?_
  rw [hSeq_n]
  rw [n3_59]
  refine onBool_cc rfl ?_ ?_
  · rw [n3_60]
    rw [hSeq_n]
    rw [n3_61]
    rw [n3_62]
    rw [n3_63]
    exact f3_r19_eq call k ag_l17 sg_l17 h_l17
  · rw [n3_64]
    rw [hSeq_e, hLoop_e, hBlock_hit]
    rw [hSeq_n]
    exact f3_r21_eq call k
theorem f3_g17_5_false (call : Handle) (k : Nat) (ag_l17 : GA → GH → M (Value × GH)) (sg_l17 : Value → Value → Value → Value → GH → M (Value × GH)) (h_l17 : f3_l17_P ag_l17 sg_l17) : gOps Try.prog 0 call (opsAt (fAt Try.f3 [1,1,1,1,1,1,1,0,1,0,0,0,0])) ((opsAt (fAt Try.f3 [1,1,1,1,1,1,1,0,1,0,0,0,0])).drop 5) (x0::x1::x2::x3::x4::x5::x6::x7::x8::x9::x10::x11::x12::x13::x14::x15::x16::x17::x18::x19::x20::x21::x22::x23::x24::x25::x26::x27::x28::x29::x30::x31::x32::x33::x34::x35::x36::x37::x38::x39::x40::x41::x42::x43::x44::x45::x46::x47::x48::x49::x50::x51::x52::x53::x54::x55::x56::x57::x58::x59::x60::x61::x62::x63::x64::x65::x66::x67::x68::x69::x70::x71::x72::x73::x74::x75::(.bool false)::x77::x78::x79::x80::x81::x82::x83::x84::x85::x86::x87::x88::x89::x90::x91::x92::x93::x94::x95::x96::x97::x98::x99::x100::x101::x102::x103::x104::x105::x106::x107::x108::x109::x110::x111::x112::x113::x114::x115::x116::x117::x118::x119::x120::x121::x122::x123::x124::x125::x126::x127::x128::x129::x130::x131::x132::x133::x134::x135::x136::x137::x138::x139::x140::x141::x142::x143::x144::x145::x146::x147::x148::x149::x150::x151::x152::x153::x154::x155::x156::x157::x158::x159::x160::x161::x162::x163::x164::x165::x166::x167::x168::x169::x170::x171::x172::x173::[]) H ((hSeq (gCode Try.prog call k (fAt Try.f3 [1,1,1,1,1,1,1,0,1,0,0,0,1])) (hSeq (gCode Try.prog call k (fAt Try.f3 [1,1,1,1,1,1,1,0,1,0,0,1])) (hLoop ag_l17 (hBlock 2 (hSeq (gCode Try.prog call k (fAt Try.f3 [1,1,1,1,1,1,1,1])) (hFin Try.prog Try.f3)))))) .normal) =
  (f3_r21 call k x1 x4 x5 H) := by
  rw [s3_29]
  rw [hSeq_n]
  rw [n3_59]
  refine (onBool_ff rfl).trans ?_
  rw [n3_64]
  rw [hSeq_e, hLoop_e, hBlock_hit]
  rw [hSeq_n]
  exact f3_r21_eq call k
theorem f3_g17_5_eq (call : Handle) (k : Nat) (ag_l17 : GA → GH → M (Value × GH)) (sg_l17 : Value → Value → Value → Value → GH → M (Value × GH)) (h_l17 : f3_l17_P ag_l17 sg_l17) : gOps Try.prog 0 call (opsAt (fAt Try.f3 [1,1,1,1,1,1,1,0,1,0,0,0,0])) ((opsAt (fAt Try.f3 [1,1,1,1,1,1,1,0,1,0,0,0,0])).drop 5) (x0::x1::x2::x3::x4::x5::x6::x7::x8::x9::x10::x11::x12::x13::x14::x15::x16::x17::x18::x19::x20::x21::x22::x23::x24::x25::x26::x27::x28::x29::x30::x31::x32::x33::x34::x35::x36::x37::x38::x39::x40::x41::x42::x43::x44::x45::x46::x47::x48::x49::x50::x51::x52::x53::x54::x55::x56::x57::x58::x59::x60::x61::x62::x63::x64::x65::x66::x67::x68::x69::x70::x71::x72::x73::x74::x75::x76::x77::x78::x79::x80::x81::x82::x83::x84::x85::x86::x87::x88::x89::x90::x91::x92::x93::x94::x95::x96::x97::x98::x99::x100::x101::x102::x103::x104::x105::x106::x107::x108::x109::x110::x111::x112::x113::x114::x115::x116::x117::x118::x119::x120::x121::x122::x123::x124::x125::x126::x127::x128::x129::x130::x131::x132::x133::x134::x135::x136::x137::x138::x139::x140::x141::x142::x143::x144::x145::x146::x147::x148::x149::x150::x151::x152::x153::x154::x155::x156::x157::x158::x159::x160::x161::x162::x163::x164::x165::x166::x167::x168::x169::x170::x171::x172::x173::[]) H ((hSeq (gCode Try.prog call k (fAt Try.f3 [1,1,1,1,1,1,1,0,1,0,0,0,1])) (hSeq (gCode Try.prog call k (fAt Try.f3 [1,1,1,1,1,1,1,0,1,0,0,1])) (hLoop ag_l17 (hBlock 2 (hSeq (gCode Try.prog call k (fAt Try.f3 [1,1,1,1,1,1,1,1])) (hFin Try.prog Try.f3)))))) .normal) =
  f3_g17_5 call k sg_l17 x76 x1 x4 x5 x7 H := by
  cases x76 with
  | bool b => cases b with
    | true => exact f3_g17_5_true call k ag_l17 sg_l17 h_l17
    | false => exact f3_g17_5_false call k ag_l17 sg_l17 h_l17
  | _ => kernel_rfl
noncomputable def f3_l17b (call : Handle) (k : Nat) (sg_l17 : Value → Value → Value → Value → GH → M (Value × GH)) (x1 x4 x5 x7 : Value) (H : GH) : M (Value × GH) :=
  onV (oLen Try.prog 26 x4) fun v1 =>
  onV ((oBin Try.prog .lss 3 x7 v1).filter closed) fun v2 =>
  (f3_g17_5 call k (sg_l17) v2 x1 x4 x5 x7 H)
theorem f3_l17b_eq (call : Handle) (k : Nat) (ag_l17 : GA → GH → M (Value × GH)) (sg_l17 : Value → Value → Value → Value → GH → M (Value × GH)) (h_l17 : f3_l17_P ag_l17 sg_l17) : gCode Try.prog call k (fAt Try.f3 [1,1,1,1,1,1,1,0,1,0,0]) (x0::x1::x2::x3::x4::x5::x6::x7::x8::x9::x10::x11::x12::x13::x14::x15::x16::x17::x18::x19::x20::x21::x22::x23::x24::x25::x26::x27::x28::x29::x30::x31::x32::x33::x34::x35::x36::x37::x38::x39::x40::x41::x42::x43::x44::x45::x46::x47::x48::x49::x50::x51::x52::x53::x54::x55::x56::x57::x58::x59::x60::x61::x62::x63::x64::x65::x66::x67::x68::x69::x70::x71::x72::x73::x74::x75::x76::x77::x78::x79::x80::x81::x82::x83::x84::x85::x86::x87::x88::x89::x90::x91::x92::x93::x94::x95::x96::x97::x98::x99::x100::x101::x102::x103::x104::x105::x106::x107::x108::x109::x110::x111::x112::x113::x114::x115::x116::x117::x118::x119::x120::x121::x122::x123::x124::x125::x126::x127::x128::x129::x130::x131::x132::x133::x134::x135::x136::x137::x138::x139::x140::x141::x142::x143::x144::x145::x146::x147::x148::x149::x150::x151::x152::x153::x154::x155::x156::x157::x158::x159::x160::x161::x162::x163::x164::x165::x166::x167::x168::x169::x170::x171::x172::x173::[]) H (hLoop ag_l17 (hBlock 2 (hSeq (gCode Try.prog call k (fAt Try.f3 [1,1,1,1,1,1,1,1])) (hFin Try.prog Try.f3)))) = f3_l17b call k sg_l17 x1 x4 x5 x7 H := by
  unfold f3_l17b
  rw [n3_56]
  rw [n3_57]
  rw [n3_58]
  rw [gOps_split 0 5, s3_26]
  refine onV_c fun v1 => ?_
  refine onV_c fun v2 => ?_
  exact f3_g17_5_eq call k ag_l17 sg_l17 h_l17
noncomputable def f3_l17 (call : Handle) (k : Nat) : Nat → Value → Value → Value → Value → GH → M (Value × GH)
  | 0, _, _, _, _, _ => none
  | r + 1, x1, x4, x5, x7, H => f3_l17b call k (f3_l17 call k r) x1 x4 x5 x7 H
theorem f3_l17_eq (call : Handle) (k : Nat) : ∀ (r : Nat), f3_l17_P (gLoop (gCode Try.prog call k (fAt Try.f3 [1,1,1,1,1,1,1,0,1,0,0])) (hBlock 2 (hSeq (gCode Try.prog call k (fAt Try.f3 [1,1,1,1,1,1,1,1])) (hFin Try.prog Try.f3))) r) (f3_l17 call k r) := by
  intro r
  induction r with
  | zero => unfold f3_l17_P; intros; rfl
  | succ r ih => unfold f3_l17_P; intros; exact f3_l17b_eq call k _ _ ih
noncomputable def f3_r16 (call : Handle) (k : Nat) (x1 x4 x5 : Value) (H : GH) : M (Value × GH) :=
  (f3_l17 call k k x1 x4 x5 (.int .i64 0) H)
theorem f3_r16_eq (call : Handle) (k : Nat) : gCode Try.prog call k (fAt Try.f3 [1,1,1,1,1,1,1]) (x0::x1::x2::x3::x4::x5::x6::x7::x8::x9::x10::x11::x12::x13::x14::x15::x16::x17::x18::x19::x20::x21::x22::x23::x24::x25::x26::x27::x28::x29::x30::x31::x32::x33::x34::x35::x36::x37::x38::x39::x40::x41::x42::x43::x44::x45::x46::x47::x48::x49::x50::x51::x52::x53::x54::x55::x56::x57::x58::x59::x60::x61::x62::x63::x64::x65::x66::x67::x68::x69::x70::x71::x72::x73::x74::x75::x76::x77::x78::x79::x80::x81::x82::x83::x84::x85::x86::x87::x88::x89::x90::x91::x92::x93::x94::x95::x96::x97::x98::x99::x100::x101::x102::x103::x104::x105::x106::x107::x108::x109::x110::x111::x112::x113::x114::x115::x116::x117::x118::x119::x120::x121::x122::x123::x124::x125::x126::x127::x128::x129::x130::x131::x132::x133::x134::x135::x136::x137::x138::x139::x140::x141::x142::x143::x144::x145::x146::x147::x148::x149::x150::x151::x152::x153::x154::x155::x156::x157::x158::x159::x160::x161::x162::x163::x164::x165::x166::x167::x168::x169::x170::x171::x172::x173::[]) H (hFin Try.prog Try.f3) = f3_r16 call k x1 x4 x5 H := by
  unfold f3_r16
  rw [n3_48]
  rw [n3_49]
  rw [n3_50]
  rw [s3_27]
  rw [hSeq_n]
  rw [n3_51]
  rw [n3_52]
  exact f3_l17_at (f3_l17_eq call k k)
noncomputable def f3_g14_5 (call : Handle) (k : Nat) (x66 : Value) (x1 x4 x5 : Value) (H : GH) : M (Value × GH) :=
 onBool (asB x66)
  ((f3_l17 call k k x1 x4 (.int .i64 9) (.int .i64 0) H))
  (onV (oFieldAddr Try.prog 24 x1 1) fun v1 =>
  onV (gLoad Try.prog 22 v1 H) fun v2 =>
  onV (oLen Try.prog 22 v2) fun v3 =>
  onV ((oBin Try.prog .gtr 3 v3 (.int .i64 40)).filter closed) fun v4 =>
  onBool (asB v4)
  ((f3_r16 call k x1 x4 (.int .i64 9) H))
  ((f3_r16 call k x1 x4 x5 H)))
theorem f3_g14_5_true (call : Handle) (k : Nat) : gOps Try.prog 0 call (opsAt (fAt Try.f3 [1,1,1,1,1,1,0,0])) ((opsAt (fAt Try.f3 [1,1,1,1,1,1,0,0])).drop 5) (x0::x1::x2::x3::x4::x5::x6::x7::x8::x9::x10::x11::x12::x13::x14::x15::x16::x17::x18::x19::x20::x21::x22::x23::x24::x25::x26::x27::x28::x29::x30::x31::x32::x33::x34::x35::x36::x37::x38::x39::x40::x41::x42::x43::x44::x45::x46::x47::x48::x49::x50::x51::x52::x53::x54::x55::x56::x57::x58::x59::x60::x61::x62::x63::x64::x65::(.bool true)::x67::x68::x69::x70::x71::x72::x73::x74::x75::x76::x77::x78::x79::x80::x81::x82::x83::x84::x85::x86::x87::x88::x89::x90::x91::x92::x93::x94::x95::x96::x97::x98::x99::x100::x101::x102::x103::x104::x105::x106::x107::x108::x109::x110::x111::x112::x113::x114::x115::x116::x117::x118::x119::x120::x121::x122::x123::x124::x125::x126::x127::x128::x129::x130::x131::x132::x133::x134::x135::x136::x137::x138::x139::x140::x141::x142::x143::x144::x145::x146::x147::x148::x149::x150::x151::x152::x153::x154::x155::x156::x157::x158::x159::x160::x161::x162::x163::x164::x165::x166::x167::x168::x169::x170::x171::x172::x173::[]) H ((hSeq (gCode Try.prog call k (fAt Try.f3 [1,1,1,1,1,1,0,1])) (hSeq (gCode Try.prog call k (fAt Try.f3 [1,1,1,1,1,1,1])) (hFin Try.prog Try.f3))) .normal) =
  (f3_l17 call k k x1 x4 (.int .i64 9) (.int .i64 0) H) := by
  rw [s3_19]
  rw [hSeq_n]
  rw [n3_46]
  refine (onBool_tt rfl).trans ?_
  rw [n3_47]
  rw [s3_20]
  rw [hSeq_n]
  rw [n3_48]
  rw [n3_49]
  rw [n3_50]
  rw [s3_21]
  rw [hSeq_n]
  rw [n3_51]
  rw [n3_52]
  exact f3_l17_at (f3_l17_eq call k k)
theorem f3_g14_5_false (call : Handle) (k : Nat) : gOps Try.prog 0 call (opsAt (fAt Try.f3 [1,1,1,1,1,1,0,0])) ((opsAt (fAt Try.f3 [1,1,1,1,1,1,0,0])).drop 5) (x0::x1::x2::x3::x4::x5::x6::x7::x8::x9::x10::x11::x12::x13::x14::x15::x16::x17::x18::x19::x20::x21::x22::x23::x24::x25::x26::x27::x28::x29::x30::x31::x32::x33::x34::x35::x36::x37::x38::x39::x40::x41::x42::x43::x44::x45::x46::x47::x48::x49::x50::x51::x52::x53::x54::x55::x56::x57::x58::x59::x60::x61::x62::x63::x64::x65::(.bool false)::x67::x68::x69::x70::x71::x72::x73::x74::x75::x76::x77::x78::x79::x80::x81::x82::x83::x84::x85::x86::x87::x88::x89::x90::x91::x92::x93::x94::x95::x96::x97::x98::x99::x100::x101::x102::x103::x104::x105::x106::x107::x108::x109::x110::x111::x112::x113::x114::x115::x116::x117::x118::x119::x120::x121::x122::x123::x124::x125::x126::x127::x128::x129::x130::x131::x132::x133::x134::x135::x136::x137::x138::x139::x140::x141::x142::x143::x144::x145::x146::x147::x148::x149::x150::x151::x152::x153::x154::x155::x156::x157::x158::x159::x160::x161::x162::x163::x164::x165::x166::x167::x168::x169::x170::x171::x172::x173::[]) H ((hSeq (gCode Try.prog call k (fAt Try.f3 [1,1,1,1,1,1,0,1])) (hSeq (gCode Try.prog call k (fAt Try.f3 [1,1,1,1,1,1,1])) (hFin Try.prog Try.f3))) .normal) =
  onV (oFieldAddr Try.prog 24 x1 1) fun v1 =>
  onV (gLoad Try.prog 22 v1 H) fun v2 =>
  onV (oLen Try.prog 22 v2) fun v3 =>
  onV ((oBin Try.prog .gtr 3 v3 (.int .i64 40)).filter closed) fun v4 =>
  onBool (asB v4)
  ((f3_r16 call k x1 x4 (.int .i64 9) H))
  ((f3_r16 call k x1 x4 x5 H)) := by
  rw [s3_22]
  refine onV_c fun v1 => ?_
  refine onV_c fun v2 => ?_
  refine onV_c fun v3 => ?_
  refine onV_c fun v4 => ?_
  rw [hSeq_n]
  rw [n3_46]
  refine onBool_cc rfl ?_ ?_
  · rw [n3_47]
    rw [s3_23]
    rw [hSeq_n]
    exact f3_r16_eq call k
  · rw [n3_53]
    rw [hSeq_n]
    exact f3_r16_eq call k
theorem f3_g14_5_eq (call : Handle) (k : Nat) : gOps Try.prog 0 call (opsAt (fAt Try.f3 [1,1,1,1,1,1,0,0])) ((opsAt (fAt Try.f3 [1,1,1,1,1,1,0,0])).drop 5) (x0::x1::x2::x3::x4::x5::x6::x7::x8::x9::x10::x11::x12::x13::x14::x15::x16::x17::x18::x19::x20::x21::x22::x23::x24::x25::x26::x27::x28::x29::x30::x31::x32::x33::x34::x35::x36::x37::x38::x39::x40::x41::x42::x43::x44::x45::x46::x47::x48::x49::x50::x51::x52::x53::x54::x55::x56::x57::x58::x59::x60::x61::x62::x63::x64::x65::x66::x67::x68::x69::x70::x71::x72::x73::x74::x75::x76::x77::x78::x79::x80::x81::x82::x83::x84::x85::x86::x87::x88::x89::x90::x91::x92::x93::x94::x95::x96::x97::x98::x99::x100::x101::x102::x103::x104::x105::x106::x107::x108::x109::x110::x111::x112::x113::x114::x115::x116::x117::x118::x119::x120::x121::x122::x123::x124::x125::x126::x127::x128::x129::x130::x131::x132::x133::x134::x135::x136::x137::x138::x139::x140::x141::x142::x143::x144::x145::x146::x147::x148::x149::x150::x151::x152::x153::x154::x155::x156::x157::x158::x159::x160::x161::x162::x163::x164::x165::x166::x167::x168::x169::x170::x171::x172::x173::[]) H ((hSeq (gCode Try.prog call k (fAt Try.f3 [1,1,1,1,1,1,0,1])) (hSeq (gCode Try.prog call k (fAt Try.f3 [1,1,1,1,1,1,1])) (hFin Try.prog Try.f3))) .normal) =
  f3_g14_5 call k x66 x1 x4 x5 H := by
  cases x66 with
  | bool b => cases b with
    | true => exact f3_g14_5_true call k
    | false => exact f3_g14_5_false call k
  | _ => kernel_rfl
noncomputable def f3_r14 (call : Handle) (k : Nat) (x1 x4 x5 : Value) (H : GH) : M (Value × GH) :=
  onV (oFieldAddr Try.prog 24 x1 0) fun v1 =>
  onV (gLoad Try.prog 22 v1 H) fun v2 =>
  onV (oLen Try.prog 22 v2) fun v3 =>
  onV ((oBin Try.prog .gtr 3 v3 (.int .i64 40)).filter closed) fun v4 =>
  (f3_g14_5 call k v4 x1 x4 x5 H)
theorem f3_r14_eq (call : Handle) (k : Nat) : gCode Try.prog call k (fAt Try.f3 [1,1,1,1,1,1]) (x0::x1::x2::x3::x4::x5::x6::x7::x8::x9::x10::x11::x12::x13::x14::x15::x16::x17::x18::x19::x20::x21::x22::x23::x24::x25::x26::x27::x28::x29::x30::x31::x32::x33::x34::x35::x36::x37::x38::x39::x40::x41::x42::x43::x44::x45::x46::x47::x48::x49::x50::x51::x52::x53::x54::x55::x56::x57::x58::x59::x60::x61::x62::x63::x64::x65::x66::x67::x68::x69::x70::x71::x72::x73::x74::x75::x76::x77::x78::x79::x80::x81::x82::x83::x84::x85::x86::x87::x88::x89::x90::x91::x92::x93::x94::x95::x96::x97::x98::x99::x100::x101::x102::x103::x104::x105::x106::x107::x108::x109::x110::x111::x112::x113::x114::x115::x116::x117::x118::x119::x120::x121::x122::x123::x124::x125::x126::x127::x128::x129::x130::x131::x132::x133::x134::x135::x136::x137::x138::x139::x140::x141::x142::x143::x144::x145::x146::x147::x148::x149::x150::x151::x152::x153::x154::x155::x156::x157::x158::x159::x160::x161::x162::x163::x164::x165::x166::x167::x168::x169::x170::x171::x172::x173::[]) H (hFin Try.prog Try.f3) = f3_r14 call k x1 x4 x5 H := by
  unfold f3_r14
  rw [n3_32]
  rw [n3_33]
  rw [n3_34]
  rw [gOps_split 0 5, s3_12]
  refine onV_c fun v1 => ?_
  refine onV_c fun v2 => ?_
  refine onV_c fun v3 => ?_
  refine onV_c fun v4 => ?_
  exact f3_g14_5_eq call k
noncomputable def f3_l7b (call : Handle) (k : Nat) (sg_l7 : Value → Value → Value → Value → Value → GH → M (Value × GH)) (x1 x3 x4 x5 x6 : Value) (H : GH) : M (Value × GH) :=
  onV (oLen Try.prog 22 x3) fun v1 =>
  onV ((oBin Try.prog .lss 3 x6 v1).filter closed) fun v2 =>
  onBool (asB v2)
  ((f3_r9 call k (sg_l7) x1 x3 x4 x5 x6 H))
  ((f3_r14 call k x1 x4 x5 H))
theorem f3_l7b_eq (call : Handle) (k : Nat) (ag_l7 : GA → GH → M (Value × GH)) (sg_l7 : Value → Value → Value → Value → Value → GH → M (Value × GH)) (h_l7 : f3_l7_P ag_l7 sg_l7) : gCode Try.prog call k (fAt Try.f3 [1,1,1,1,1,0,1,0,0]) (x0::x1::x2::x3::x4::x5::x6::x7::x8::x9::x10::x11::x12::x13::x14::x15::x16::x17::x18::x19::x20::x21::x22::x23::x24::x25::x26::x27::x28::x29::x30::x31::x32::x33::x34::x35::x36::x37::x38::x39::x40::x41::x42::x43::x44::x45::x46::x47::x48::x49::x50::x51::x52::x53::x54::x55::x56::x57::x58::x59::x60::x61::x62::x63::x64::x65::x66::x67::x68::x69::x70::x71::x72::x73::x74::x75::x76::x77::x78::x79::x80::x81::x82::x83::x84::x85::x86::x87::x88::x89::x90::x91::x92::x93::x94::x95::x96::x97::x98::x99::x100::x101::x102::x103::x104::x105::x106::x107::x108::x109::x110::x111::x112::x113::x114::x115::x116::x117::x118::x119::x120::x121::x122::x123::x124::x125::x126::x127::x128::x129::x130::x131::x132::x133::x134::x135::x136::x137::x138::x139::x140::x141::x142::x143::x144::x145::x146::x147::x148::x149::x150::x151::x152::x153::x154::x155::x156::x157::x158::x159::x160::x161::x162::x163::x164::x165::x166::x167::x168::x169::x170::x171::x172::x173::[]) H (hLoop ag_l7 (hBlock 0 (hSeq (gCode Try.prog call k (fAt Try.f3 [1,1,1,1,1,1])) (hFin Try.prog Try.f3)))) = f3_l7b call k sg_l7 x1 x3 x4 x5 x6 H := by
  unfold f3_l7b
  rw [n3_21]
  rw [n3_22]
  rw [n3_23]
  rw [s3_10]
  refine onV_c fun v1 => ?_
  refine onV_c fun v2 => ?_
  rw [hSeq_n]
  rw [n3_24]
  refine onBool_cc rfl ?_ ?_
  · rw [n3_25]
    rw [hSeq_n]
    rw [n3_26]
    rw [n3_27]
    rw [n3_28]
    rw [n3_29]
    exact f3_r9_eq call k ag_l7 sg_l7 h_l7
  · rw [n3_30]
    rw [hSeq_e, hLoop_e, hBlock_hit]
    rw [hSeq_n]
    exact f3_r14_eq call k
noncomputable def f3_l7 (call : Handle) (k : Nat) : Nat → Value → Value → Value → Value → Value → GH → M (Value × GH)
  | 0, _, _, _, _, _, _ => none
  | r + 1, x1, x3, x4, x5, x6, H => f3_l7b call k (f3_l7 call k r) x1 x3 x4 x5 x6 H
theorem f3_l7_eq (call : Handle) (k : Nat) : ∀ (r : Nat), f3_l7_P (gLoop (gCode Try.prog call k (fAt Try.f3 [1,1,1,1,1,0,1,0,0])) (hBlock 0 (hSeq (gCode Try.prog call k (fAt Try.f3 [1,1,1,1,1,1])) (hFin Try.prog Try.f3))) r) (f3_l7 call k r) := by
  intro r
  induction r with
  | zero => unfold f3_l7_P; intros; rfl
  | succ r ih => unfold f3_l7_P; intros; exact f3_l7b_eq call k _ _ ih
noncomputable def f3_r3 (call : Handle) (k : Nat) (x1 : Value) (H : GH) : M (Value × GH) :=
  onVH (gBuildSlice Try.prog 22 0 [] H) fun v1 H2 =>
  onV (oFieldAddr Try.prog 24 x1 0) fun v3 =>
  onV (gLoad Try.prog 22 v3 H2) fun v4 =>
  onVH (gAppendQ Try.prog 22 22 v1 v4 H2) fun v5 H6 =>
  onV (oFieldAddr Try.prog 24 x1 1) fun v7 =>
  onV (gLoad Try.prog 22 v7 H6) fun v8 =>
  onVH (gAppend Try.prog 22 22 v5 v8 H6) fun v9 H10 =>
  (f3_l7 call k k x1 v9 (.slice none 0 0) (.int .i64 0) (.int .i64 0) H10)
theorem f3_r3_eq (call : Handle) (k : Nat) : gCode Try.prog call k (fAt Try.f3 [1,1,0]) (x0::x1::x2::x3::x4::x5::x6::x7::x8::x9::x10::x11::x12::x13::x14::x15::x16::x17::x18::x19::x20::x21::x22::x23::x24::x25::x26::x27::x28::x29::x30::x31::x32::x33::x34::x35::x36::x37::x38::x39::x40::x41::x42::x43::x44::x45::x46::x47::x48::x49::x50::x51::x52::x53::x54::x55::x56::x57::x58::x59::x60::x61::x62::x63::x64::x65::x66::x67::x68::x69::x70::x71::x72::x73::x74::x75::x76::x77::x78::x79::x80::x81::x82::x83::x84::x85::x86::x87::x88::x89::x90::x91::x92::x93::x94::x95::x96::x97::x98::x99::x100::x101::x102::x103::x104::x105::x106::x107::x108::x109::x110::x111::x112::x113::x114::x115::x116::x117::x118::x119::x120::x121::x122::x123::x124::x125::x126::x127::x128::x129::x130::x131::x132::x133::x134::x135::x136::x137::x138::x139::x140::x141::x142::x143::x144::x145::x146::x147::x148::x149::x150::x151::x152::x153::x154::x155::x156::x157::x158::x159::x160::x161::x162::x163::x164::x165::x166::x167::x168::x169::x170::x171::x172::x173::[]) H (hSeq (gCode Try.prog call k (fAt Try.f3 [1,1,1])) (hFin Try.prog Try.f3)) = f3_r3 call k x1 H := by
  unfold f3_r3
  rw [n3_11]
  rw [s3_6]
  refine onVH_c fun v1 H2 => ?_
  refine onV_c fun v3 => ?_
  refine onV_c fun v4 => ?_
  refine onVH_c fun v5 H6 => ?_
  refine onV_c fun v7 => ?_
  refine onV_c fun v8 => ?_
  refine onVH_c fun v9 H10 => ?_
  rw [hSeq_n]
  rw [n3_12]
  rw [n3_13]
  rw [s3_7]
  rw [hSeq_n]
  rw [n3_14]
  rw [n3_15]
  rw [s3_8]
  rw [hSeq_n]
  rw [n3_16]
  rw [n3_17]
  rw [n3_18]
  rw [s3_9]
  rw [hSeq_n]
  rw [n3_19]
  rw [n3_20]
  exact f3_l7_at (f3_l7_eq call k k)
noncomputable def f3_g1_5 (call : Handle) (k : Nat) (x18 : Value) (x1 : Value) (H : GH) : M (Value × GH) :=
 onBool (asB x18)
  (onCall 0 call (.func (.func 8) #[] #[]) [] H fun v1 H2 =>
  some [(v1, H2)])
  (onV (oFieldAddr Try.prog 24 x1 1) fun v1 =>
  onV (gLoad Try.prog 22 v1 H) fun v2 =>
  onV (oLen Try.prog 22 v2) fun v3 =>
  onV ((oBin Try.prog .gtr 3 v3 (.int .i64 45)).filter closed) fun v4 =>
  onBool (asB v4)
  (onCall 0 call (.func (.func 8) #[] #[]) [] H fun v5 H6 =>
  some [(v5, H6)])
  ((f3_r3 call k x1 H)))
theorem f3_g1_5_true (call : Handle) (k : Nat) : gOps Try.prog 0 call (opsAt (fAt Try.f3 [1,0,0])) ((opsAt (fAt Try.f3 [1,0,0])).drop 5) (x0::x1::x2::x3::x4::x5::x6::x7::x8::x9::x10::x11::x12::x13::x14::x15::x16::x17::(.bool true)::x19::x20::x21::x22::x23::x24::x25::x26::x27::x28::x29::x30::x31::x32::x33::x34::x35::x36::x37::x38::x39::x40::x41::x42::x43::x44::x45::x46::x47::x48::x49::x50::x51::x52::x53::x54::x55::x56::x57::x58::x59::x60::x61::x62::x63::x64::x65::x66::x67::x68::x69::x70::x71::x72::x73::x74::x75::x76::x77::x78::x79::x80::x81::x82::x83::x84::x85::x86::x87::x88::x89::x90::x91::x92::x93::x94::x95::x96::x97::x98::x99::x100::x101::x102::x103::x104::x105::x106::x107::x108::x109::x110::x111::x112::x113::x114::x115::x116::x117::x118::x119::x120::x121::x122::x123::x124::x125::x126::x127::x128::x129::x130::x131::x132::x133::x134::x135::x136::x137::x138::x139::x140::x141::x142::x143::x144::x145::x146::x147::x148::x149::x150::x151::x152::x153::x154::x155::x156::x157::x158::x159::x160::x161::x162::x163::x164::x165::x166::x167::x168::x169::x170::x171::x172::x173::[]) H ((hSeq (gCode Try.prog call k (fAt Try.f3 [1,0,1])) (hSeq (gCode Try.prog call k (fAt Try.f3 [1,1])) (hFin Try.prog Try.f3))) .normal) =
  onCall 0 call (.func (.func 8) #[] #[]) [] H fun v1 H2 =>
  some [(v1, H2)] := by
  rw [s3_2]
  rw [hSeq_n]
  rw [n3_5]
  refine (onBool_tt rfl).trans ?_
  rw [n3_6]
  rw [n3_7]
  rw [s3_3]
  refine onCall_c fun v1 H2 => ?_
  rw [hSeq_n]
  rw [n3_8]
  rw [hSeq_r]
  exact fin3_ret
theorem f3_g1_5_false (call : Handle) (k : Nat) : gOps Try.prog 0 call (opsAt (fAt Try.f3 [1,0,0])) ((opsAt (fAt Try.f3 [1,0,0])).drop 5) (x0::x1::x2::x3::x4::x5::x6::x7::x8::x9::x10::x11::x12::x13::x14::x15::x16::x17::(.bool false)::x19::x20::x21::x22::x23::x24::x25::x26::x27::x28::x29::x30::x31::x32::x33::x34::x35::x36::x37::x38::x39::x40::x41::x42::x43::x44::x45::x46::x47::x48::x49::x50::x51::x52::x53::x54::x55::x56::x57::x58::x59::x60::x61::x62::x63::x64::x65::x66::x67::x68::x69::x70::x71::x72::x73::x74::x75::x76::x77::x78::x79::x80::x81::x82::x83::x84::x85::x86::x87::x88::x89::x90::x91::x92::x93::x94::x95::x96::x97::x98::x99::x100::x101::x102::x103::x104::x105::x106::x107::x108::x109::x110::x111::x112::x113::x114::x115::x116::x117::x118::x119::x120::x121::x122::x123::x124::x125::x126::x127::x128::x129::x130::x131::x132::x133::x134::x135::x136::x137::x138::x139::x140::x141::x142::x143::x144::x145::x146::x147::x148::x149::x150::x151::x152::x153::x154::x155::x156::x157::x158::x159::x160::x161::x162::x163::x164::x165::x166::x167::x168::x169::x170::x171::x172::x173::[]) H ((hSeq (gCode Try.prog call k (fAt Try.f3 [1,0,1])) (hSeq (gCode Try.prog call k (fAt Try.f3 [1,1])) (hFin Try.prog Try.f3))) .normal) =
  onV (oFieldAddr Try.prog 24 x1 1) fun v1 =>
  onV (gLoad Try.prog 22 v1 H) fun v2 =>
  onV (oLen Try.prog 22 v2) fun v3 =>
  onV ((oBin Try.prog .gtr 3 v3 (.int .i64 45)).filter closed) fun v4 =>
  onBool (asB v4)
  (onCall 0 call (.func (.func 8) #[] #[]) [] H fun v5 H6 =>
  some [(v5, H6)])
  ((f3_r3 call k x1 H)) := by
  rw [s3_4]
  refine onV_c fun v1 => ?_
  refine onV_c fun v2 => ?_
  refine onV_c fun v3 => ?_
  refine onV_c fun v4 => ?_
  rw [hSeq_n]
  rw [n3_5]
  refine onBool_cc rfl ?_ ?_
  · rw [n3_6]
    rw [n3_7]
    rw [s3_5]
    refine onCall_c fun v5 H6 => ?_
    rw [hSeq_n]
    rw [n3_8]
    rw [hSeq_r]
    exact fin3_ret
  · rw [n3_9]
    rw [hSeq_n]
    rw [n3_10]
    exact f3_r3_eq call k
theorem f3_g1_5_eq (call : Handle) (k : Nat) : gOps Try.prog 0 call (opsAt (fAt Try.f3 [1,0,0])) ((opsAt (fAt Try.f3 [1,0,0])).drop 5) (x0::x1::x2::x3::x4::x5::x6::x7::x8::x9::x10::x11::x12::x13::x14::x15::x16::x17::x18::x19::x20::x21::x22::x23::x24::x25::x26::x27::x28::x29::x30::x31::x32::x33::x34::x35::x36::x37::x38::x39::x40::x41::x42::x43::x44::x45::x46::x47::x48::x49::x50::x51::x52::x53::x54::x55::x56::x57::x58::x59::x60::x61::x62::x63::x64::x65::x66::x67::x68::x69::x70::x71::x72::x73::x74::x75::x76::x77::x78::x79::x80::x81::x82::x83::x84::x85::x86::x87::x88::x89::x90::x91::x92::x93::x94::x95::x96::x97::x98::x99::x100::x101::x102::x103::x104::x105::x106::x107::x108::x109::x110::x111::x112::x113::x114::x115::x116::x117::x118::x119::x120::x121::x122::x123::x124::x125::x126::x127::x128::x129::x130::x131::x132::x133::x134::x135::x136::x137::x138::x139::x140::x141::x142::x143::x144::x145::x146::x147::x148::x149::x150::x151::x152::x153::x154::x155::x156::x157::x158::x159::x160::x161::x162::x163::x164::x165::x166::x167::x168::x169::x170::x171::x172::x173::[]) H ((hSeq (gCode Try.prog call k (fAt Try.f3 [1,0,1])) (hSeq (gCode Try.prog call k (fAt Try.f3 [1,1])) (hFin Try.prog Try.f3))) .normal) =
  f3_g1_5 call k x18 x1 H := by
  cases x18 with
  | bool b => cases b with
    | true => exact f3_g1_5_true call k
    | false => exact f3_g1_5_false call k
  | _ => kernel_rfl
noncomputable def f3_sh (call : Handle) (k : Nat) (p0 : Value) (H : GH) : M (Value × GH) :=
  onV (gLoad Try.prog 22 (.pointer (some ⟨H.n, 0, none⟩)) (GH.push H (.row (Value.cells p0).toList 24 false))) fun v1 =>
  onV (oLen Try.prog 22 v1) fun v2 =>
  onV ((oBin Try.prog .gtr 3 v2 (.int .i64 45)).filter closed) fun v3 =>
  (f3_g1_5 call k v3 (.pointer (some ⟨H.n, 0, none⟩)) (GH.push H (.row (Value.cells p0).toList 24 false)))
theorem f3_run (call : Handle) (k : Nat) (p0 : Value) (H : GH) : gCode Try.prog call k (fAt Try.f3 []) (p0::undef::undef::undef::undef::undef::undef::undef::undef::undef::undef::undef::undef::undef::undef::undef::undef::undef::undef::undef::undef::undef::undef::undef::undef::undef::undef::undef::undef::undef::undef::undef::undef::undef::undef::undef::undef::undef::undef::undef::undef::undef::undef::undef::undef::undef::undef::undef::undef::undef::undef::undef::undef::undef::undef::undef::undef::undef::undef::undef::undef::undef::undef::undef::undef::undef::undef::undef::undef::undef::undef::undef::undef::undef::undef::undef::undef::undef::undef::undef::undef::undef::undef::undef::undef::undef::undef::undef::undef::undef::undef::undef::undef::undef::undef::undef::undef::undef::undef::undef::undef::undef::undef::undef::undef::undef::undef::undef::undef::undef::undef::undef::undef::undef::undef::undef::undef::undef::undef::undef::undef::undef::undef::undef::undef::undef::undef::undef::undef::undef::undef::undef::undef::undef::undef::undef::undef::undef::undef::undef::undef::undef::undef::undef::undef::undef::undef::undef::undef::undef::undef::undef::undef::undef::undef::undef::undef::undef::undef::undef::undef::undef::undef::undef::undef::undef::undef::undef::undef::undef::undef::undef::undef::undef::[]) H (hFin Try.prog Try.f3) = f3_sh call k p0 H := by
  unfold f3_sh
  rw [n3_0]
  rw [n3_1]
  rw [s3_0]
  rw [hSeq_n]
  rw [n3_2]
  rw [n3_3]
  rw [n3_4]
  rw [gOps_split 0 5, s3_1]
  refine onV_c fun v1 => ?_
  refine onV_c fun v2 => ?_
  refine onV_c fun v3 => ?_
  exact f3_g1_5_eq call k
theorem f3_eq (call : Handle) (k : Nat) (p0 : Value) (H : GH) : gFunc Try.prog call k Try.f3 [p0] H = f3_sh call k p0 H :=
  Eq.trans (by kernel_rfl) (f3_run call k p0 H)
end
end Go.Proofs.Ythicilkmjamefaa
