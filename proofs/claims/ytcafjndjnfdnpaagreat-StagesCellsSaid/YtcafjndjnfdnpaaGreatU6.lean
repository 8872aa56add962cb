/- Contracts of the functions, and what they rest on: part 6. -/
import Derived.Test.YtcafjndjnfdnpaaGreatU5
set_option linter.unusedVariables false
set_option linter.unusedSimpArgs false
namespace Go.Abs
open Go.RowKit Go.Proofs
def tab0 (t:Nat):TD:=(if t<8 then (if t<4 then (if t<2 then (if t<1 then ⟨.other,0,0,false,none,[]⟩ else ⟨.func,1,8,false,none,[.any]⟩) else (if t<3 then ⟨.int .i64,1,8,false,none,[.int .i64 0]⟩ else ⟨.int .i64,1,8,false,none,[.int .i64 0]⟩)) else (if t<6 then (if t<5 then ⟨.bool,1,1,false,none,[.bool false]⟩ else ⟨.int .u8,1,1,false,none,[.int .u8 0]⟩) else (if t<7 then ⟨.int .u8,1,1,false,none,[.int .u8 0]⟩ else ⟨.struct [(0,2),(1,3),(2,4),(3,6)],4,24,true,some [.int,.int,.bool,.int],[.int .i64 0,.int .i64 0,.bool false,.int .u8 0]⟩))) else (if t<12 then (if t<10 then (if t<9 then ⟨.struct [(0,2),(1,3),(2,4),(3,6)],4,24,true,some [.int,.int,.bool,.int],[.int .i64 0,.int .i64 0,.bool false,.int .u8 0]⟩ else ⟨.str,1,16,false,none,[.str ByteArray.empty]⟩) else (if t<11 then ⟨.str,1,16,false,none,[.str ByteArray.empty]⟩ else ⟨.str,1,16,false,none,[.str ByteArray.empty]⟩)) else (if t<14 then (if t<13 then ⟨.int .u64,1,8,false,none,[.int .u64 0]⟩ else ⟨.struct [(0,9),(1,12)],2,24,true,none,[.str ByteArray.empty,.int .u64 0]⟩) else (if t<15 then ⟨.struct [(0,9),(1,12)],2,24,true,none,[.str ByteArray.empty,.int .u64 0]⟩ else ⟨.ptr 371,1,8,false,none,[.any]⟩))))
def tab1 (t:Nat):TD:=(if t<24 then (if t<20 then (if t<18 then (if t<17 then ⟨.ptr 374,1,8,false,none,[.any]⟩ else ⟨.ptr 382,1,8,false,none,[.any]⟩) else (if t<19 then ⟨.struct [(0,17)],1,8,true,none,[.any]⟩ else ⟨.struct [(0,17)],1,8,true,none,[.any]⟩)) else (if t<22 then (if t<21 then ⟨.other,1,16,false,none,[.any]⟩ else ⟨.int .i32,1,4,false,none,[.int .i32 0]⟩) else (if t<23 then ⟨.slice 210,1,24,false,none,[.list 0 []]⟩ else ⟨.slice 212,1,24,false,none,[.list 0 []]⟩))) else (if t<28 then (if t<26 then (if t<25 then ⟨.slice 55,1,24,false,none,[.list 0 []]⟩ else ⟨.slice 29,1,24,false,none,[.list 0 []]⟩) else (if t<27 then ⟨.slice 93,1,24,false,none,[.list 0 []]⟩ else ⟨.struct [(0,3),(1,22),(2,23),(3,24),(4,25),(5,26)],6,128,true,none,[.int .i64 0,.list 0 [],.list 0 [],.list 0 [],.list 0 [],.list 0 []]⟩)) else (if t<30 then (if t<29 then ⟨.struct [(0,3),(1,22),(2,23),(3,24),(4,25),(5,26)],6,128,true,none,[.int .i64 0,.list 0 [],.list 0 [],.list 0 [],.list 0 [],.list 0 []]⟩ else ⟨.slice 3,1,24,false,none,[.list 0 []]⟩) else (if t<31 then ⟨.struct [(0,3),(1,3)],2,16,true,some [.int,.int],[.int .i64 0,.int .i64 0]⟩ else ⟨.struct [(0,3),(1,3)],2,16,true,some [.int,.int],[.int .i64 0,.int .i64 0]⟩))))
def tab2 (t:Nat):TD:=(if t<40 then (if t<36 then (if t<34 then (if t<33 then ⟨.struct [(0,3),(1,3),(2,3),(3,9),(4,29),(5,31),(7,4)],8,88,true,none,[.int .i64 0,.int .i64 0,.int .i64 0,.str ByteArray.empty,.list 0 [],.int .i64 0,.int .i64 0,.bool false]⟩ else ⟨.struct [(0,3),(1,3),(2,3),(3,9),(4,29),(5,31),(7,4)],8,88,true,none,[.int .i64 0,.int .i64 0,.int .i64 0,.str ByteArray.empty,.list 0 [],.int .i64 0,.int .i64 0,.bool false]⟩) else (if t<35 then ⟨.struct [(0,3),(1,3),(2,3),(3,4)],4,32,true,some [.int,.int,.int,.bool],[.int .i64 0,.int .i64 0,.int .i64 0,.bool false]⟩ else ⟨.struct [(0,3),(1,3),(2,3),(3,4)],4,32,true,some [.int,.int,.int,.bool],[.int .i64 0,.int .i64 0,.int .i64 0,.bool false]⟩)) else (if t<38 then (if t<37 then ⟨.int .u64,1,8,false,none,[.int .u64 0]⟩ else ⟨.int .i8,1,1,false,none,[.int .i8 0]⟩) else (if t<39 then ⟨.func,1,8,false,none,[.any]⟩ else ⟨.func,1,8,false,none,[.any]⟩))) else (if t<44 then (if t<42 then (if t<41 then ⟨.func,1,8,false,none,[.any]⟩ else ⟨.int .i64,1,8,false,none,[.int .i64 0]⟩) else (if t<43 then ⟨.func,1,8,false,none,[.any]⟩ else ⟨.other,0,0,false,none,[]⟩)) else (if t<46 then (if t<45 then ⟨.func,1,8,false,none,[.any]⟩ else ⟨.slice 49,1,24,false,none,[.list 0 []]⟩) else (if t<47 then ⟨.other,0,0,false,none,[]⟩ else ⟨.func,1,8,false,none,[.any]⟩))))
def tab3 (t:Nat):TD:=(if t<56 then (if t<52 then (if t<50 then (if t<49 then ⟨.struct [(0,3),(1,29)],2,32,true,none,[.int .i64 0,.list 0 []]⟩ else ⟨.struct [(0,3),(1,29)],2,32,true,none,[.int .i64 0,.list 0 []]⟩) else (if t<51 then ⟨.slice 85,1,24,false,none,[.list 0 []]⟩ else ⟨.other,0,0,false,none,[]⟩)) else (if t<54 then (if t<53 then ⟨.func,1,8,false,none,[.any]⟩ else ⟨.slice 60,1,24,false,none,[.list 0 []]⟩) else (if t<55 then ⟨.struct [(0,3),(1,3),(2,53)],3,40,true,none,[.int .i64 0,.int .i64 0,.list 0 []]⟩ else ⟨.struct [(0,3),(1,3),(2,53)],3,40,true,none,[.int .i64 0,.int .i64 0,.list 0 []]⟩))) else (if t<60 then (if t<58 then (if t<57 then ⟨.other,0,0,false,none,[]⟩ else ⟨.func,1,8,false,none,[.any]⟩) else (if t<59 then ⟨.slice 31,1,24,false,none,[.list 0 []]⟩ else ⟨.struct [(0,3),(1,3),(2,3),(3,58)],4,48,true,none,[.int .i64 0,.int .i64 0,.int .i64 0,.list 0 []]⟩)) else (if t<62 then (if t<61 then ⟨.struct [(0,3),(1,3),(2,3),(3,58)],4,48,true,none,[.int .i64 0,.int .i64 0,.int .i64 0,.list 0 []]⟩ else ⟨.struct [(0,3),(1,3),(2,3),(3,3),(4,9),(5,3)],6,56,true,some [.int,.int,.int,.int,.str,.int],[.int .i64 0,.int .i64 0,.int .i64 0,.int .i64 0,.str ByteArray.empty,.int .i64 0]⟩) else (if t<63 then ⟨.struct [(0,3),(1,3),(2,3),(3,3),(4,9),(5,3)],6,56,true,some [.int,.int,.int,.int,.str,.int],[.int .i64 0,.int .i64 0,.int .i64 0,.int .i64 0,.str ByteArray.empty,.int .i64 0]⟩ else ⟨.func,1,8,false,none,[.any]⟩))))
def tab4 (t:Nat):TD:=(if t<72 then (if t<68 then (if t<66 then (if t<65 then ⟨.slice 166,1,24,false,none,[.list 0 []]⟩ else ⟨.func,1,8,false,none,[.any]⟩) else (if t<67 then ⟨.other,0,0,false,none,[]⟩ else ⟨.func,1,8,false,none,[.any]⟩)) else (if t<70 then (if t<69 then ⟨.func,1,8,false,none,[.any]⟩ else ⟨.func,1,8,false,none,[.any]⟩) else (if t<71 then ⟨.slice 185,1,24,false,none,[.list 0 []]⟩ else ⟨.struct [(0,70)],1,24,true,none,[.list 0 []]⟩))) else (if t<76 then (if t<74 then (if t<73 then ⟨.struct [(0,70)],1,24,true,none,[.list 0 []]⟩ else ⟨.func,1,8,false,none,[.any]⟩) else (if t<75 then ⟨.slice 83,1,24,false,none,[.list 0 []]⟩ else ⟨.slice 35,1,24,false,none,[.list 0 []]⟩)) else (if t<78 then (if t<77 then ⟨.other,0,0,false,none,[]⟩ else ⟨.func,1,8,false,none,[.any]⟩) else (if t<79 then ⟨.func,1,8,false,none,[.any]⟩ else ⟨.func,1,8,false,none,[.any]⟩))))
def tab5 (t:Nat):TD:=(if t<88 then (if t<84 then (if t<82 then (if t<81 then ⟨.func,1,8,false,none,[.any]⟩ else ⟨.slice 100,1,24,false,none,[.list 0 []]⟩) else (if t<83 then ⟨.struct [(0,3),(1,3),(2,3),(3,81)],4,48,true,none,[.int .i64 0,.int .i64 0,.int .i64 0,.list 0 []]⟩ else ⟨.struct [(0,3),(1,3),(2,3),(3,81)],4,48,true,none,[.int .i64 0,.int .i64 0,.int .i64 0,.list 0 []]⟩)) else (if t<86 then (if t<85 then ⟨.struct [(0,4),(1,3),(2,31)],4,32,true,some [.bool,.int,.int,.int],[.bool false,.int .i64 0,.int .i64 0,.int .i64 0]⟩ else ⟨.struct [(0,4),(1,3),(2,31)],4,32,true,some [.bool,.int,.int,.int],[.bool false,.int .i64 0,.int .i64 0,.int .i64 0]⟩) else (if t<87 then ⟨.struct [(0,4),(1,3),(2,3)],3,24,true,some [.bool,.int,.int],[.bool false,.int .i64 0,.int .i64 0]⟩ else ⟨.struct [(0,4),(1,3),(2,3)],3,24,true,some [.bool,.int,.int],[.bool false,.int .i64 0,.int .i64 0]⟩))) else (if t<92 then (if t<90 then (if t<89 then ⟨.other,0,0,false,none,[]⟩ else ⟨.func,1,8,false,none,[.any]⟩) else (if t<91 then ⟨.func,1,8,false,none,[.any]⟩ else ⟨.slice 58,1,24,false,none,[.list 0 []]⟩)) else (if t<94 then (if t<93 then ⟨.struct [(0,3),(1,3),(2,3),(3,3),(4,3),(5,91)],6,64,true,none,[.int .i64 0,.int .i64 0,.int .i64 0,.int .i64 0,.int .i64 0,.list 0 []]⟩ else ⟨.struct [(0,3),(1,3),(2,3),(3,3),(4,3),(5,91)],6,64,true,none,[.int .i64 0,.int .i64 0,.int .i64 0,.int .i64 0,.int .i64 0,.list 0 []]⟩) else (if t<95 then ⟨.func,1,8,false,none,[.any]⟩ else ⟨.int .u32,1,4,false,none,[.int .u32 0]⟩))))
def tab6 (t:Nat):TD:=(if t<104 then (if t<100 then (if t<98 then (if t<97 then ⟨.other,0,0,false,none,[]⟩ else ⟨.func,1,8,false,none,[.any]⟩) else (if t<99 then ⟨.func,1,8,false,none,[.any]⟩ else ⟨.struct [(0,87),(3,3)],4,32,true,some [.bool,.int,.int,.int],[.bool false,.int .i64 0,.int .i64 0,.int .i64 0]⟩)) else (if t<102 then (if t<101 then ⟨.struct [(0,87),(3,3)],4,32,true,some [.bool,.int,.int,.int],[.bool false,.int .i64 0,.int .i64 0,.int .i64 0]⟩ else ⟨.func,1,8,false,none,[.any]⟩) else (if t<103 then ⟨.slice 109,1,24,false,none,[.list 0 []]⟩ else ⟨.func,1,8,false,none,[.any]⟩))) else (if t<108 then (if t<106 then (if t<105 then ⟨.slice 87,1,24,false,none,[.list 0 []]⟩ else ⟨.func,1,8,false,none,[.any]⟩) else (if t<107 then ⟨.slice 4,1,24,false,none,[.list 0 []]⟩ else ⟨.func,1,8,false,none,[.any]⟩)) else (if t<110 then (if t<109 then ⟨.struct [(0,3),(1,3),(2,29),(3,74)],4,64,true,none,[.int .i64 0,.int .i64 0,.list 0 [],.list 0 []]⟩ else ⟨.struct [(0,3),(1,3),(2,29),(3,74)],4,64,true,none,[.int .i64 0,.int .i64 0,.list 0 [],.list 0 []]⟩) else (if t<111 then ⟨.func,1,8,false,none,[.any]⟩ else ⟨.func,1,8,false,none,[.any]⟩))))
def tab7 (t:Nat):TD:=(if t<120 then (if t<116 then (if t<114 then (if t<113 then ⟨.func,1,8,false,none,[.any]⟩ else ⟨.func,1,8,false,none,[.any]⟩) else (if t<115 then ⟨.func,1,8,false,none,[.any]⟩ else ⟨.func,1,8,false,none,[.any]⟩)) else (if t<118 then (if t<117 then ⟨.func,1,8,false,none,[.any]⟩ else ⟨.func,1,8,false,none,[.any]⟩) else (if t<119 then ⟨.func,1,8,false,none,[.any]⟩ else ⟨.func,1,8,false,none,[.any]⟩))) else (if t<124 then (if t<122 then (if t<121 then ⟨.other,0,0,false,none,[]⟩ else ⟨.func,1,8,false,none,[.any]⟩) else (if t<123 then ⟨.slice 62,1,24,false,none,[.list 0 []]⟩ else ⟨.func,1,8,false,none,[.any]⟩)) else (if t<126 then (if t<125 then ⟨.struct [(0,29),(1,3),(2,3)],3,40,true,none,[.list 0 [],.int .i64 0,.int .i64 0]⟩ else ⟨.struct [(0,29),(1,3),(2,3)],3,40,true,none,[.list 0 [],.int .i64 0,.int .i64 0]⟩) else (if t<127 then ⟨.slice 125,1,24,false,none,[.list 0 []]⟩ else ⟨.func,1,8,false,none,[.any]⟩))))
def tab8 (t:Nat):TD:=(if t<136 then (if t<132 then (if t<130 then (if t<129 then ⟨.func,1,8,false,none,[.any]⟩ else ⟨.slice 384,1,24,false,none,[.list 0 []]⟩) else (if t<131 then ⟨.slice 386,1,24,false,none,[.list 0 []]⟩ else ⟨.slice 388,1,24,false,none,[.list 0 []]⟩)) else (if t<134 then (if t<133 then ⟨.slice 391,1,24,false,none,[.list 0 []]⟩ else ⟨.slice 393,1,24,false,none,[.list 0 []]⟩) else (if t<135 then ⟨.slice 395,1,24,false,none,[.list 0 []]⟩ else ⟨.struct [(0,129),(1,22),(2,23),(3,130),(4,131),(5,132),(6,133),(7,134)],8,192,true,none,[.list 0 [],.list 0 [],.list 0 [],.list 0 [],.list 0 [],.list 0 [],.list 0 [],.list 0 []]⟩))) else (if t<140 then (if t<138 then (if t<137 then ⟨.struct [(0,129),(1,22),(2,23),(3,130),(4,131),(5,132),(6,133),(7,134)],8,192,true,none,[.list 0 [],.list 0 [],.list 0 [],.list 0 [],.list 0 [],.list 0 [],.list 0 [],.list 0 []]⟩ else ⟨.func,1,8,false,none,[.any]⟩) else (if t<139 then ⟨.func,1,8,false,none,[.any]⟩ else ⟨.func,1,8,false,none,[.any]⟩)) else (if t<142 then (if t<141 then ⟨.func,1,8,false,none,[.any]⟩ else ⟨.func,1,8,false,none,[.any]⟩) else (if t<143 then ⟨.func,1,8,false,none,[.any]⟩ else ⟨.func,1,8,false,none,[.any]⟩))))
def tab9 (t:Nat):TD:=(if t<152 then (if t<148 then (if t<146 then (if t<145 then ⟨.func,1,8,false,none,[.any]⟩ else ⟨.func,1,8,false,none,[.any]⟩) else (if t<147 then ⟨.func,1,8,false,none,[.any]⟩ else ⟨.struct [(0,3),(1,3)],2,16,true,some [.int,.int],[.int .i64 0,.int .i64 0]⟩)) else (if t<150 then (if t<149 then ⟨.struct [(0,3),(1,3)],2,16,true,some [.int,.int],[.int .i64 0,.int .i64 0]⟩ else ⟨.slice 148,1,24,false,none,[.list 0 []]⟩) else (if t<151 then ⟨.struct [(0,3),(1,148),(3,149)],4,48,true,none,[.int .i64 0,.int .i64 0,.int .i64 0,.list 0 []]⟩ else ⟨.struct [(0,3),(1,148),(3,149)],4,48,true,none,[.int .i64 0,.int .i64 0,.int .i64 0,.list 0 []]⟩))) else (if t<156 then (if t<154 then (if t<153 then ⟨.other,0,0,false,none,[]⟩ else ⟨.func,1,8,false,none,[.any]⟩) else (if t<155 then ⟨.func,1,8,false,none,[.any]⟩ else ⟨.func,1,8,false,none,[.any]⟩)) else (if t<158 then (if t<157 then ⟨.func,1,8,false,none,[.any]⟩ else ⟨.func,1,8,false,none,[.any]⟩) else (if t<159 then ⟨.func,1,8,false,none,[.any]⟩ else ⟨.func,1,8,false,none,[.any]⟩))))
def tab10 (t:Nat):TD:=(if t<168 then (if t<164 then (if t<162 then (if t<161 then ⟨.func,1,8,false,none,[.any]⟩ else ⟨.func,1,8,false,none,[.any]⟩) else (if t<163 then ⟨.other,0,0,false,none,[]⟩ else ⟨.func,1,8,false,none,[.any]⟩)) else (if t<166 then (if t<165 then ⟨.slice 207,1,24,false,none,[.list 0 []]⟩ else ⟨.struct [(0,3),(1,3),(2,164)],3,40,true,none,[.int .i64 0,.int .i64 0,.list 0 []]⟩) else (if t<167 then ⟨.struct [(0,3),(1,3),(2,164)],3,40,true,none,[.int .i64 0,.int .i64 0,.list 0 []]⟩ else ⟨.func,1,8,false,none,[.any]⟩))) else (if t<172 then (if t<170 then (if t<169 then ⟨.func,1,8,false,none,[.any]⟩ else ⟨.func,1,8,false,none,[.any]⟩) else (if t<171 then ⟨.map 3 3,1,8,false,none,[.map [] []]⟩ else ⟨.func,1,8,false,none,[.any]⟩)) else (if t<174 then (if t<173 then ⟨.func,1,8,false,none,[.any]⟩ else ⟨.func,1,8,false,none,[.any]⟩) else (if t<175 then ⟨.func,1,8,false,none,[.any]⟩ else ⟨.other,0,0,false,none,[]⟩))))
def tab11 (t:Nat):TD:=(if t<184 then (if t<180 then (if t<178 then (if t<177 then ⟨.func,1,8,false,none,[.any]⟩ else ⟨.func,1,8,false,none,[.any]⟩) else (if t<179 then ⟨.func,1,8,false,none,[.any]⟩ else ⟨.func,1,8,false,none,[.any]⟩)) else (if t<182 then (if t<181 then ⟨.func,1,8,false,none,[.any]⟩ else ⟨.func,1,8,false,none,[.any]⟩) else (if t<183 then ⟨.func,1,8,false,none,[.any]⟩ else ⟨.func,1,8,false,none,[.any]⟩))) else (if t<188 then (if t<186 then (if t<185 then ⟨.struct [(0,3),(1,3),(2,29)],3,40,true,none,[.int .i64 0,.int .i64 0,.list 0 []]⟩ else ⟨.struct [(0,3),(1,3),(2,29)],3,40,true,none,[.int .i64 0,.int .i64 0,.list 0 []]⟩) else (if t<187 then ⟨.other,0,0,false,none,[]⟩ else ⟨.func,1,8,false,none,[.any]⟩)) else (if t<190 then (if t<189 then ⟨.func,1,8,false,none,[.any]⟩ else ⟨.other,0,0,false,none,[]⟩) else (if t<191 then ⟨.func,1,8,false,none,[.any]⟩ else ⟨.other,0,0,false,none,[]⟩))))
def tab12 (t:Nat):TD:=(if t<200 then (if t<196 then (if t<194 then (if t<193 then ⟨.func,1,8,false,none,[.any]⟩ else ⟨.map 87 4,1,8,false,none,[.map [] []]⟩) else (if t<195 then ⟨.func,1,8,false,none,[.any]⟩ else ⟨.func,1,8,false,none,[.any]⟩)) else (if t<198 then (if t<197 then ⟨.func,1,8,false,none,[.any]⟩ else ⟨.func,1,8,false,none,[.any]⟩) else (if t<199 then ⟨.func,1,8,false,none,[.any]⟩ else ⟨.func,1,8,false,none,[.any]⟩))) else (if t<204 then (if t<202 then (if t<201 then ⟨.func,1,8,false,none,[.any]⟩ else ⟨.func,1,8,false,none,[.any]⟩) else (if t<203 then ⟨.func,1,8,false,none,[.any]⟩ else ⟨.func,1,8,false,none,[.any]⟩)) else (if t<206 then (if t<205 then ⟨.func,1,8,false,none,[.any]⟩ else ⟨.func,1,8,false,none,[.any]⟩) else (if t<207 then ⟨.struct [(0,4),(1,3),(2,31),(4,3)],5,40,true,some [.bool,.int,.int,.int,.int],[.bool false,.int .i64 0,.int .i64 0,.int .i64 0,.int .i64 0]⟩ else ⟨.struct [(0,4),(1,3),(2,31),(4,3)],5,40,true,some [.bool,.int,.int,.int,.int],[.bool false,.int .i64 0,.int .i64 0,.int .i64 0,.int .i64 0]⟩))))
def tab13 (t:Nat):TD:=(if t<216 then (if t<212 then (if t<210 then (if t<209 then ⟨.slice 9,1,24,false,none,[.list 0 []]⟩ else ⟨.struct [(0,9),(1,208),(2,29),(3,3),(4,3)],5,80,true,none,[.str ByteArray.empty,.list 0 [],.list 0 [],.int .i64 0,.int .i64 0]⟩) else (if t<211 then ⟨.struct [(0,9),(1,208),(2,29),(3,3),(4,3)],5,80,true,none,[.str ByteArray.empty,.list 0 [],.list 0 [],.int .i64 0,.int .i64 0]⟩ else ⟨.struct [(0,9),(1,208),(2,29)],3,64,true,none,[.str ByteArray.empty,.list 0 [],.list 0 []]⟩)) else (if t<214 then (if t<213 then ⟨.struct [(0,9),(1,208),(2,29)],3,64,true,none,[.str ByteArray.empty,.list 0 [],.list 0 []]⟩ else ⟨.func,1,8,false,none,[.any]⟩) else (if t<215 then ⟨.func,1,8,false,none,[.any]⟩ else ⟨.func,1,8,false,none,[.any]⟩))) else (if t<220 then (if t<218 then (if t<217 then ⟨.array 4 3,4,32,true,none,[.int .i64 0,.int .i64 0,.int .i64 0,.int .i64 0]⟩ else ⟨.func,1,8,false,none,[.any]⟩) else (if t<219 then ⟨.func,1,8,false,none,[.any]⟩ else ⟨.func,1,8,false,none,[.any]⟩)) else (if t<222 then (if t<221 then ⟨.func,1,8,false,none,[.any]⟩ else ⟨.func,1,8,false,none,[.any]⟩) else (if t<223 then ⟨.func,1,8,false,none,[.any]⟩ else ⟨.func,1,8,false,none,[.any]⟩))))
def tab14 (t:Nat):TD:=(if t<232 then (if t<228 then (if t<226 then (if t<225 then ⟨.func,1,8,false,none,[.any]⟩ else ⟨.func,1,8,false,none,[.any]⟩) else (if t<227 then ⟨.func,1,8,false,none,[.any]⟩ else ⟨.func,1,8,false,none,[.any]⟩)) else (if t<230 then (if t<229 then ⟨.func,1,8,false,none,[.any]⟩ else ⟨.func,1,8,false,none,[.any]⟩) else (if t<231 then ⟨.func,1,8,false,none,[.any]⟩ else ⟨.func,1,8,false,none,[.any]⟩))) else (if t<236 then (if t<234 then (if t<233 then ⟨.func,1,8,false,none,[.any]⟩ else ⟨.func,1,8,false,none,[.any]⟩) else (if t<235 then ⟨.func,1,8,false,none,[.any]⟩ else ⟨.func,1,8,false,none,[.any]⟩)) else (if t<238 then (if t<237 then ⟨.other,0,0,false,none,[]⟩ else ⟨.func,1,8,false,none,[.any]⟩) else (if t<239 then ⟨.func,1,8,false,none,[.any]⟩ else ⟨.func,1,8,false,none,[.any]⟩))))
def tab15 (t:Nat):TD:=(if t<248 then (if t<244 then (if t<242 then (if t<241 then ⟨.func,1,8,false,none,[.any]⟩ else ⟨.func,1,8,false,none,[.any]⟩) else (if t<243 then ⟨.func,1,8,false,none,[.any]⟩ else ⟨.func,1,8,false,none,[.any]⟩)) else (if t<246 then (if t<245 then ⟨.func,1,8,false,none,[.any]⟩ else ⟨.func,1,8,false,none,[.any]⟩) else (if t<247 then ⟨.func,1,8,false,none,[.any]⟩ else ⟨.func,1,8,false,none,[.any]⟩))) else (if t<252 then (if t<250 then (if t<249 then ⟨.func,1,8,false,none,[.any]⟩ else ⟨.func,1,8,false,none,[.any]⟩) else (if t<251 then ⟨.func,1,8,false,none,[.any]⟩ else ⟨.func,1,8,false,none,[.any]⟩)) else (if t<254 then (if t<253 then ⟨.func,1,8,false,none,[.any]⟩ else ⟨.func,1,8,false,none,[.any]⟩) else (if t<255 then ⟨.func,1,8,false,none,[.any]⟩ else ⟨.func,1,8,false,none,[.any]⟩))))
def tab16 (t:Nat):TD:=(if t<264 then (if t<260 then (if t<258 then (if t<257 then ⟨.func,1,8,false,none,[.any]⟩ else ⟨.func,1,8,false,none,[.any]⟩) else (if t<259 then ⟨.func,1,8,false,none,[.any]⟩ else ⟨.func,1,8,false,none,[.any]⟩)) else (if t<262 then (if t<261 then ⟨.func,1,8,false,none,[.any]⟩ else ⟨.func,1,8,false,none,[.any]⟩) else (if t<263 then ⟨.func,1,8,false,none,[.any]⟩ else ⟨.func,1,8,false,none,[.any]⟩))) else (if t<268 then (if t<266 then (if t<265 then ⟨.struct [(0,93)],6,64,true,none,[.int .i64 0,.int .i64 0,.int .i64 0,.int .i64 0,.int .i64 0,.list 0 []]⟩ else ⟨.struct [(0,93)],6,64,true,none,[.int .i64 0,.int .i64 0,.int .i64 0,.int .i64 0,.int .i64 0,.list 0 []]⟩) else (if t<267 then ⟨.slice 320,1,24,false,none,[.list 0 []]⟩ else ⟨.other,0,0,false,none,[]⟩)) else (if t<270 then (if t<269 then ⟨.func,1,8,false,none,[.any]⟩ else ⟨.func,1,8,false,none,[.any]⟩) else (if t<271 then ⟨.func,1,8,false,none,[.any]⟩ else ⟨.func,1,8,false,none,[.any]⟩))))
def tab17 (t:Nat):TD:=(if t<280 then (if t<276 then (if t<274 then (if t<273 then ⟨.func,1,8,false,none,[.any]⟩ else ⟨.func,1,8,false,none,[.any]⟩) else (if t<275 then ⟨.func,1,8,false,none,[.any]⟩ else ⟨.func,1,8,false,none,[.any]⟩)) else (if t<278 then (if t<277 then ⟨.func,1,8,false,none,[.any]⟩ else ⟨.func,1,8,false,none,[.any]⟩) else (if t<279 then ⟨.func,1,8,false,none,[.any]⟩ else ⟨.func,1,8,false,none,[.any]⟩))) else (if t<284 then (if t<282 then (if t<281 then ⟨.func,1,8,false,none,[.any]⟩ else ⟨.other,0,0,false,none,[]⟩) else (if t<283 then ⟨.func,1,8,false,none,[.any]⟩ else ⟨.func,1,8,false,none,[.any]⟩)) else (if t<286 then (if t<285 then ⟨.func,1,8,false,none,[.any]⟩ else ⟨.func,1,8,false,none,[.any]⟩) else (if t<287 then ⟨.func,1,8,false,none,[.any]⟩ else ⟨.func,1,8,false,none,[.any]⟩))))
def tab18 (t:Nat):TD:=(if t<296 then (if t<292 then (if t<290 then (if t<289 then ⟨.slice 104,1,24,false,none,[.list 0 []]⟩ else ⟨.other,0,0,false,none,[]⟩) else (if t<291 then ⟨.func,1,8,false,none,[.any]⟩ else ⟨.func,1,8,false,none,[.any]⟩)) else (if t<294 then (if t<293 then ⟨.func,1,8,false,none,[.any]⟩ else ⟨.func,1,8,false,none,[.any]⟩) else (if t<295 then ⟨.map 87 3,1,8,false,none,[.map [] []]⟩ else ⟨.other,0,0,false,none,[]⟩))) else (if t<300 then (if t<298 then (if t<297 then ⟨.func,1,8,false,none,[.any]⟩ else ⟨.func,1,8,false,none,[.any]⟩) else (if t<299 then ⟨.func,1,8,false,none,[.any]⟩ else ⟨.int .i64,1,8,false,none,[.int .i64 0]⟩)) else (if t<302 then (if t<301 then ⟨.other,0,0,false,none,[]⟩ else ⟨.func,1,8,false,none,[.any]⟩) else (if t<303 then ⟨.func,1,8,false,none,[.any]⟩ else ⟨.func,1,8,false,none,[.any]⟩))))
def tab19 (t:Nat):TD:=(if t<312 then (if t<308 then (if t<306 then (if t<305 then ⟨.func,1,8,false,none,[.any]⟩ else ⟨.func,1,8,false,none,[.any]⟩) else (if t<307 then ⟨.func,1,8,false,none,[.any]⟩ else ⟨.int .u64,1,8,false,none,[.int .u64 0]⟩)) else (if t<310 then (if t<309 then ⟨.func,1,8,false,none,[.any]⟩ else ⟨.func,1,8,false,none,[.any]⟩) else (if t<311 then ⟨.func,1,8,false,none,[.any]⟩ else ⟨.func,1,8,false,none,[.any]⟩))) else (if t<316 then (if t<314 then (if t<313 then ⟨.func,1,8,false,none,[.any]⟩ else ⟨.func,1,8,false,none,[.any]⟩) else (if t<315 then ⟨.func,1,8,false,none,[.any]⟩ else ⟨.func,1,8,false,none,[.any]⟩)) else (if t<318 then (if t<317 then ⟨.slice 319,1,24,false,none,[.list 0 []]⟩ else ⟨.other,0,0,false,none,[]⟩) else (if t<319 then ⟨.func,1,8,false,none,[.any]⟩ else ⟨.int .u64,1,8,false,none,[.int .u64 0]⟩))))
def tab20 (t:Nat):TD:=(if t<328 then (if t<324 then (if t<322 then (if t<321 then ⟨.map 319 4,1,8,false,none,[.map [] []]⟩ else ⟨.func,1,8,false,none,[.any]⟩) else (if t<323 then ⟨.func,1,8,false,none,[.any]⟩ else ⟨.func,1,8,false,none,[.any]⟩)) else (if t<326 then (if t<325 then ⟨.func,1,8,false,none,[.any]⟩ else ⟨.func,1,8,false,none,[.any]⟩) else (if t<327 then ⟨.func,1,8,false,none,[.any]⟩ else ⟨.func,1,8,false,none,[.any]⟩))) else (if t<332 then (if t<330 then (if t<329 then ⟨.func,1,8,false,none,[.any]⟩ else ⟨.func,1,8,false,none,[.any]⟩) else (if t<331 then ⟨.func,1,8,false,none,[.any]⟩ else ⟨.func,1,8,false,none,[.any]⟩)) else (if t<334 then (if t<333 then ⟨.func,1,8,false,none,[.any]⟩ else ⟨.func,1,8,false,none,[.any]⟩) else (if t<335 then ⟨.other,0,0,false,none,[]⟩ else ⟨.func,1,8,false,none,[.any]⟩))))
def tab21 (t:Nat):TD:=(if t<344 then (if t<340 then (if t<338 then (if t<337 then ⟨.func,1,8,false,none,[.any]⟩ else ⟨.func,1,8,false,none,[.any]⟩) else (if t<339 then ⟨.func,1,8,false,none,[.any]⟩ else ⟨.func,1,8,false,none,[.any]⟩)) else (if t<342 then (if t<341 then ⟨.func,1,8,false,none,[.any]⟩ else ⟨.func,1,8,false,none,[.any]⟩) else (if t<343 then ⟨.int .u64,1,8,false,none,[.int .u64 0]⟩ else ⟨.func,1,8,false,none,[.any]⟩))) else (if t<348 then (if t<346 then (if t<345 then ⟨.func,1,8,false,none,[.any]⟩ else ⟨.func,1,8,false,none,[.any]⟩) else (if t<347 then ⟨.ptr 3,1,8,false,none,[.any]⟩ else ⟨.func,1,8,false,none,[.any]⟩)) else (if t<350 then (if t<349 then ⟨.ptr 351,1,8,false,none,[.any]⟩ else ⟨.func,1,8,false,none,[.any]⟩) else (if t<351 then ⟨.array 1440 4,1440,1440,true,none,List.replicate 1440 (.bool false)⟩ else ⟨.array 1440 4,1440,1440,true,none,List.replicate 1440 (.bool false)⟩))))
def tab22 (t:Nat):TD:=(if t<360 then (if t<356 then (if t<354 then (if t<353 then ⟨.func,1,8,false,none,[.any]⟩ else ⟨.func,1,8,false,none,[.any]⟩) else (if t<355 then ⟨.func,1,8,false,none,[.any]⟩ else ⟨.func,1,8,false,none,[.any]⟩)) else (if t<358 then (if t<357 then ⟨.func,1,8,false,none,[.any]⟩ else ⟨.other,0,0,false,none,[]⟩) else (if t<359 then ⟨.func,1,8,false,none,[.any]⟩ else ⟨.func,1,8,false,none,[.any]⟩))) else (if t<364 then (if t<362 then (if t<361 then ⟨.func,1,8,false,none,[.any]⟩ else ⟨.ptr 342,1,8,false,none,[.any]⟩) else (if t<363 then ⟨.other,0,0,false,none,[]⟩ else ⟨.func,1,8,false,none,[.any]⟩)) else (if t<366 then (if t<365 then ⟨.func,1,8,false,none,[.any]⟩ else ⟨.func,1,8,false,none,[.any]⟩) else (if t<367 then ⟨.func,1,8,false,none,[.any]⟩ else ⟨.func,1,8,false,none,[.any]⟩))))
def tab23 (t:Nat):TD:=(if t<376 then (if t<372 then (if t<370 then (if t<369 then ⟨.func,1,8,false,none,[.any]⟩ else ⟨.func,1,8,false,none,[.any]⟩) else (if t<371 then ⟨.struct [(0,17),(1,17),(2,17),(3,9)],4,40,true,none,[.any,.any,.any,.str ByteArray.empty]⟩ else ⟨.struct [(0,17),(1,17),(2,17),(3,9)],4,40,true,none,[.any,.any,.any,.str ByteArray.empty]⟩)) else (if t<374 then (if t<373 then ⟨.array 0 16,0,0,true,none,[]⟩ else ⟨.struct [(0,372)],0,0,true,none,[]⟩) else (if t<375 then ⟨.struct [(0,372)],0,0,true,none,[]⟩ else ⟨.int .u8,1,1,false,none,[.int .u8 0]⟩))) else (if t<380 then (if t<378 then (if t<377 then ⟨.int .u8,1,1,false,none,[.int .u8 0]⟩ else ⟨.func,1,8,false,none,[.any]⟩) else (if t<379 then ⟨.ptr 5,1,8,false,none,[.any]⟩ else ⟨.int .i32,1,4,false,none,[.int .i32 0]⟩)) else (if t<382 then (if t<381 then ⟨.int .i32,1,4,false,none,[.int .i32 0]⟩ else ⟨.struct [(0,12),(1,12),(2,95),(3,375),(4,5),(5,5),(6,376),(7,377),(8,378),(9,379),(10,380)],11,48,true,none,[.int .u64 0,.int .u64 0,.int .u32 0,.int .u8 0,.int .u8 0,.int .u8 0,.int .u8 0,.any,.any,.int .i32 0,.int .i32 0]⟩) else (if t<383 then ⟨.struct [(0,12),(1,12),(2,95),(3,375),(4,5),(5,5),(6,376),(7,377),(8,378),(9,379),(10,380)],11,48,true,none,[.int .u64 0,.int .u64 0,.int .u32 0,.int .u8 0,.int .u8 0,.int .u8 0,.int .u8 0,.any,.any,.int .i32 0,.int .i32 0]⟩ else ⟨.struct [(0,9),(1,58)],2,40,true,none,[.str ByteArray.empty,.list 0 []]⟩))))
def tab24 (t:Nat):TD:=(if t<391 then (if t<387 then (if t<385 then ⟨.struct [(0,9),(1,58)],2,40,true,none,[.str ByteArray.empty,.list 0 []]⟩ else (if t<386 then ⟨.struct [(0,9),(1,9),(2,3),(3,3),(4,58)],5,72,true,none,[.str ByteArray.empty,.str ByteArray.empty,.int .i64 0,.int .i64 0,.list 0 []]⟩ else ⟨.struct [(0,9),(1,9),(2,3),(3,3),(4,58)],5,72,true,none,[.str ByteArray.empty,.str ByteArray.empty,.int .i64 0,.int .i64 0,.list 0 []]⟩)) else (if t<389 then (if t<388 then ⟨.struct [(0,9),(1,9),(2,9),(3,3),(4,3),(5,208),(6,29)],7,112,true,none,[.str ByteArray.empty,.str ByteArray.empty,.str ByteArray.empty,.int .i64 0,.int .i64 0,.list 0 [],.list 0 []]⟩ else ⟨.struct [(0,9),(1,9),(2,9),(3,3),(4,3),(5,208),(6,29)],7,112,true,none,[.str ByteArray.empty,.str ByteArray.empty,.str ByteArray.empty,.int .i64 0,.int .i64 0,.list 0 [],.list 0 []]⟩) else (if t<390 then ⟨.slice 398,1,24,false,none,[.list 0 []]⟩ else ⟨.struct [(0,9),(1,389)],2,40,true,none,[.str ByteArray.empty,.list 0 []]⟩))) else (if t<395 then (if t<393 then (if t<392 then ⟨.struct [(0,9),(1,389)],2,40,true,none,[.str ByteArray.empty,.list 0 []]⟩ else ⟨.struct [(0,9),(1,3),(2,3),(3,3)],4,40,true,some [.str,.int,.int,.int],[.str ByteArray.empty,.int .i64 0,.int .i64 0,.int .i64 0]⟩) else (if t<394 then ⟨.struct [(0,9),(1,3),(2,3),(3,3)],4,40,true,some [.str,.int,.int,.int],[.str ByteArray.empty,.int .i64 0,.int .i64 0,.int .i64 0]⟩ else ⟨.struct [(0,3),(1,9),(2,9),(3,3),(4,3),(5,3),(6,31)],8,80,true,some [.int,.str,.str,.int,.int,.int,.int,.int],[.int .i64 0,.str ByteArray.empty,.str ByteArray.empty,.int .i64 0,.int .i64 0,.int .i64 0,.int .i64 0,.int .i64 0]⟩)) else (if t<397 then (if t<396 then ⟨.struct [(0,3),(1,9),(2,9),(3,3),(4,3),(5,3),(6,31)],8,80,true,some [.int,.str,.str,.int,.int,.int,.int,.int],[.int .i64 0,.str ByteArray.empty,.str ByteArray.empty,.int .i64 0,.int .i64 0,.int .i64 0,.int .i64 0,.int .i64 0]⟩ else ⟨.other,1,8,false,none,[.any]⟩) else (if t<398 then ⟨.struct [(0,9),(1,3)],2,24,true,some [.str,.int],[.str ByteArray.empty,.int .i64 0]⟩ else ⟨.struct [(0,9),(1,3)],2,24,true,some [.str,.int],[.str ByteArray.empty,.int .i64 0]⟩))))
def tab (t:Nat):TD:=if t<399 then (if t<192 then (if t<96 then (if t<48 then (if t<16 then tab0 t else (if t<32 then tab1 t else tab2 t)) else (if t<64 then tab3 t else (if t<80 then tab4 t else tab5 t))) else (if t<144 then (if t<112 then tab6 t else (if t<128 then tab7 t else tab8 t)) else (if t<160 then tab9 t else (if t<176 then tab10 t else tab11 t)))) else (if t<288 then (if t<240 then (if t<208 then tab12 t else (if t<224 then tab13 t else tab14 t)) else (if t<256 then tab15 t else (if t<272 then tab16 t else tab17 t))) else (if t<336 then (if t<304 then tab18 t else (if t<320 then tab19 t else tab20 t)) else (if t<368 then (if t<352 then tab21 t else tab22 t) else (if t<384 then tab23 t else tab24 t))))) else ⟨.other,0,0,false,none,[]⟩
theorem tab_list:(List.range 399).map tab=(List.range 399).map (tdOf Tryz.prog):=by kernel_rfl
theorem env_ok {clo:FuncId→Bool} {rows:Bool}:EnvOk ⟨Tryz.prog,tab,clo,rows,YS.none⟩:=envOk_tab clo rows 399 tab_list (fun t h=>by unfold tab;rw [if_neg (by omega)];rfl) (by kernel_rfl)
end Go.Abs
namespace Go.Abs
open Go.RowKit
structure Span where
 From:Int
 To:Int
deriving DecidableEq
structure Sector where
 Name:ByteArray
 Names:List ByteArray
 Volumes:List Int
 Radar:Int
 Procedural:Int
structure Config where
 Name:ByteArray
 Names:List ByteArray
 Sectors:List Int
structure Leg where
 Segment:Int
 Volume:Int
 Length:Int
 Minutes:List Span
structure Way where
 From:Int
 To:Int
 Legs:List Leg
structure Kind where
 Slow:Int
 Fast:Int
 Places:Int
 Weight:Int
 Longest:Int
 Curfews:List (List Span)
structure Tables where
 Volumes:Int
 Sectors:List Sector
 Configs:List Config
 Ways:List Way
 Modes:List (List Int)
 Kinds:List Kind
structure Flight where
 ID:Int
 Airline:Int
 Class:Int
 Call:ByteArray
 Ways:List Int
 Window:Span
 Cancel:Bool
structure Opt where
 Delay:Int
 Way:Int
 Hold:Int
 Cancel:Bool
deriving DecidableEq
structure Bound where
 Lo:Int
 Hi:Int
deriving DecidableEq
structure Stay where
 Airport:Bool
 Index:Int
 Minutes:Span
deriving DecidableEq
structure Path where
 Way:Int
 Times:List Int
def encInt (n:Int):PV:=.int .i64 n
def encInts (l:List Int):List PV:=l.map encInt
def encStr (s:ByteArray):PV:=.str s
def encStrs (l:List ByteArray):List PV:=l.map encStr
def encSpan (s:Span):PV:=.agg [.int .i64 s.From,.int .i64 s.To]
def encSpans (l:List Span):List PV:=l.map encSpan
def encSpanL (l:List Span):PV:=.list 2 (encSpans l)
def encSpanLs (l:List (List Span)):List PV:=l.map encSpanL
def encIntL (l:List Int):PV:=.list 1 (encInts l)
def encIntLs (l:List (List Int)):List PV:=l.map encIntL
def encSector (s:Sector):PV:=.agg [.str s.Name,.list 1 (encStrs s.Names),.list 1 (encInts s.Volumes),.int .i64 s.Radar,.int .i64 s.Procedural]
def encSectors (l:List Sector):List PV:=l.map encSector
def encConfig (s:Config):PV:=.agg [.str s.Name,.list 1 (encStrs s.Names),.list 1 (encInts s.Sectors)]
def encConfigs (l:List Config):List PV:=l.map encConfig
def encLeg (s:Leg):PV:=.agg [.int .i64 s.Segment,.int .i64 s.Volume,.int .i64 s.Length,.list 2 (encSpans s.Minutes)]
def encLegs (l:List Leg):List PV:=l.map encLeg
def encWay (s:Way):PV:=.agg [.int .i64 s.From,.int .i64 s.To,.list 4 (encLegs s.Legs)]
def encWays (l:List Way):List PV:=l.map encWay
def encKind (s:Kind):PV:=.agg [.int .i64 s.Slow,.int .i64 s.Fast,.int .i64 s.Places,.int .i64 s.Weight,.int .i64 s.Longest,.list 1 (encSpanLs s.Curfews)]
def encKinds (l:List Kind):List PV:=l.map encKind
def encTables (t:Tables):PV:=.agg [.int .i64 t.Volumes,.list 5 (encSectors t.Sectors),.list 3 (encConfigs t.Configs),.list 3 (encWays t.Ways),.list 1 (encIntLs t.Modes),.list 6 (encKinds t.Kinds)]
def encFlight (f:Flight):PV:=.agg [.int .i64 f.ID,.int .i64 f.Airline,.int .i64 f.Class,.str f.Call,.list 1 (encInts f.Ways),.int .i64 f.Window.From,.int .i64 f.Window.To,.bool f.Cancel]
def encOpt (o:Opt):PV:=.agg [.int .i64 o.Delay,.int .i64 o.Way,.int .i64 o.Hold,.bool o.Cancel]
def encOpts (l:List Opt):List PV:=l.map encOpt
def encBound (b:Bound):PV:=.agg [.int .i64 b.Lo,.int .i64 b.Hi]
def encBounds (l:List Bound):List PV:=l.map encBound
def encStay (s:Stay):PV:=.agg [.bool s.Airport,.int .i64 s.Index,.int .i64 s.Minutes.From,.int .i64 s.Minutes.To]
def encStays (l:List Stay):List PV:=l.map encStay
def encPath (p:Path):PV:=.agg [.int .i64 p.Way,.list 1 (encInts p.Times)]
def encPaths (l:List Path):List PV:=l.map encPath
section
variable {A:Ops} {E:Env}
theorem idx_Int (hA:A=stdOps E) {l:List Int} {xs:List PV} (hx:xs=encInts l) {n:Int} {K:List PV→Prop} (h0:0≤n) (h1:n<l.length) (hk:∀x,l[n.toNat]?=some x→K [.int .i64 x]):A.idx xs n K :=
 idx_var hA (l:=l) (enc:=encInt) hx.symm h0 h1 fun x h=>hk x h
theorem idx_Span (hA:A=stdOps E) {l:List Span} {xs:List PV} (hx:xs=encSpans l) {n:Int} {K:List PV→Prop} (h0:0≤n) (h1:n<l.length) (hk:∀x,l[n.toNat]?=some x→K [.int .i64 x.From,.int .i64 x.To]):A.idx xs n K :=
 idx_var hA (l:=l) (enc:=encSpan) hx.symm h0 h1 fun x h=>hk x h
theorem idx_SpanL (hA:A=stdOps E) {l:List (List Span)} {xs:List PV} (hx:xs=encSpanLs l) {n:Int} {K:List PV→Prop} (h0:0≤n) (h1:n<l.length) (hk:∀x v,l[n.toNat]?=some x→v=encSpans x→K [.list 2 v]):A.idx xs n K :=
 idx_var hA (l:=l) (enc:=encSpanL) hx.symm h0 h1 fun x h=>hk x _ h rfl
theorem idx_IntL (hA:A=stdOps E) {l:List (List Int)} {xs:List PV} (hx:xs=encIntLs l) {n:Int} {K:List PV→Prop} (h0:0≤n) (h1:n<l.length) (hk:∀x v,l[n.toNat]?=some x→v=encInts x→K [.list 1 v]):A.idx xs n K :=
 idx_var hA (l:=l) (enc:=encIntL) hx.symm h0 h1 fun x h=>hk x _ h rfl
theorem idx_Sector (hA:A=stdOps E) {l:List Sector} {xs:List PV} (hx:xs=encSectors l) {n:Int} {K:List PV→Prop} (h0:0≤n) (h1:n<l.length)
  (hk:∀x v1 v2,l[n.toNat]?=some x→v1=encStrs x.Names→v2=encInts x.Volumes→K [.str x.Name,.list 1 v1,.list 1 v2,.int .i64 x.Radar,.int .i64 x.Procedural]):A.idx xs n K :=
 idx_var hA (l:=l) (enc:=encSector) hx.symm h0 h1 fun x h=>hk x _ _ h rfl rfl
theorem idx_Config (hA:A=stdOps E) {l:List Config} {xs:List PV} (hx:xs=encConfigs l) {n:Int} {K:List PV→Prop} (h0:0≤n) (h1:n<l.length)
  (hk:∀x v1 v2,l[n.toNat]?=some x→v1=encStrs x.Names→v2=encInts x.Sectors→K [.str x.Name,.list 1 v1,.list 1 v2]):A.idx xs n K :=
 idx_var hA (l:=l) (enc:=encConfig) hx.symm h0 h1 fun x h=>hk x _ _ h rfl rfl
theorem idx_Leg (hA:A=stdOps E) {l:List Leg} {xs:List PV} (hx:xs=encLegs l) {n:Int} {K:List PV→Prop} (h0:0≤n) (h1:n<l.length)
  (hk:∀x v,l[n.toNat]?=some x→v=encSpans x.Minutes→K [.int .i64 x.Segment,.int .i64 x.Volume,.int .i64 x.Length,.list 2 v]):A.idx xs n K :=
 idx_var hA (l:=l) (enc:=encLeg) hx.symm h0 h1 fun x h=>hk x _ h rfl
theorem idx_Way (hA:A=stdOps E) {l:List Way} {xs:List PV} (hx:xs=encWays l) {n:Int} {K:List PV→Prop} (h0:0≤n) (h1:n<l.length)
  (hk:∀x v,l[n.toNat]?=some x→v=encLegs x.Legs→K [.int .i64 x.From,.int .i64 x.To,.list 4 v]):A.idx xs n K :=
 idx_var hA (l:=l) (enc:=encWay) hx.symm h0 h1 fun x h=>hk x _ h rfl
theorem idx_Kind (hA:A=stdOps E) {l:List Kind} {xs:List PV} (hx:xs=encKinds l) {n:Int} {K:List PV→Prop} (h0:0≤n) (h1:n<l.length)
  (hk:∀x v,l[n.toNat]?=some x→v=encSpanLs x.Curfews→K [.int .i64 x.Slow,.int .i64 x.Fast,.int .i64 x.Places,.int .i64 x.Weight,.int .i64 x.Longest,.list 1 v]):A.idx xs n K :=
 idx_var hA (l:=l) (enc:=encKind) hx.symm h0 h1 fun x h=>hk x _ h rfl
theorem idx_Opt (hA:A=stdOps E) {l:List Opt} {xs:List PV} (hx:xs=encOpts l) {n:Int} {K:List PV→Prop} (h0:0≤n) (h1:n<l.length)
  (hk:∀x,l[n.toNat]?=some x→K [.int .i64 x.Delay,.int .i64 x.Way,.int .i64 x.Hold,.bool x.Cancel]):A.idx xs n K :=
 idx_var hA (l:=l) (enc:=encOpt) hx.symm h0 h1 fun x h=>hk x h
theorem idx_Bound (hA:A=stdOps E) {l:List Bound} {xs:List PV} (hx:xs=encBounds l) {n:Int} {K:List PV→Prop} (h0:0≤n) (h1:n<l.length) (hk:∀x,l[n.toNat]?=some x→K [.int .i64 x.Lo,.int .i64 x.Hi]):A.idx xs n K :=
 idx_var hA (l:=l) (enc:=encBound) hx.symm h0 h1 fun x h=>hk x h
theorem idx_Stay (hA:A=stdOps E) {l:List Stay} {xs:List PV} (hx:xs=encStays l) {n:Int} {K:List PV→Prop} (h0:0≤n) (h1:n<l.length)
  (hk:∀x,l[n.toNat]?=some x→K [.bool x.Airport,.int .i64 x.Index,.int .i64 x.Minutes.From,.int .i64 x.Minutes.To]):A.idx xs n K :=
 idx_var hA (l:=l) (enc:=encStay) hx.symm h0 h1 fun x h=>hk x h
theorem idx_Path (hA:A=stdOps E) {l:List Path} {xs:List PV} (hx:xs=encPaths l) {n:Int} {K:List PV→Prop} (h0:0≤n) (h1:n<l.length)
  (hk:∀x v,l[n.toNat]?=some x→v=encInts x.Times→K [.int .i64 x.Way,.list 1 v]):A.idx xs n K :=
 idx_var hA (l:=l) (enc:=encPath) hx.symm h0 h1 fun x h=>hk x _ h rfl
def findI {α:Type} (p:α→Bool) (l:List α):Int:=match l.findIdx? p with | some i=>i | none=>-1
theorem findI_hit {α:Type} {p:α→Bool} {l:List α} {i:Int} {x:α} (h0:0≤i) (hx:l[i.toNat]?=some x) (hp:p x=true) (h:∀y∈l.take i.toNat,p y=false):findI p l=i:=by
 have e:l.findIdx? p=some i.toNat:=by
  rw [List.findIdx?_eq_some_iff_getElem]
  have hlt:=(List.getElem?_eq_some_iff.1 hx)
  have hl1:=hlt.1
  refine ⟨hlt.1,by rw [hlt.2];exact hp,fun j hj=>?_⟩
  rw [h _ (List.mem_take_iff_getElem.2 ⟨j,by omega,rfl⟩)]
  simp
 unfold findI
 rw [e]
 simp only [Int.toNat_of_nonneg h0]
theorem findI_miss {α:Type} {p:α→Bool} {l:List α} (h:∀y∈l,p y=false):findI p l=-1:=by
 have e:l.findIdx? p=none:=by
  rw [List.findIdx?_eq_none_iff]
  exact h
 unfold findI
 rw [e]
theorem findI_any {α:Type} (p:α→Bool) (l:List α):decide (0≤findI p l)=l.any p:=by
 unfold findI
 cases h:l.findIdx? p with
 | none =>
  rw [List.findIdx?_eq_none_iff] at h
  have:l.any p=false:=by rw [List.any_eq_false];intro x hx;simp [h x hx]
  rw [this];rfl
 | some i =>
  have:=List.findIdx?_eq_some_iff_getElem.1 h
  obtain ⟨h1,h2,_⟩:=this
  have:l.any p=true:=List.any_eq_true.2 ⟨l[i],List.getElem_mem h1,h2⟩
  rw [this]
  simp
theorem take_snoc' {α:Type} {l:List α} {i:Int} {x:α} (h0:0≤i) (hx:l[i.toNat]?=some x):l.take (i+1).toNat=l.take i.toNat++[x]:=by
 rw [show (i+1).toNat=i.toNat+1 by omega,List.take_add_one,hx];rfl
end
theorem encPath_eq (p:Path) {ts:List PV} (h:ts=encInts p.Times):encPath p=.agg [.int .i64 p.Way,.list 1 ts]:=by rw [h];rfl
theorem encTables_eq (t:Tables) {ss cs ws ms ks:List PV} (h1:ss=encSectors t.Sectors) (h2:cs=encConfigs t.Configs) (h3:ws=encWays t.Ways) (h4:ms=encIntLs t.Modes) (h5:ks=encKinds t.Kinds) :
  encTables t=.agg [.int .i64 t.Volumes,.list 5 ss,.list 3 cs,.list 3 ws,.list 1 ms,.list 6 ks]:=by rw [h1,h2,h3,h4,h5];rfl
end Go.Abs
namespace Go.Abs
open Go.RowKit Go.Proofs Go.Sort
section
variable {E:Env} {B:Nat} {S0:Addr→Prop} {G:Gh} {S:Addr→Prop} {w:World}
theorem Inv.rebox {bx:List (Option (List SV))} {tk:List (Nat × TypeId)} {ax:Ax} (hI:Inv E B S0 bx tk ax G S w) {id b:Nat} {t:TypeId} {arr arr':Array Value} {cs cs':List SV} {w':World} (hb:G.bx[id]?=some b) (hc:bx[id]?=some (some cs)) (hh:w.heap[b]?=some (.cells arr t (0,0)))
  (hg:w.grownBy w' (some b)) (hm:w.drawn≤w'.drawn) (hh':w'.heap[b]?=some (.cells arr' t (0,0)))
  (hl:arr'.size=cs'.length) (hr:∀(j:Nat) (c:SV) (v:Value),cs'[j]?=some c→arr'[j]?=some v→RSV tk G S w c v∧v.oneCell'=true) :
  Inv E B S0 (bx.set id (some cs')) tk ax G S w'∧Ext tk G S w tk G S w'∧∀w0,Below B w0 w→Below B w0 w':=by
 have hSb:∀a,S a→a.block≠b:=(hI.box id b cs hc hb).2
 have hsz:=hg.size
 have hbl:∀k,k<w.heap.size→k≠b→w'.heap[k]?=w.heap[k]?:=fun k hk hne=>hg.block k hk (fun e=>hne (Option.some.inj e))
 have hE:Ext tk G S w tk G S w':=⟨fun _ _ h=>h,fun _ hv le h1 h2=>⟨hv,le,h1,h2,.inl ⟨rfl,rfl⟩⟩,fun _ h=>h,fun a ha=>Still.of_block (hbl _ (hI.slt a ha) (hSb a ha)),fun _ _ h=>h,⟨hg.os,hg.tape,hg.output,hsz,fun k hk=>absurd hk (Nat.not_lt_zero _),hm⟩,fun b' hlt hf=>hbl b' hlt (fun e=>hf (.inl ⟨id,by rw [e];exact hb⟩)),fun _ _ h=>h,fun _ h=>.inl h⟩
 have hBb:=(hI.old id b hb).1
 have hK:∀b',b'<w.heap.size→Kept w w' b':=fun b' hlt=>by
  by_cases e:b'=b
  ·intro o ho h
   rw [e,hh] at h
   cases h
   cases ho
  ·exact Kept.of_eq (hbl b' hlt e)
 have hid:id<bx.length:=(List.getElem?_eq_some_iff.1 hc).1
 refine ⟨⟨Nat.le_trans hI.base hsz,hI.s0,fun a ha=>Nat.lt_of_lt_of_le (hI.slt a ha) hsz,by simp [hI.lbx],hI.ltk,fun i b' h=>⟨(hI.old i b' h).1,Nat.lt_of_lt_of_le (hI.old i b' h).2 hsz⟩,hI.dist,?_,?_,hI.apart,hI.lmp,hI.dmp,fun i b' h=>⟨(hI.mpo i b' h).1,Nat.lt_of_lt_of_le (hI.mpo i b' h).2 hsz⟩,fun i b' c h1 h2=>(hI.mpk i b' c h1 h2).mono (hK b' (hI.mpo i b' h2).2) (fun m bm h=>⟨h,hK bm (hI.mpo m bm h).2⟩) (fun _ h=>h) hE.cell (fun _ h=>.inl h),fun b' h=>Nat.lt_of_lt_of_le (hI.flt b' h) hsz,hI.fbx,hI.ftk,hI.fmp,
  ⟨E.Y.ok _ _ _ _ _ _ hI.yl.1 ⟨hE.calm,fun b' h=>hbl b' (hI.flt b' h) (fun e=>hI.fbx id b' (by rw [e];exact hb) h),fun _ h=>h,hE.cell,fun _ h=>.inl h,fun a ha=>Nat.lt_of_lt_of_le (hI.slt a ha) hsz⟩,hI.yl.2⟩⟩,hE,fun w0 h=>h.grown hg hm hI.base (fun k e=>by cases e;exact hBb)⟩
 ·intro id' b' cs'' h1 h2
  simp only [List.getElem?_set] at h1
  split at h1
  ·rename_i he
   subst he
   simp only [Option.some.injEq] at h1
   subst h1
   rw [hb] at h2
   cases h2
   exact ⟨⟨t,arr',hh',hl,fun j c v a1 a2=>⟨RSV.mono hE (hr j c v a1 a2).1,(hr j c v a1 a2).2⟩⟩,hSb⟩
  ·rename_i hne
   have hbb:b'≠b:=fun e=>hne (hI.dist id id' b hb (by rw [←e];exact h2))
   obtain ⟨⟨t',a',k1,k2,k3⟩,k4⟩:=hI.box id' b' cs'' h1 h2
   exact ⟨⟨t',a',by rw [hbl b' (hI.old id' b' h2).2 hbb];exact k1,k2,fun j c v a1 a2=>⟨RSV.mono hE (k3 j c v a1 a2).1,(k3 j c v a1 a2).2⟩⟩,k4⟩
 ·intro t' n e hv h1 h2
  obtain ⟨a,cap,k1,k2,k3,k4⟩:=hI.tok t' n e hv h1 h2
  refine ⟨a,cap,k1,k2,k3,fun hlt=>?_⟩
  obtain ⟨g,cur,c1,c2,c3,c4,c5,c6⟩:=k4 hlt
  have hgb:g≠b:=fun e=>c6 id (by rw [e];exact hb)
  exact ⟨g,cur,c1,c2,by rw [hbl g (Array.getElem?_eq_some_iff.1 c3).1 hgb];exact c3,c4,c5,c6⟩
theorem callsR_rowI {f:FuncId} (he:Enters E.P f) {bx:List (Option (List SV))} {tk:List (Nat × TypeId)} {ax:Ax} {id n cap:Nat} {zs:List Int} {rest:List SV} (hc:bx[id]?=some (some ((encInts zs).map SV.val++rest)))
  (res:SV) (resv:Nat→Value) (hres:∀tk G S w b,G.bx[id]?=some b→RSV tk G S w res (resv b)) (D:List Int→Prop)
  (h:∀(w:World) (b:Nat),Holds (Value.int .i64) w b 0 zs.toArray→b<w.heap.size→n≤cap→cap≤maxLen →
   Calls E.P f #[.slice (some ⟨b,0,none⟩) n cap] w fun e w'=>e=.returned (resv b)∧∃k os d,d.length=zs.length∧D d∧w'=grow (putRow (Value.int .i64) (Sort.ahead w k) b 0 d.toArray) os) :
  CallsR E f [.row id 0 1 n cap] bx tk ax fun r bx' tk' ax'=>r=res∧(∃d,d.length=zs.length∧D d∧bx'=bx.set id (some ((encInts d).map SV.val++rest)))∧tk'=tk∧ax'=ax:=by
 refine ⟨he,fun B S0 w0 G S w vs hI hw hlen hvs=>?_⟩
 match vs,hlen with
 | [v],_ =>
  obtain ⟨b,hb,rfl,hcap,hmax⟩:=hvs 0 _ v rfl rfl
  obtain ⟨⟨t,arr,hh,hsz,hcells⟩,hS⟩:=hI.box id b _ hc hb
  have hval:∀j,j<zs.length→arr[j]?=some (.int .i64 (zs.getD j 0)):=fun j hj=>by
   have h1:((encInts zs).map SV.val++rest)[j]?=some (.val (.int .i64 (zs.getD j 0))):=by
    rw [List.getElem?_append_left (by simpa [encInts] using hj)]
    simp [encInts,encInt,hj]
   have hjs:j<arr.size:=by rw [hsz];simp [encInts];omega
   obtain ⟨h2,_⟩:=hcells j _ arr[j] h1 (by simp [hjs])
   rw [Array.getElem?_eq_getElem hjs]
   generalize arr[j]=u at h2
   have h3:RV S w (.int .i64 (zs.getD j 0)) u:=h2
   cases h3
   rfl
  have htake:arr.toList.take zs.length=zs.map (Value.int .i64):=by
   apply List.ext_getElem?
   intro j
   by_cases hj:j<zs.length
   ·rw [List.getElem?_take_of_lt hj,Array.getElem?_toList,hval j hj]
    simp [hj]
   ·rw [List.getElem?_take_eq_none (by omega),List.getElem?_eq_none (by simp;omega)]
  have hlt:b<w.heap.size:=(hI.old id b hb).2
  refine (h w b (holds_of_blockI hh htake) hlt hcap hmax).mono ?_
  rintro e w' ⟨rfl,k,os,d,hd,hD,rfl⟩
  have hg:w.grownBy (grow (putRow (Value.int .i64) (Sort.ahead w k) b 0 d.toArray) os) (some b):=grownBy_sortedI d.toArray
  have hh':=heap_sortedI (n:=k) (os:=os) d.toArray hh
  have harr:∀(j:Nat) (c:SV) (v:Value),((encInts d).map SV.val++rest)[j]?=some c→(putCells (Value.int .i64) 0 d.toArray arr)[j]?=some v→RSV tk G S w c v∧v.oneCell'=true:=by
   intro j c v h1 h2
   by_cases hj:j<d.length
   ·rw [List.getElem?_append_left (by simpa [encInts] using hj)] at h1
    have hja:j<arr.size:=by rw [hsz];simp [encInts];omega
    simp [encInts,encInt,hj] at h1
    simp [putCells,hj,hja] at h2
    subst h1;subst h2
    exact ⟨RV.int _ _,rfl⟩
   ·rw [List.getElem?_append_right (by simpa [encInts] using hj)] at h1
    have h3:((encInts zs).map SV.val++rest)[j]?=some c:=by
     rw [List.getElem?_append_right (by simp [encInts];omega)]
     simpa [encInts,hd] using h1
    have h4:arr[j]?=some v:=by
     simp only [putCells,Array.getElem?_mapIdx] at h2
     rw [Option.map_eq_some_iff] at h2
     obtain ⟨x,h5,h6⟩:=h2
     rw [if_neg (by simp;omega)] at h6
     rw [h5,h6]
    exact hcells j c v h3 h4
  obtain ⟨k1,k2,k3⟩:=hI.rebox hb hc hh hg (by simp [grow,putRow,mapBlock,Sort.ahead]) hh' (by simp [putCells,hsz,encInts,hd]) harr
  exact ⟨_,res,_,tk,ax,G,S,⟨rfl,⟨d,hd,hD,rfl⟩,rfl,rfl⟩,rfl,k1,k3 _ hw,k2,hres _ _ _ _ _ hb⟩
end
end Go.Abs
namespace Go.Abs
open Go.RowKit
theorem CallsR.frame {E:Env} {f:FuncId} {svs:List SV} {bx:List (Option (List SV))} {tk:List (Nat × TypeId)} {ax:Ax} {Q:SV→List (Option (List SV))→List (Nat × TypeId)→Ax→Prop} (h:CallsR E f svs bx tk ax Q)
  (ex:List (Option (List SV))) (hex:∀o∈ex,∃cs,o=some cs∧∀c∈cs,∃p,c=.val p) (hQ:∀r bx' tk' ax',Q r bx' tk' ax'→bx'.length=bx.length)
  (hs:svs.all (SV.within bx.length ax.mp.length tk.length)=true) (hb:bx.all (fun o=>match o with | none=>true | some cs=>cs.all (SV.within bx.length ax.mp.length tk.length))=true) (hgo:∀c∈ax.mp,c≠.gone) :
  CallsR E f svs (bx++ex) tk ax fun r bx' tk' ax'=>∃b0,bx'=b0++ex∧Q r b0 tk' ax':=by
 refine ⟨h.1,fun B S0 w0 G S w vs hI hbel hlen hv=>?_⟩
 have hbl:=hI.lbx
 rw [List.length_append] at hbl
 have hmpt:G.mp.take ax.mp.length=G.mp:=List.take_of_length_le (Nat.le_of_eq hI.lmp)
 have hw:∀(s:SV) (v:Value),s.within bx.length ax.mp.length tk.length=true→RSV tk G S w s v→RSV tk ⟨G.bx.take bx.length,G.tk,G.mp,G.fp⟩ S w s v:=fun s v h1 h2=>by
  have:=RSV.within_ h1 h2
  rw [hmpt] at this
  exact this
 have htake:∀(i b:Nat),(G.bx.take bx.length)[i]?=some b→G.bx[i]?=some b∧i<bx.length:=fun i b h=>by
  rw [List.getElem?_take] at h
  split at h
  ·exact ⟨h,‹_›⟩
  ·cases h
 have hIs:Inv E B S0 bx tk ax ⟨G.bx.take bx.length,G.tk,G.mp,G.fp⟩ S w:=by
  refine ⟨hI.base,hI.s0,hI.slt,by simp only [List.length_take];omega,hI.ltk,fun i b h1=>hI.old i b (htake i b h1).1,fun i j b h1 h2=>hI.dist i j b (htake i b h1).1 (htake j b h2).1,fun id b cs h1 h2=>?_,fun t n e v h1 h2=>?_,hI.apart,hI.lmp,hI.dmp,hI.mpo,hI.mpk,hI.flt,
   fun i b h1=>hI.fbx i b (htake i b h1).1,hI.ftk,hI.fmp,hI.yl⟩
  ·obtain ⟨h3,h4⟩:=htake id b h2
   obtain ⟨⟨t',arr,a1,a2,a3⟩,a4⟩:=hI.box id b cs (by rw [List.getElem?_append_left h4];exact h1) h3
   refine ⟨⟨t',arr,a1,a2,fun j c v b1 b2=>⟨hw c v ?_ (a3 j c v b1 b2).1,(a3 j c v b1 b2).2⟩⟩,a4⟩
   have hcs:=List.all_eq_true.1 hb (some cs) (List.mem_of_getElem? h1)
   exact List.all_eq_true.1 hcs c (List.mem_of_getElem? b1)
  ·obtain ⟨a,cap,a1,a2,a3,a4⟩:=hI.tok t n e v h1 h2
   refine ⟨a,cap,a1,a2,a3,fun hlt=>?_⟩
   obtain ⟨g,cur,c1,c2,c3,c4,c5,c6⟩:=a4 hlt
   exact ⟨g,cur,c1,c2,c3,c4,c5,fun i h=>c6 i (htake i g h).1⟩
 refine (h.2 B S0 w0 _ S w vs hIs hbel hlen fun i s v h1 h2=>hw s v (List.all_eq_true.1 hs s (List.mem_of_getElem? h1)) (hv i s v h1 h2)).mono ?_
 rintro e w' ⟨v,r,bx',tk',ax',G',S',hq,he,hI',hbel',X,hr⟩
 have hl':G'.bx.length=bx.length:=hI'.lbx.trans (hQ _ _ _ _ hq)
 -- the variables that are left alone
 have hfoot:∀(j b:Nat),G.bx[bx.length+j]?=some b→b<w.heap.size∧¬Foot ⟨G.bx.take bx.length,G.tk,G.mp,G.fp⟩ b:=fun j b hj=>by
  refine ⟨(hI.old _ b hj).2,?_⟩
  have hjl:bx.length+j<(bx++ex).length:=by rw [List.length_append];have:=(List.getElem?_eq_some_iff.1 hj).1;omega
  obtain ⟨o,ho⟩:∃o,(bx++ex)[bx.length+j]?=some o:=⟨_,List.getElem?_eq_getElem hjl⟩
  have ho':ex[j]?=some o:=by rw [List.getElem?_append_right (by omega)] at ho;simpa using ho
  obtain ⟨cs,rfl,_⟩:=hex o (List.mem_of_getElem? ho')
  obtain ⟨⟨t',arr,a1,_,_⟩,_⟩:=hI.box _ b cs ho hj
  rintro (⟨i,hi⟩ | ⟨t,n,cap,ht,hlt⟩ | ⟨i,hi⟩ | hf)
  ·obtain ⟨h1,h2⟩:=htake i b hi
   have:=hI.dist _ _ b h1 hj
   omega
  ·have ht':G.tk[t]?=some (.slice (some ⟨b,0,none⟩) n cap):=ht
   have htl:t<tk.length:=by have:=(List.getElem?_eq_some_iff.1 ht').1;have:=hI.ltk;omega
   obtain ⟨a,cp,q1,q2,q3,q4⟩:=hI.tok t _ _ _ (List.getElem?_eq_getElem htl) ht
   injection q1 with q1 q1' q1''
   subst q1' q1''
   obtain ⟨g2,cur2,p1,p2,p3,p4,p5,p6⟩:=q4 hlt
   rw [←q1] at p1
   injection p1 with p1
   injection p1 with p1
   subst p1
   exact p6 _ hj
  ·have hi':G.mp[i]?=some b:=hi
   have hil:i<ax.mp.length:=by have:=(List.getElem?_eq_some_iff.1 hi').1;have:=hI.lmp;omega
   obtain ⟨c,hc⟩:∃c,ax.mp[i]?=some c:=⟨_,List.getElem?_eq_getElem hil⟩
   have hk:=hI.mpk i b c hc hi
   have hcg:=hgo c (List.mem_of_getElem? hc)
   match c,hk with
   | .plain k e n,hk =>
    obtain ⟨⟨D,es,clock,hm,_⟩,_⟩:=hk
    rw [a1] at hm
    cases hm
   | .ents es mk,hk =>
    obtain ⟨⟨arr',clock,es0,hm,_⟩,_⟩:=hk
    rw [a1] at hm
    cases hm
   | .iter (some m) es left cur,hk =>
    obtain ⟨⟨bm,_,arr',clock,since,seen,last,_,hm,_⟩,_⟩:=hk
    rw [a1] at hm
    cases hm
   | .iter none es left cur,hk =>
    obtain ⟨⟨hm,_⟩ | ⟨bm,_,_,arr',clock,since,seen,last,_,hm,_⟩,_⟩:=hk
    ·rw [a1] at hm
     cases hm
    ·rw [a1] at hm
     cases hm
   | .gone,_=>exact hcg rfl
  ·exact hI.fbx _ b hj hf
 have hGb:∀(i b:Nat),(G'.bx++G.bx.drop bx.length)[i]?=some b→(G'.bx[i]?=some b∧i<bx.length)∨(∃j,i=bx.length+j∧G.bx[bx.length+j]?=some b):=fun i b hi=>by
  rcases Nat.lt_or_ge i bx.length with h1 | h1
  ·rw [List.getElem?_append_left (by omega)] at hi
   exact .inl ⟨hi,h1⟩
  ·rw [List.getElem?_append_right (by omega),List.getElem?_drop,hl'] at hi
   exact .inr ⟨i - bx.length,by omega,hi⟩
 have hG'lt:∀(i b:Nat),G'.bx[i]?=some b→G.bx[i]?=some b:=fun i b hi=>by
  have hil:i<bx.length:=by have:=(List.getElem?_eq_some_iff.1 hi).1;omega
  obtain ⟨c,hc⟩:∃c,G.bx[i]?=some c:=⟨_,List.getElem?_eq_getElem (by omega)⟩
  have:=X.bx i c (by rw [List.getElem?_take,if_pos hil];exact hc)
  rw [hi] at this
  rw [hc];exact this.symm
 have hnf:∀(j b:Nat),G.bx[bx.length+j]?=some b→¬Foot G' b:=fun j b hj hf=>(hfoot j b hj).2 (X.foot b (hfoot j b hj).1 hf)
 have hX0:Ext0 tk' G' S' w' tk' ⟨G'.bx++G.bx.drop bx.length,G'.tk,G'.mp,G'.fp⟩ S' w' :=
  ⟨fun i b hi=>by
   show (G'.bx++G.bx.drop bx.length)[i]?=_
   rw [List.getElem?_append_left (List.getElem?_eq_some_iff.1 hi).1];exact hi,fun t hv' le h1 h2=>⟨hv',le,h1,h2,.inl ⟨rfl,rfl⟩⟩,fun _ h=>h,fun _ _=>Still.refl _ _,fun _ _ h=>h⟩
 have hsame:∀(j b:Nat),G.bx[bx.length+j]?=some b→w'.heap[b]?=w.heap[b]?:=fun j b hj=>X.same b (hfoot j b hj).1 (hfoot j b hj).2
 refine ⟨v,r,bx'++ex,tk',ax',⟨G'.bx++G.bx.drop bx.length,G'.tk,G'.mp,G'.fp⟩,S',⟨bx',rfl,hq⟩,he,?_,hbel',?_,RSV.mono0 hX0 hr⟩
 ·have hbxl:=hQ _ _ _ _ hq
  refine ⟨hI'.base,hI'.s0,hI'.slt,?_,hI'.ltk,fun i b h1=>?_,fun i j b h1 h2=>?_,fun id b cs h1 h2=>?_,fun t n e' v' h1 h2=>?_,hI'.apart,hI'.lmp,hI'.dmp,hI'.mpo,hI'.mpk,hI'.flt,fun i b h1=>?_,hI'.ftk,hI'.fmp,hI'.yl⟩
  ·simp only [List.length_append,List.length_drop];omega
  ·rcases hGb i b h1 with ⟨h2,_⟩ | ⟨j,rfl,h2⟩
   ·exact hI'.old i b h2
   ·exact ⟨(hI.old _ b h2).1,Nat.lt_of_lt_of_le (hI.old _ b h2).2 X.calm.size⟩
  ·rcases hGb i b h1 with ⟨h3,h3'⟩ | ⟨k,rfl,h3⟩<;>rcases hGb j b h2 with ⟨h4,h4'⟩ | ⟨l,rfl,h4⟩
   ·exact hI'.dist i j b h3 h4
   ·exact hI.dist _ _ b (hG'lt i b h3) h4
   ·exact hI.dist _ _ b h3 (hG'lt j b h4)
   ·exact hI.dist _ _ b h3 h4
  ·rcases hGb id b h2 with ⟨h3,h3'⟩ | ⟨j,rfl,h3⟩
   ·rw [List.getElem?_append_left (by omega)] at h1
    obtain ⟨⟨t',arr,a1,a2,a3⟩,a4⟩:=hI'.box id b cs h1 h3
    exact ⟨⟨t',arr,a1,a2,fun j c v b1 b2=>⟨RSV.mono0 hX0 (a3 j c v b1 b2).1,(a3 j c v b1 b2).2⟩⟩,a4⟩
   ·rw [List.getElem?_append_right (by omega),show bx.length+j - bx'.length=j by omega] at h1
    obtain ⟨⟨t',arr,a1,a2,a3⟩,a4⟩:=hI.box _ b cs (by rw [List.getElem?_append_right (by omega),show bx.length+j - bx.length=j by omega];exact h1) h3
    obtain ⟨cs',e1,hcs⟩:=hex _ (List.mem_of_getElem? h1)
    cases e1
    refine ⟨⟨t',arr,(hsame j b h3).trans a1,a2,fun j' c v b1 b2=>⟨?_,(a3 j' c v b1 b2).2⟩⟩,fun a ha hab=>?_⟩
    ·obtain ⟨p,rfl⟩:=hcs c (List.mem_of_getElem? b1)
     exact RV.mono X.sub X.cell (a3 j' _ v b1 b2).1
    ·rcases X.new a ha with h | h | h
     ·exact a4 a h hab
     ·rw [hab] at h;exact (hfoot j b h3).2 h
     ·have:=(hfoot j b h3).1;omega
  ·obtain ⟨a,cap,a1,a2,a3,a4⟩:=hI'.tok t n e' v' h1 h2
   refine ⟨a,cap,a1,a2,a3,fun hlt=>?_⟩
   obtain ⟨g,cur,c1,c2,c3,c4,c5,c6⟩:=a4 hlt
   refine ⟨g,cur,c1,c2,c3,c4,c5,fun i h=>?_⟩
   rcases hGb i g h with ⟨h3,_⟩ | ⟨j,rfl,h3⟩
   ·exact c6 i h3
   ·refine hnf j g h3 (.inr (.inl ⟨t,n,cap,?_,hlt⟩))
    rw [h2,a1,c1]
  ·rcases hGb i b h1 with ⟨h2,_⟩ | ⟨j,rfl,h2⟩
   ·exact hI'.fbx i b h2
   ·exact fun hf=>hnf j b h2 (.inr (.inr (.inr hf)))
 ·refine ⟨fun i b h1=>?_,X.tk,X.sub,X.cell,X.mp,X.calm,fun b h1 h2=>X.same b h1 (fun hf=>h2 ?_),fun b h1 hf=>?_,fun a ha=>?_⟩
  ·show (G'.bx++G.bx.drop bx.length)[i]?=some b
   rcases Nat.lt_or_ge i bx.length with h2 | h2
   ·rw [List.getElem?_append_left (by omega)]
    exact X.bx i b (by rw [List.getElem?_take,if_pos h2];exact h1)
   ·rw [List.getElem?_append_right (by omega),List.getElem?_drop,hl',Nat.add_sub_cancel' h2];exact h1
  ·rcases hf with ⟨i,hi⟩ | hf
   ·exact .inl ⟨i,(htake i b hi).1⟩
   ·exact .inr hf
  ·rcases hf with ⟨i,hi⟩ | hf
   ·rcases hGb i b hi with ⟨h2,_⟩ | ⟨j,rfl,h2⟩
    ·exact .inl ⟨i,hG'lt i b h2⟩
    ·exact .inl ⟨_,h2⟩
   ·rcases X.foot b h1 (.inr hf) with ⟨i,hi⟩ | h3
    ·exact .inl ⟨i,(htake i b hi).1⟩
    ·exact .inr h3
  ·rcases X.new a ha with h1 | h1 | h1
   ·exact .inl h1
   ·rcases h1 with ⟨i,hi⟩ | h1
    ·exact .inr (.inl (.inl ⟨i,(htake i _ hi).1⟩))
    ·exact .inr (.inl (.inr h1))
   ·exact .inr (.inr h1)
theorem CallsR.wk {E:Env} {f:FuncId} {svs svs2:List SV} {bx bx2:List (Option (List SV))} {tk tk2:List (Nat × TypeId)} {ax ax2:Ax} {Q:SV→List (Option (List SV))→List (Nat × TypeId)→Ax→Prop}
  (hnt:(bx.length,ax.mp.length)=(0,0)→tk=[]) (hw:Wk (bx.length,ax.mp.length) ⟨svs,bx,tk,ax⟩ ⟨svs2,bx2,tk2,ax2⟩) (h:CallsR E f svs2 bx2 tk2 ax2 Q):CallsR E f svs bx tk ax Q:=by
 refine ⟨h.1,fun B S0 w0 G S w vs hI hb hl hv=>?_⟩
 have R:Rel E B S0 w0 ⟨svs,bx,tk,ax⟩ G S w vs.toArray:=⟨hI,hb,by simp [hl],fun i s v h1 h2=>hv i s v h1 (by simpa using h2)⟩
 obtain ⟨G',R',X',_⟩:=R.wk (Nat.le_of_eq hI.lbx) ⟨Nat.le_of_eq hI.lmp,hnt⟩ hw (Ext.refl tk G S w)
 have hc:=h.2 B S0 w0 G' S w vs R'.inv R'.below (by simpa using R'.len) (fun i s v h1 h2=>R'.sl i s v h1 (by simpa using h2))
 refine hc.mono ?_
 rintro e w' ⟨v,r,bx',tk',ax',G2,S2,hq,he,hi,hb2,hx,hr⟩
 exact ⟨v,r,bx',tk',ax',G2,S2,hq,he,hi,hb2,X'.trans hx,hr⟩
end Go.Abs
namespace Go.Abs
open Go.RowKit
def mkSl (L:Nat→Bool) (sl0 vs:List SV):List Oper→Nat→List SV→List SV
 | [],_,sl=>sl
 | o::r,i,sl=>mkSl L sl0 vs r (i+1) (match o.dst with | some t=>sl.set t (cond (L i) (vs.getD i .undef) (sl0.getD t .undef)) | none=>sl)
def mkSt (st:St) (ops:Array Oper) (vs:List SV) (bxf:(Nat→Bool)→List (Option (List SV))) (L:Nat→Bool):St:=⟨mkSl L st.sl vs ops.toList 0 st.sl,bxf L,st.tk,st.ax⟩
def updL (L:Nat→Bool) (i:Nat):Nat→Bool:=fun j=>match decide (j=i) with | true=>true | false=>L j
theorem mkSl_congr {L L':Nat→Bool} {sl0 vs:List SV}:∀{l:List Oper} {i:Nat} {sl:List SV},(∀j,i≤j→j<i+l.length→L j=L' j)→mkSl L sl0 vs l i sl=mkSl L' sl0 vs l i sl
 | [],_,_,_=>rfl
 | o::r,i,sl,h=>by
  unfold mkSl
  rw [h i (Nat.le_refl _) (by simp)]
  exact mkSl_congr fun j h1 h2=>h j (by omega) (by simp only [List.length_cons];omega)
theorem wpAll_inv {A:Ops} {E:Env} {ops:Array Oper} {J:(Nat→Bool)→St} {K:St→Prop}
  (hlt:∀(i:Nat) (o:Oper),ops[i]?=some o→∀e∈o.after,Region.binds .any e=true→e.on<i)
  (hJ:∀L L',(∀i,i<ops.size→L i=L' i)→J L=J L')
  (hstep:∀(L:Nat→Bool) (i:Nat) (o:Oper),ops[i]?=some o→(∀e∈o.after,Region.binds .any e=true→L e.on=true)→∀K':St→Prop,K' (J (updL L i))→wpOps' A E false ops.toList [o] (J L) K')
  (hend:K (J fun _=>true)):∀(fuel:Nat) (listed:Array Bool),listed.size=ops.size→listed.toList.count false≤fuel→wpAll' A E ops fuel listed (J fun i=>listed.getD i true) K:=by
 have hall:∀(listed:Array Bool),listed.size=ops.size→(∀i,i<ops.size→listed.getD i true=true)→K (J fun i=>listed.getD i true):=fun listed h1 h2=>by
  rw [hJ _ (fun _=>true) h2];exact hend
 have hnone:∀(listed:Array Bool),listed.size=ops.size→Region.ready .any ops listed=[]→∀i,i<ops.size→listed.getD i true=true:=fun listed hs h i=>by
  induction i using Nat.strongRecOn with
  | ind i ih =>
   intro hi
   cases hq:listed.getD i true with
   | true=>rfl
   | false =>
    have hmem:i∈Region.ready .any ops listed:=mem_ready.2 ⟨hq,ops[i],Array.getElem?_eq_getElem hi,fun e he hb=>by
     have h3:=hlt i ops[i] (Array.getElem?_eq_getElem hi) e he hb
     have h4:=ih e.on h3 (by omega)
     simp only [Array.getD_eq_getD_getElem?,Array.getElem?_eq_getElem (show e.on<listed.size by omega),Option.getD_some] at h4 ⊢
     exact h4⟩
    rw [h] at hmem
    cases hmem
 intro fuel
 induction fuel with
 | zero =>
  intro listed h1 h2
  have h3:∀i,i<ops.size→listed.getD i true=true:=fun i hi=>by
   have hm:false∉listed.toList:=List.count_eq_zero.1 (by omega)
   have hl:i<listed.size:=by omega
   simp only [Array.getD_eq_getD_getElem?,Array.getElem?_eq_getElem hl,Option.getD_some]
   cases hb:listed[i]
   ·exact absurd (by rw [←hb];simp) hm
   ·rfl
  unfold wpAll'
  cases hr:Region.ready .any ops listed with
  | nil=>exact hall listed h1 h3
  | cons i r =>
   have hmem:i∈Region.ready .any ops listed:=by rw [hr];simp
   obtain ⟨h4,o,ho,_⟩:=mem_ready.1 hmem
   have h5:=h3 i (Array.getElem?_eq_some_iff.1 ho).1
   rw [h5] at h4
   cases h4
 | succ fuel ih =>
  intro listed h1 h2
  unfold wpAll'
  cases hr:Region.ready .any ops listed with
  | nil=>exact hall listed h1 (hnone listed h1 hr)
  | cons i r =>
   have hone:∀j∈i::r,(match ops[j]? with | none=>False | some o=>wpOps' A E false ops.toList [o] (J fun i=>listed.getD i true) fun st'=>wpAll' A E ops fuel (listed.setIfInBounds j true) st' K):=fun j hj=>by
    obtain ⟨h4,o,ho,h5⟩:=mem_ready.1 (by rw [hr];exact hj)
    rw [ho]
    have hjl:j<ops.size:=(Array.getElem?_eq_some_iff.1 ho).1
    refine hstep _ j o ho (fun e he hb=>?_) _ ?_
    ·have h6:=h5 e he hb
     have h7:=hlt j o ho e he hb
     simp only [Array.getD_eq_getD_getElem?,Array.getElem?_eq_getElem (show e.on<listed.size by omega),Option.getD_some] at h6 ⊢
     exact h6
    ·have hup:J (updL (fun i=>listed.getD i true) j)=J fun i=>(listed.setIfInBounds j true).getD i true:=hJ _ _ fun k hk=>by
      unfold updL
      simp only [Array.getD_eq_getD_getElem?,Array.getElem?_setIfInBounds]
      by_cases hkj:k=j
      ·subst hkj
       simp [show k<listed.size by omega]
      ·simp [hkj,Ne.symm hkj]
     rw [hup]
     refine ih _ (by simp [h1]) ?_
     have hcnt:(listed.setIfInBounds j true).toList.count false+1≤listed.toList.count false:=by
      have hl2:j<listed.toList.length:=by rw [Array.length_toList];omega
      have hb:listed.toList[j]=false:=by
       simp only [Array.getD_eq_getD_getElem?,Array.getElem?_eq_getElem (show j<listed.size by omega),Option.getD_some] at h4
       simpa using h4
      rw [Array.toList_setIfInBounds,List.count_set hl2,hb]
      have:0<listed.toList.count false:=List.count_pos_iff.2 (by rw [←hb];exact List.getElem_mem hl2)
      show listed.toList.count false - 1+0+1≤_
      omega
     omega
   have hL:∀(l:List Nat) (f:Nat→Prop),(∀j∈l,f j)→allL l f:=by
    intro l f h
    induction l with
    | nil=>trivial
    | cons a t iht =>
     cases t with
     | nil=>exact h a (by simp)
     | cons b u=>exact ⟨h a (by simp),iht fun j hj=>h j (List.mem_cons_of_mem _ hj)⟩
   exact hL _ _ hone
def ltOk (ops:Array Oper):Bool:=(List.range ops.size).all fun i=>match ops[i]? with | none=>true | some o=>o.after.toList.all fun e=>!Region.binds .any e || decide (e.on<i)
theorem ltOk_spec {ops:Array Oper} (h:ltOk ops=true):∀(i:Nat) (o:Oper),ops[i]?=some o→∀e∈o.after,Region.binds .any e=true→e.on<i:=fun i o hi e he hb=>by
 unfold ltOk at h
 have h1:=List.all_eq_true.1 h i (List.mem_range.2 (Array.getElem?_eq_some_iff.1 hi).1)
 rw [hi] at h1
 have h2:=List.all_eq_true.1 h1 e (by simpa using he)
 rw [hb] at h2
 simpa using h2
theorem region_inv {A:Ops} {E:Env} {id:Nat} {ops:Array Oper} {nb:Nat × Nat} {st:St} {Q:AX→St→Prop} (hm:drawMode E true id ops.size=.each) (vs:List SV) (bxf:(Nat→Bool)→List (Option (List SV)))
  (h0:mkSt st ops vs bxf (fun _=>false)=st) (hbx:∀L L',(∀i,i<ops.size→L i=L' i)→bxf L=bxf L')
  (hlt':ltOk ops=true)
  (hstep:∀(L:Nat→Bool) (i:Nat) (o:Oper),ops[i]?=some o→(∀e∈o.after,Region.binds .any e=true→L e.on=true)→∀K':St→Prop,K' (mkSt st ops vs bxf (updL L i))→wpOps' A E false ops.toList [o] (mkSt st ops vs bxf L) K')
  (hend:Q .normal (mkSt st ops vs bxf fun _=>true)):wpC' A E (.region id ops true) nb st Q:=by
 have hlt:=ltOk_spec hlt'
 unfold wpC'
 rw [hm]
 have hJ:∀L L',(∀i,i<ops.size→L i=L' i)→mkSt st ops vs bxf L=mkSt st ops vs bxf L':=fun L L' h=>by
  unfold mkSt
  rw [hbx L L' h,mkSl_congr (L:=L) (L':=L') fun j _ h2=>h j (by simpa using h2)]
 have h:=wpAll_inv (A:=A) (E:=E) (K:=Q .normal) hlt hJ hstep hend ops.size (Array.replicate ops.size false) (by simp) (by simp [List.count_replicate])
 have e:mkSt st ops vs bxf (fun i=>(Array.replicate ops.size false).getD i true)=st:=by
  refine (hJ _ (fun _=>false) fun i hi=>?_).trans h0
  simp [Array.getD_eq_getD_getElem?,hi]
 rw [e] at h
 exact h
end Go.Abs
namespace Go.Abs
open Go.RowKit
theorem wpAll_inv2 {A:Ops} {E:Env} {ops:Array Oper} {J:(Nat→Bool)→St} {K:St→Prop}
  (hlt:∀(i:Nat) (o:Oper),ops[i]?=some o→∀e∈o.after,Region.binds .any e=true→e.on<i)
  (hJ:∀L L',(∀i,i<ops.size→L i=L' i)→J L=J L')
  (hstep:∀(L:Nat→Bool) (i:Nat) (o:Oper),ops[i]?=some o→L i=false→(∀(j:Nat) (o':Oper),ops[j]?=some o'→L j=true→∀e∈o'.after,Region.binds .any e=true→L e.on=true)→(∀e∈o.after,Region.binds .any e=true→L e.on=true)→∀K':St→Prop,K' (J (updL L i))→wpOps' A E false ops.toList [o] (J L) K')
  (hend:K (J fun _=>true)):∀(fuel:Nat) (listed:Array Bool),listed.size=ops.size→listed.toList.count false≤fuel→(∀(j:Nat) (o':Oper),ops[j]?=some o'→listed.getD j true=true→∀e∈o'.after,Region.binds .any e=true→listed.getD e.on true=true)→wpAll' A E ops fuel listed (J fun i=>listed.getD i true) K:=by
 have hall:∀(listed:Array Bool),listed.size=ops.size→(∀i,i<ops.size→listed.getD i true=true)→K (J fun i=>listed.getD i true):=fun listed h1 h2=>by
  rw [hJ _ (fun _=>true) h2];exact hend
 have hnone:∀(listed:Array Bool),listed.size=ops.size→Region.ready .any ops listed=[]→∀i,i<ops.size→listed.getD i true=true:=fun listed hs h i=>by
  induction i using Nat.strongRecOn with
  | ind i ih =>
   intro hi
   cases hq:listed.getD i true with
   | true=>rfl
   | false =>
    have hmem:i∈Region.ready .any ops listed:=mem_ready.2 ⟨hq,ops[i],Array.getElem?_eq_getElem hi,fun e he hb=>by
     have h3:=hlt i ops[i] (Array.getElem?_eq_getElem hi) e he hb
     have h4:=ih e.on h3 (by omega)
     simp only [Array.getD_eq_getD_getElem?,Array.getElem?_eq_getElem (show e.on<listed.size by omega),Option.getD_some] at h4 ⊢
     exact h4⟩
    rw [h] at hmem
    cases hmem
 intro fuel
 induction fuel with
 | zero =>
  intro listed h1 h2 _
  have h3:∀i,i<ops.size→listed.getD i true=true:=fun i hi=>by
   have hm:false∉listed.toList:=List.count_eq_zero.1 (by omega)
   have hl:i<listed.size:=by omega
   simp only [Array.getD_eq_getD_getElem?,Array.getElem?_eq_getElem hl,Option.getD_some]
   cases hb:listed[i]
   ·exact absurd (by rw [←hb];simp) hm
   ·rfl
  unfold wpAll'
  cases hr:Region.ready .any ops listed with
  | nil=>exact hall listed h1 h3
  | cons i r =>
   have hmem:i∈Region.ready .any ops listed:=by rw [hr];simp
   obtain ⟨h4,o,ho,_⟩:=mem_ready.1 hmem
   have h5:=h3 i (Array.getElem?_eq_some_iff.1 ho).1
   rw [h5] at h4
   cases h4
 | succ fuel ih =>
  intro listed h1 h2 hC
  unfold wpAll'
  cases hr:Region.ready .any ops listed with
  | nil=>exact hall listed h1 (hnone listed h1 hr)
  | cons i r =>
   have hone:∀j∈i::r,(match ops[j]? with | none=>False | some o=>wpOps' A E false ops.toList [o] (J fun i=>listed.getD i true) fun st'=>wpAll' A E ops fuel (listed.setIfInBounds j true) st' K):=fun j hj=>by
    obtain ⟨h4,o,ho,h5⟩:=mem_ready.1 (by rw [hr];exact hj)
    rw [ho]
    have hjl:j<ops.size:=(Array.getElem?_eq_some_iff.1 ho).1
    refine hstep _ j o ho h4 hC (fun e he hb=>?_) _ ?_
    ·have h6:=h5 e he hb
     have h7:=hlt j o ho e he hb
     simp only [Array.getD_eq_getD_getElem?,Array.getElem?_eq_getElem (show e.on<listed.size by omega),Option.getD_some] at h6 ⊢
     exact h6
    ·have hup:J (updL (fun i=>listed.getD i true) j)=J fun i=>(listed.setIfInBounds j true).getD i true:=hJ _ _ fun k hk=>by
      unfold updL
      simp only [Array.getD_eq_getD_getElem?,Array.getElem?_setIfInBounds]
      by_cases hkj:k=j
      ·subst hkj
       simp [show k<listed.size by omega]
      ·simp [hkj,Ne.symm hkj]
     rw [hup]
     refine ih _ (by simp [h1]) ?_ ?_
     rotate_left
     ·intro k o' ho' hk e he hb
      have hkl:k<ops.size:=(Array.getElem?_eq_some_iff.1 ho').1
      have hek:=hlt k o' ho' e he hb
      have key:listed.getD e.on true=true:=by
       by_cases hkj:k=j
       ·subst hkj
        rw [ho] at ho'
        cases ho'
        have h6:=h5 e he hb
        simp only [Array.getD_eq_getD_getElem?,Array.getElem?_eq_getElem (show e.on<listed.size by omega),Option.getD_some] at h6 ⊢
        exact h6
       ·refine hC k o' ho' ?_ e he hb
        simp only [Array.getD_eq_getD_getElem?,Array.getElem?_setIfInBounds] at hk ⊢
        simpa [Ne.symm hkj] using hk
      simp only [Array.getD_eq_getD_getElem?,Array.getElem?_setIfInBounds] at key ⊢
      by_cases hej:j=e.on
      ·simp [hej,show e.on<listed.size by omega]
      ·simpa [hej] using key
     have hcnt:(listed.setIfInBounds j true).toList.count false+1≤listed.toList.count false:=by
      have hl2:j<listed.toList.length:=by rw [Array.length_toList];omega
      have hb:listed.toList[j]=false:=by
       simp only [Array.getD_eq_getD_getElem?,Array.getElem?_eq_getElem (show j<listed.size by omega),Option.getD_some] at h4
       simpa using h4
      rw [Array.toList_setIfInBounds,List.count_set hl2,hb]
      have:0<listed.toList.count false:=List.count_pos_iff.2 (by rw [←hb];exact List.getElem_mem hl2)
      show listed.toList.count false - 1+0+1≤_
      omega
     omega
   have hL:∀(l:List Nat) (f:Nat→Prop),(∀j∈l,f j)→allL l f:=by
    intro l f h
    induction l with
    | nil=>trivial
    | cons a t iht =>
     cases t with
     | nil=>exact h a (by simp)
     | cons b u=>exact ⟨h a (by simp),iht fun j hj=>h j (List.mem_cons_of_mem _ hj)⟩
   exact hL _ _ hone
theorem region_inv2 {A:Ops} {E:Env} {id:Nat} {ops:Array Oper} {nb:Nat × Nat} {st:St} {Q:AX→St→Prop} (hm:drawMode E true id ops.size=.each) (vs:List SV) (bxf:(Nat→Bool)→List (Option (List SV)))
  (h0:mkSt st ops vs bxf (fun _=>false)=st) (hbx:∀L L',(∀i,i<ops.size→L i=L' i)→bxf L=bxf L')
  (hlt':ltOk ops=true)
  (hstep:∀(L:Nat→Bool) (i:Nat) (o:Oper),ops[i]?=some o→L i=false→(∀(j:Nat) (o':Oper),ops[j]?=some o'→L j=true→∀e∈o'.after,Region.binds .any e=true→L e.on=true)→(∀e∈o.after,Region.binds .any e=true→L e.on=true)→∀K':St→Prop,K' (mkSt st ops vs bxf (updL L i))→wpOps' A E false ops.toList [o] (mkSt st ops vs bxf L) K')
  (hend:Q .normal (mkSt st ops vs bxf fun _=>true)):wpC' A E (.region id ops true) nb st Q:=by
 have hlt:=ltOk_spec hlt'
 unfold wpC'
 rw [hm]
 have hJ:∀L L',(∀i,i<ops.size→L i=L' i)→mkSt st ops vs bxf L=mkSt st ops vs bxf L':=fun L L' h=>by
  unfold mkSt
  rw [hbx L L' h,mkSl_congr (L:=L) (L':=L') fun j _ h2=>h j (by simpa using h2)]
 have h:=wpAll_inv2 (A:=A) (E:=E) (K:=Q .normal) hlt hJ hstep hend ops.size (Array.replicate ops.size false) (by simp) (by simp [List.count_replicate]) (fun j o' ho' hj=>by
  have:=(Array.getElem?_eq_some_iff.1 ho').1
  simp [Array.getD_eq_getD_getElem?,this] at hj)
 have e:mkSt st ops vs bxf (fun i=>(Array.replicate ops.size false).getD i true)=st:=by
  refine (hJ _ (fun _=>false) fun i hi=>?_).trans h0
  simp [Array.getD_eq_getD_getElem?,hi]
 rw [e] at h
 exact h
end Go.Abs
namespace Go.Abs
open Go.RowKit Go.Proofs
theorem indexFunc_Int {g:FuncId} {caps xs:List PV} (p:Int→Bool) (l:List Int) (hxs:xs=encInts l) (hg:∀x∈l,CallsPV Tryz.prog g (encInt x::caps) (.bool (p x))) :
  CallsPV Tryz.prog 130 [.list 1 xs,.fn g caps] (.int .i64 (findI p l)):=by
 refine callsPV_by (clo:=fun _=>false) (rows:=false) env_ok Tryz.func130 rfl (enters_of Tryz.func130 (by kernel_rfl) rfl) (fun A q P Y hr hA hq=>?_)
 have hlen:=(hr.mem (p:=.list 1 xs) (by simp)).len
 have hll:xs.length=l.length:=by rw [hxs];simp [encInts]
 conv=>cbv
 refine loop_set hA (fun (i:Int) s=>s.put (some 8) (.val (.int .i64 i))) (fun i=>0≤i∧i≤l.length∧∀x∈l.take i.toNat,p x=false) (fun i=>(l.length - i).toNat) 0 ?_ ?_ ?_
 ·conv=>cbv
  exact wk_sl (by simp [leL,leS])
 ·exact ⟨Int.le_refl _,by omega,by simp⟩
 ·intro R i hi hR
  conv=>cbv
  split
  ·rename_i h1
   have h1':i<l.length:=by subst hA;rw [←hll];simpa [stdOps] using h1
   conv=>cbv
   refine idx_Int hA hxs hi.1 h1' (fun x hx =>?_)
   conv=>cbv
   refine call_intro' hA (hg x (List.mem_of_getElem? hx)) (by simp [encInt]) ?_
   have htake:=take_snoc' hi.1 hx
   conv=>cbv
   split
   ·rename_i h2
    conv=>cbv
    rw [←hq,findI_hit hi.1 hx h2 hi.2.2]
   ·rename_i h2
    conv=>cbv
    refine ⟨by subst hA;show inI64 (i+1);unfold inI64;omega,hR (A.iAdd i 1) _ (by (conv=>cbv);exact wk_sl (by simp [leL,leS])) ?_ ?_⟩
    ·subst hA
     show 0≤i+1∧i+1≤l.length∧∀x∈l.take (i+1).toNat,p x=false
     refine ⟨by omega,by omega,fun y hy=>?_⟩
     rw [htake,List.mem_append] at hy
     rcases hy with hy | hy
     ·exact hi.2.2 y hy
     ·rw [List.mem_singleton.1 hy];exact h2
    ·subst hA
     show (l.length - (i+1)).toNat<(l.length - i).toNat
     omega
  ·rename_i h1
   have h1':¬i<l.length:=by subst hA;rw [←hll];simpa [stdOps] using h1
   conv=>cbv
   rw [←hq,findI_miss]
   intro y hy
   refine hi.2.2 y ?_
   rw [List.take_of_length_le (by omega)]
   exact hy
theorem containsFunc_Int {g:FuncId} {caps xs:List PV} (p:Int→Bool) (l:List Int) (hxs:xs=encInts l) (hg:∀x∈l,CallsPV Tryz.prog g (encInt x::caps) (.bool (p x))) :
  CallsPV Tryz.prog 56 [.list 1 xs,.fn g caps] (.bool (l.any p)):=by
 refine callsPV_by (clo:=fun _=>false) (rows:=false) env_ok Tryz.func56 rfl (enters_of Tryz.func56 (by kernel_rfl) rfl) (fun A q P Y hr hA hq=>?_)
 conv=>cbv
 refine call_intro hA (indexFunc_Int p l hxs hg) ?_
 obtain ⟨r,hr⟩:∃r,r=findI p l:=⟨_,rfl⟩
 rw [←hr]
 conv=>cbv
 rw [←hq,←findI_any,←hr]
 subst hA
 rfl
theorem all1_Int {g:FuncId} {caps:List PV} (p:Int→Bool) (x:Int) (hg:CallsPV Tryz.prog g (encInt x::caps) (.bool (p x))) :
  CallsPV Tryz.prog 173 [encInt x,.ptr [.fn g caps] 0] (.bool (!p x)):=by
 refine callsPV_by (clo:=fun _=>false) (rows:=false) env_ok Tryz.func173 rfl (enters_of Tryz.func173 (by kernel_rfl) rfl) (fun A q P Y hr hA hq=>?_)
 rw [show encInt x=.int .i64 x from rfl] at hg ⊢
 conv=>cbv
 refine call_intro hA hg ?_
 conv=>cbv
 rw [←hq]
 subst hA
 rfl
theorem all_Int {g:FuncId} {caps xs:List PV} (p:Int→Bool) (l:List Int) (hxs:xs=encInts l) (hg:∀x∈l,CallsPV Tryz.prog g (encInt x::caps) (.bool (p x))) :
  CallsPV Tryz.prog 110 [.list 1 xs,.fn g caps] (.bool (l.all p)):=by
 refine callsPV_by (clo:=fun _=>false) (rows:=false) env_ok Tryz.func110 rfl (enters_of Tryz.func110 (by kernel_rfl) rfl) (fun A q P Y hr hA hq=>?_)
 conv=>cbv
 refine call_intro hA (containsFunc_Int (fun x=>!p x) l hxs (fun x hx=>all1_Int p x (hg x hx))) ?_
 obtain ⟨r,hr⟩:∃r,r=l.any (fun x=>!p x):=⟨_,rfl⟩
 rw [←hr]
 conv=>cbv
 rw [←hq]
 subst hA
 show PV.bool (!r)=_
 rw [hr]
 simp [List.any_eq_not_all_not]
theorem indexFunc_Span {g:FuncId} {caps xs:List PV} (p:Span→Bool) (l:List Span) (hxs:xs=encSpans l) (hg:∀x∈l,CallsPV Tryz.prog g (encSpan x::caps) (.bool (p x))) :
  CallsPV Tryz.prog 233 [.list 2 xs,.fn g caps] (.int .i64 (findI p l)):=by
 refine callsPV_by (clo:=fun _=>false) (rows:=false) env_ok Tryz.func233 rfl (enters_of Tryz.func233 (by kernel_rfl) rfl) (fun A q P Y hr hA hq=>?_)
 have hlen:=(hr.mem (p:=.list 2 xs) (by simp)).len
 have hll:xs.length=l.length:=by rw [hxs];simp [encSpans]
 conv=>cbv
 refine loop_set hA (fun (i:Int) s=>s.put (some 8) (.val (.int .i64 i))) (fun i=>0≤i∧i≤l.length∧∀x∈l.take i.toNat,p x=false) (fun i=>(l.length - i).toNat) 0 ?_ ?_ ?_
 ·conv=>cbv
  exact wk_sl (by simp [leL,leS])
 ·exact ⟨Int.le_refl _,by omega,by simp⟩
 ·intro R i hi hR
  conv=>cbv
  split
  ·rename_i h1
   have h1':i<l.length:=by subst hA;rw [←hll];simpa [stdOps] using h1
   conv=>cbv
   refine idx_Span hA hxs hi.1 h1' (fun x hx =>?_)
   conv=>cbv
   refine call_intro' hA (hg x (List.mem_of_getElem? hx)) (by simp [encSpan]) ?_
   have htake:=take_snoc' hi.1 hx
   conv=>cbv
   split
   ·rename_i h2
    conv=>cbv
    rw [←hq,findI_hit hi.1 hx h2 hi.2.2]
   ·rename_i h2
    conv=>cbv
    refine ⟨by subst hA;show inI64 (i+1);unfold inI64;omega,hR (A.iAdd i 1) _ (by (conv=>cbv);exact wk_sl (by simp [leL,leS])) ?_ ?_⟩
    ·subst hA
     show 0≤i+1∧i+1≤l.length∧∀x∈l.take (i+1).toNat,p x=false
     refine ⟨by omega,by omega,fun y hy=>?_⟩
     rw [htake,List.mem_append] at hy
     rcases hy with hy | hy
     ·exact hi.2.2 y hy
     ·rw [List.mem_singleton.1 hy];exact h2
    ·subst hA
     show (l.length - (i+1)).toNat<(l.length - i).toNat
     omega
  ·rename_i h1
   have h1':¬i<l.length:=by subst hA;rw [←hll];simpa [stdOps] using h1
   conv=>cbv
   rw [←hq,findI_miss]
   intro y hy
   refine hi.2.2 y ?_
   rw [List.take_of_length_le (by omega)]
   exact hy
theorem containsFunc_Span {g:FuncId} {caps xs:List PV} (p:Span→Bool) (l:List Span) (hxs:xs=encSpans l) (hg:∀x∈l,CallsPV Tryz.prog g (encSpan x::caps) (.bool (p x))) :
  CallsPV Tryz.prog 174 [.list 2 xs,.fn g caps] (.bool (l.any p)):=by
 refine callsPV_by (clo:=fun _=>false) (rows:=false) env_ok Tryz.func174 rfl (enters_of Tryz.func174 (by kernel_rfl) rfl) (fun A q P Y hr hA hq=>?_)
 conv=>cbv
 refine call_intro hA (indexFunc_Span p l hxs hg) ?_
 obtain ⟨r,hr⟩:∃r,r=findI p l:=⟨_,rfl⟩
 rw [←hr]
 conv=>cbv
 rw [←hq,←findI_any,←hr]
 subst hA
 rfl
theorem indexFunc_ListInt {g:FuncId} {caps xs:List PV} (p:(List Int)→Bool) (l:List (List Int)) (hxs:xs=encIntLs l) (hg:∀x∈l,CallsPV Tryz.prog g (encIntL x::caps) (.bool (p x))) :
  CallsPV Tryz.prog 240 [.list 1 xs,.fn g caps] (.int .i64 (findI p l)):=by
 refine callsPV_by (clo:=fun _=>false) (rows:=false) env_ok Tryz.func240 rfl (enters_of Tryz.func240 (by kernel_rfl) rfl) (fun A q P Y hr hA hq=>?_)
 have hlen:=(hr.mem (p:=.list 1 xs) (by simp)).len
 have hll:xs.length=l.length:=by rw [hxs];simp [encIntLs]
 conv=>cbv
 refine loop_set hA (fun (i:Int) s=>s.put (some 8) (.val (.int .i64 i))) (fun i=>0≤i∧i≤l.length∧∀x∈l.take i.toNat,p x=false) (fun i=>(l.length - i).toNat) 0 ?_ ?_ ?_
 ·conv=>cbv
  exact wk_sl (by simp [leL,leS])
 ·exact ⟨Int.le_refl _,by omega,by simp⟩
 ·intro R i hi hR
  conv=>cbv
  split
  ·rename_i h1
   have h1':i<l.length:=by subst hA;rw [←hll];simpa [stdOps] using h1
   conv=>cbv
   refine idx_IntL hA hxs hi.1 h1' (fun x v0 hx hv0=>?_)
   conv=>cbv
   refine call_intro' hA (hg x (List.mem_of_getElem? hx)) (by simp [encIntL,hv0]) ?_
   have htake:=take_snoc' hi.1 hx
   conv=>cbv
   split
   ·rename_i h2
    conv=>cbv
    rw [←hq,findI_hit hi.1 hx h2 hi.2.2]
   ·rename_i h2
    conv=>cbv
    refine ⟨by subst hA;show inI64 (i+1);unfold inI64;omega,hR (A.iAdd i 1) _ (by (conv=>cbv);exact wk_sl (by simp [leL,leS])) ?_ ?_⟩
    ·subst hA
     show 0≤i+1∧i+1≤l.length∧∀x∈l.take (i+1).toNat,p x=false
     refine ⟨by omega,by omega,fun y hy=>?_⟩
     rw [htake,List.mem_append] at hy
     rcases hy with hy | hy
     ·exact hi.2.2 y hy
     ·rw [List.mem_singleton.1 hy];exact h2
    ·subst hA
     show (l.length - (i+1)).toNat<(l.length - i).toNat
     omega
  ·rename_i h1
   have h1':¬i<l.length:=by subst hA;rw [←hll];simpa [stdOps] using h1
   conv=>cbv
   rw [←hq,findI_miss]
   intro y hy
   refine hi.2.2 y ?_
   rw [List.take_of_length_le (by omega)]
   exact hy
theorem containsFunc_ListInt {g:FuncId} {caps xs:List PV} (p:(List Int)→Bool) (l:List (List Int)) (hxs:xs=encIntLs l) (hg:∀x∈l,CallsPV Tryz.prog g (encIntL x::caps) (.bool (p x))) :
  CallsPV Tryz.prog 182 [.list 1 xs,.fn g caps] (.bool (l.any p)):=by
 refine callsPV_by (clo:=fun _=>false) (rows:=false) env_ok Tryz.func182 rfl (enters_of Tryz.func182 (by kernel_rfl) rfl) (fun A q P Y hr hA hq=>?_)
 conv=>cbv
 refine call_intro hA (indexFunc_ListInt p l hxs hg) ?_
 obtain ⟨r,hr⟩:∃r,r=findI p l:=⟨_,rfl⟩
 rw [←hr]
 conv=>cbv
 rw [←hq,←findI_any,←hr]
 subst hA
 rfl
theorem all1_ListInt {g:FuncId} {caps:List PV} (p:(List Int)→Bool) (x:(List Int)) (hg:CallsPV Tryz.prog g (encIntL x::caps) (.bool (p x))) :
  CallsPV Tryz.prog 183 [encIntL x,.ptr [.fn g caps] 0] (.bool (!p x)):=by
 refine callsPV_by (clo:=fun _=>false) (rows:=false) env_ok Tryz.func183 rfl (enters_of Tryz.func183 (by kernel_rfl) rfl) (fun A q P Y hr hA hq=>?_)
 rw [show encIntL x=.list 1 (encInts x) from rfl] at hg ⊢
 generalize encInts x=u0 at hg ⊢
 conv=>cbv
 refine call_intro hA hg ?_
 conv=>cbv
 rw [←hq]
 subst hA
 rfl
theorem all_ListInt {g:FuncId} {caps xs:List PV} (p:(List Int)→Bool) (l:List (List Int)) (hxs:xs=encIntLs l) (hg:∀x∈l,CallsPV Tryz.prog g (encIntL x::caps) (.bool (p x))) :
  CallsPV Tryz.prog 122 [.list 1 xs,.fn g caps] (.bool (l.all p)):=by
 refine callsPV_by (clo:=fun _=>false) (rows:=false) env_ok Tryz.func122 rfl (enters_of Tryz.func122 (by kernel_rfl) rfl) (fun A q P Y hr hA hq=>?_)
 conv=>cbv
 refine call_intro hA (containsFunc_ListInt (fun x=>!p x) l hxs (fun x hx=>all1_ListInt p x (hg x hx))) ?_
 obtain ⟨r,hr⟩:∃r,r=l.any (fun x=>!p x):=⟨_,rfl⟩
 rw [←hr]
 conv=>cbv
 rw [←hq]
 subst hA
 show PV.bool (!r)=_
 rw [hr]
 simp [List.any_eq_not_all_not]
theorem indexFunc_ListSpan {g:FuncId} {caps xs:List PV} (p:(List Span)→Bool) (l:List (List Span)) (hxs:xs=encSpanLs l) (hg:∀x∈l,CallsPV Tryz.prog g (encSpanL x::caps) (.bool (p x))) :
  CallsPV Tryz.prog 279 [.list 1 xs,.fn g caps] (.int .i64 (findI p l)):=by
 refine callsPV_by (clo:=fun _=>false) (rows:=false) env_ok Tryz.func279 rfl (enters_of Tryz.func279 (by kernel_rfl) rfl) (fun A q P Y hr hA hq=>?_)
 have hlen:=(hr.mem (p:=.list 1 xs) (by simp)).len
 have hll:xs.length=l.length:=by rw [hxs];simp [encSpanLs]
 conv=>cbv
 refine loop_set hA (fun (i:Int) s=>s.put (some 8) (.val (.int .i64 i))) (fun i=>0≤i∧i≤l.length∧∀x∈l.take i.toNat,p x=false) (fun i=>(l.length - i).toNat) 0 ?_ ?_ ?_
 ·conv=>cbv
  exact wk_sl (by simp [leL,leS])
 ·exact ⟨Int.le_refl _,by omega,by simp⟩
 ·intro R i hi hR
  conv=>cbv
  split
  ·rename_i h1
   have h1':i<l.length:=by subst hA;rw [←hll];simpa [stdOps] using h1
   conv=>cbv
   refine idx_SpanL hA hxs hi.1 h1' (fun x v0 hx hv0=>?_)
   conv=>cbv
   refine call_intro' hA (hg x (List.mem_of_getElem? hx)) (by simp [encSpanL,hv0]) ?_
   have htake:=take_snoc' hi.1 hx
   conv=>cbv
   split
   ·rename_i h2
    conv=>cbv
    rw [←hq,findI_hit hi.1 hx h2 hi.2.2]
   ·rename_i h2
    conv=>cbv
    refine ⟨by subst hA;show inI64 (i+1);unfold inI64;omega,hR (A.iAdd i 1) _ (by (conv=>cbv);exact wk_sl (by simp [leL,leS])) ?_ ?_⟩
    ·subst hA
     show 0≤i+1∧i+1≤l.length∧∀x∈l.take (i+1).toNat,p x=false
     refine ⟨by omega,by omega,fun y hy=>?_⟩
     rw [htake,List.mem_append] at hy
     rcases hy with hy | hy
     ·exact hi.2.2 y hy
     ·rw [List.mem_singleton.1 hy];exact h2
    ·subst hA
     show (l.length - (i+1)).toNat<(l.length - i).toNat
     omega
  ·rename_i h1
   have h1':¬i<l.length:=by subst hA;rw [←hll];simpa [stdOps] using h1
   conv=>cbv
   rw [←hq,findI_miss]
   intro y hy
   refine hi.2.2 y ?_
   rw [List.take_of_length_le (by omega)]
   exact hy
theorem containsFunc_ListSpan {g:FuncId} {caps xs:List PV} (p:(List Span)→Bool) (l:List (List Span)) (hxs:xs=encSpanLs l) (hg:∀x∈l,CallsPV Tryz.prog g (encSpanL x::caps) (.bool (p x))) :
  CallsPV Tryz.prog 236 [.list 1 xs,.fn g caps] (.bool (l.any p)):=by
 refine callsPV_by (clo:=fun _=>false) (rows:=false) env_ok Tryz.func236 rfl (enters_of Tryz.func236 (by kernel_rfl) rfl) (fun A q P Y hr hA hq=>?_)
 conv=>cbv
 refine call_intro hA (indexFunc_ListSpan p l hxs hg) ?_
 obtain ⟨r,hr⟩:∃r,r=findI p l:=⟨_,rfl⟩
 rw [←hr]
 conv=>cbv
 rw [←hq,←findI_any,←hr]
 subst hA
 rfl
theorem indexFunc_Sector {g:FuncId} {caps xs:List PV} (p:Sector→Bool) (l:List Sector) (hxs:xs=encSectors l) (hg:∀x∈l,CallsPV Tryz.prog g (encSector x::caps) (.bool (p x))) :
  CallsPV Tryz.prog 239 [.list 5 xs,.fn g caps] (.int .i64 (findI p l)):=by
 refine callsPV_by (clo:=fun _=>false) (rows:=false) env_ok Tryz.func239 rfl (enters_of Tryz.func239 (by kernel_rfl) rfl) (fun A q P Y hr hA hq=>?_)
 have hlen:=(hr.mem (p:=.list 5 xs) (by simp)).len
 have hll:xs.length=l.length:=by rw [hxs];simp [encSectors]
 conv=>cbv
 refine loop_set hA (fun (i:Int) s=>s.put (some 8) (.val (.int .i64 i))) (fun i=>0≤i∧i≤l.length∧∀x∈l.take i.toNat,p x=false) (fun i=>(l.length - i).toNat) 0 ?_ ?_ ?_
 ·conv=>cbv
  exact wk_sl (by simp [leL,leS])
 ·exact ⟨Int.le_refl _,by omega,by simp⟩
 ·intro R i hi hR
  conv=>cbv
  split
  ·rename_i h1
   have h1':i<l.length:=by subst hA;rw [←hll];simpa [stdOps] using h1
   conv=>cbv
   refine idx_Sector hA hxs hi.1 h1' (fun x v0 v1 hx hv0 hv1=>?_)
   conv=>cbv
   refine call_intro' hA (hg x (List.mem_of_getElem? hx)) (by simp [encSector,hv0,hv1]) ?_
   have htake:=take_snoc' hi.1 hx
   conv=>cbv
   split
   ·rename_i h2
    conv=>cbv
    rw [←hq,findI_hit hi.1 hx h2 hi.2.2]
   ·rename_i h2
    conv=>cbv
    refine ⟨by subst hA;show inI64 (i+1);unfold inI64;omega,hR (A.iAdd i 1) _ (by (conv=>cbv);exact wk_sl (by simp [leL,leS])) ?_ ?_⟩
    ·subst hA
     show 0≤i+1∧i+1≤l.length∧∀x∈l.take (i+1).toNat,p x=false
     refine ⟨by omega,by omega,fun y hy=>?_⟩
     rw [htake,List.mem_append] at hy
     rcases hy with hy | hy
     ·exact hi.2.2 y hy
     ·rw [List.mem_singleton.1 hy];exact h2
    ·subst hA
     show (l.length - (i+1)).toNat<(l.length - i).toNat
     omega
  ·rename_i h1
   have h1':¬i<l.length:=by subst hA;rw [←hll];simpa [stdOps] using h1
   conv=>cbv
   rw [←hq,findI_miss]
   intro y hy
   refine hi.2.2 y ?_
   rw [List.take_of_length_le (by omega)]
   exact hy
theorem containsFunc_Sector {g:FuncId} {caps xs:List PV} (p:Sector→Bool) (l:List Sector) (hxs:xs=encSectors l) (hg:∀x∈l,CallsPV Tryz.prog g (encSector x::caps) (.bool (p x))) :
  CallsPV Tryz.prog 180 [.list 5 xs,.fn g caps] (.bool (l.any p)):=by
 refine callsPV_by (clo:=fun _=>false) (rows:=false) env_ok Tryz.func180 rfl (enters_of Tryz.func180 (by kernel_rfl) rfl) (fun A q P Y hr hA hq=>?_)
 conv=>cbv
 refine call_intro hA (indexFunc_Sector p l hxs hg) ?_
 obtain ⟨r,hr⟩:∃r,r=findI p l:=⟨_,rfl⟩
 rw [←hr]
 conv=>cbv
 rw [←hq,←findI_any,←hr]
 subst hA
 rfl
theorem all1_Sector {g:FuncId} {caps:List PV} (p:Sector→Bool) (x:Sector) (hg:CallsPV Tryz.prog g (encSector x::caps) (.bool (p x))) :
  CallsPV Tryz.prog 181 [encSector x,.ptr [.fn g caps] 0] (.bool (!p x)):=by
 refine callsPV_by (clo:=fun _=>false) (rows:=false) env_ok Tryz.func181 rfl (enters_of Tryz.func181 (by kernel_rfl) rfl) (fun A q P Y hr hA hq=>?_)
 rw [show encSector x=.agg [.str x.Name,.list 1 (encStrs x.Names),.list 1 (encInts x.Volumes),.int .i64 x.Radar,.int .i64 x.Procedural] from rfl] at hg ⊢
 generalize encStrs x.Names=u0 at hg ⊢
 generalize encInts x.Volumes=u1 at hg ⊢
 conv=>cbv
 refine call_intro hA hg ?_
 conv=>cbv
 rw [←hq]
 subst hA
 rfl
theorem all_Sector {g:FuncId} {caps xs:List PV} (p:Sector→Bool) (l:List Sector) (hxs:xs=encSectors l) (hg:∀x∈l,CallsPV Tryz.prog g (encSector x::caps) (.bool (p x))) :
  CallsPV Tryz.prog 121 [.list 5 xs,.fn g caps] (.bool (l.all p)):=by
 refine callsPV_by (clo:=fun _=>false) (rows:=false) env_ok Tryz.func121 rfl (enters_of Tryz.func121 (by kernel_rfl) rfl) (fun A q P Y hr hA hq=>?_)
 conv=>cbv
 refine call_intro hA (containsFunc_Sector (fun x=>!p x) l hxs (fun x hx=>all1_Sector p x (hg x hx))) ?_
 obtain ⟨r,hr⟩:∃r,r=l.any (fun x=>!p x):=⟨_,rfl⟩
 rw [←hr]
 conv=>cbv
 rw [←hq]
 subst hA
 show PV.bool (!r)=_
 rw [hr]
 simp [List.any_eq_not_all_not]
theorem indexFunc_Leg {g:FuncId} {caps xs:List PV} (p:Leg→Bool) (l:List Leg) (hxs:xs=encLegs l) (hg:∀x∈l,CallsPV Tryz.prog g (encLeg x::caps) (.bool (p x))) :
  CallsPV Tryz.prog 234 [.list 4 xs,.fn g caps] (.int .i64 (findI p l)):=by
 refine callsPV_by (clo:=fun _=>false) (rows:=false) env_ok Tryz.func234 rfl (enters_of Tryz.func234 (by kernel_rfl) rfl) (fun A q P Y hr hA hq=>?_)
 have hlen:=(hr.mem (p:=.list 4 xs) (by simp)).len
 have hll:xs.length=l.length:=by rw [hxs];simp [encLegs]
 conv=>cbv
 refine loop_set hA (fun (i:Int) s=>s.put (some 8) (.val (.int .i64 i))) (fun i=>0≤i∧i≤l.length∧∀x∈l.take i.toNat,p x=false) (fun i=>(l.length - i).toNat) 0 ?_ ?_ ?_
 ·conv=>cbv
  exact wk_sl (by simp [leL,leS])
 ·exact ⟨Int.le_refl _,by omega,by simp⟩
 ·intro R i hi hR
  conv=>cbv
  split
  ·rename_i h1
   have h1':i<l.length:=by subst hA;rw [←hll];simpa [stdOps] using h1
   conv=>cbv
   refine idx_Leg hA hxs hi.1 h1' (fun x v0 hx hv0=>?_)
   conv=>cbv
   refine call_intro' hA (hg x (List.mem_of_getElem? hx)) (by simp [encLeg,hv0]) ?_
   have htake:=take_snoc' hi.1 hx
   conv=>cbv
   split
   ·rename_i h2
    conv=>cbv
    rw [←hq,findI_hit hi.1 hx h2 hi.2.2]
   ·rename_i h2
    conv=>cbv
    refine ⟨by subst hA;show inI64 (i+1);unfold inI64;omega,hR (A.iAdd i 1) _ (by (conv=>cbv);exact wk_sl (by simp [leL,leS])) ?_ ?_⟩
    ·subst hA
     show 0≤i+1∧i+1≤l.length∧∀x∈l.take (i+1).toNat,p x=false
     refine ⟨by omega,by omega,fun y hy=>?_⟩
     rw [htake,List.mem_append] at hy
     rcases hy with hy | hy
     ·exact hi.2.2 y hy
     ·rw [List.mem_singleton.1 hy];exact h2
    ·subst hA
     show (l.length - (i+1)).toNat<(l.length - i).toNat
     omega
  ·rename_i h1
   have h1':¬i<l.length:=by subst hA;rw [←hll];simpa [stdOps] using h1
   conv=>cbv
   rw [←hq,findI_miss]
   intro y hy
   refine hi.2.2 y ?_
   rw [List.take_of_length_le (by omega)]
   exact hy
theorem containsFunc_Leg {g:FuncId} {caps xs:List PV} (p:Leg→Bool) (l:List Leg) (hxs:xs=encLegs l) (hg:∀x∈l,CallsPV Tryz.prog g (encLeg x::caps) (.bool (p x))) :
  CallsPV Tryz.prog 176 [.list 4 xs,.fn g caps] (.bool (l.any p)):=by
 refine callsPV_by (clo:=fun _=>false) (rows:=false) env_ok Tryz.func176 rfl (enters_of Tryz.func176 (by kernel_rfl) rfl) (fun A q P Y hr hA hq=>?_)
 conv=>cbv
 refine call_intro hA (indexFunc_Leg p l hxs hg) ?_
 obtain ⟨r,hr⟩:∃r,r=findI p l:=⟨_,rfl⟩
 rw [←hr]
 conv=>cbv
 rw [←hq,←findI_any,←hr]
 subst hA
 rfl
theorem all1_Leg {g:FuncId} {caps:List PV} (p:Leg→Bool) (x:Leg) (hg:CallsPV Tryz.prog g (encLeg x::caps) (.bool (p x))) :
  CallsPV Tryz.prog 177 [encLeg x,.ptr [.fn g caps] 0] (.bool (!p x)):=by
 refine callsPV_by (clo:=fun _=>false) (rows:=false) env_ok Tryz.func177 rfl (enters_of Tryz.func177 (by kernel_rfl) rfl) (fun A q P Y hr hA hq=>?_)
 rw [show encLeg x=.agg [.int .i64 x.Segment,.int .i64 x.Volume,.int .i64 x.Length,.list 2 (encSpans x.Minutes)] from rfl] at hg ⊢
 generalize encSpans x.Minutes=u0 at hg ⊢
 conv=>cbv
 refine call_intro hA hg ?_
 conv=>cbv
 rw [←hq]
 subst hA
 rfl
theorem all_Leg {g:FuncId} {caps xs:List PV} (p:Leg→Bool) (l:List Leg) (hxs:xs=encLegs l) (hg:∀x∈l,CallsPV Tryz.prog g (encLeg x::caps) (.bool (p x))) :
  CallsPV Tryz.prog 116 [.list 4 xs,.fn g caps] (.bool (l.all p)):=by
 refine callsPV_by (clo:=fun _=>false) (rows:=false) env_ok Tryz.func116 rfl (enters_of Tryz.func116 (by kernel_rfl) rfl) (fun A q P Y hr hA hq=>?_)
 conv=>cbv
 refine call_intro hA (containsFunc_Leg (fun x=>!p x) l hxs (fun x hx=>all1_Leg p x (hg x hx))) ?_
 obtain ⟨r,hr⟩:∃r,r=l.any (fun x=>!p x):=⟨_,rfl⟩
 rw [←hr]
 conv=>cbv
 rw [←hq]
 subst hA
 show PV.bool (!r)=_
 rw [hr]
 simp [List.any_eq_not_all_not]
theorem indexFunc_Way {g:FuncId} {caps xs:List PV} (p:Way→Bool) (l:List Way) (hxs:xs=encWays l) (hg:∀x∈l,CallsPV Tryz.prog g (encWay x::caps) (.bool (p x))) :
  CallsPV Tryz.prog 241 [.list 3 xs,.fn g caps] (.int .i64 (findI p l)):=by
 refine callsPV_by (clo:=fun _=>false) (rows:=false) env_ok Tryz.func241 rfl (enters_of Tryz.func241 (by kernel_rfl) rfl) (fun A q P Y hr hA hq=>?_)
 have hlen:=(hr.mem (p:=.list 3 xs) (by simp)).len
 have hll:xs.length=l.length:=by rw [hxs];simp [encWays]
 conv=>cbv
 refine loop_set hA (fun (i:Int) s=>s.put (some 8) (.val (.int .i64 i))) (fun i=>0≤i∧i≤l.length∧∀x∈l.take i.toNat,p x=false) (fun i=>(l.length - i).toNat) 0 ?_ ?_ ?_
 ·conv=>cbv
  exact wk_sl (by simp [leL,leS])
 ·exact ⟨Int.le_refl _,by omega,by simp⟩
 ·intro R i hi hR
  conv=>cbv
  split
  ·rename_i h1
   have h1':i<l.length:=by subst hA;rw [←hll];simpa [stdOps] using h1
   conv=>cbv
   refine idx_Way hA hxs hi.1 h1' (fun x v0 hx hv0=>?_)
   conv=>cbv
   refine call_intro' hA (hg x (List.mem_of_getElem? hx)) (by simp [encWay,hv0]) ?_
   have htake:=take_snoc' hi.1 hx
   conv=>cbv
   split
   ·rename_i h2
    conv=>cbv
    rw [←hq,findI_hit hi.1 hx h2 hi.2.2]
   ·rename_i h2
    conv=>cbv
    refine ⟨by subst hA;show inI64 (i+1);unfold inI64;omega,hR (A.iAdd i 1) _ (by (conv=>cbv);exact wk_sl (by simp [leL,leS])) ?_ ?_⟩
    ·subst hA
     show 0≤i+1∧i+1≤l.length∧∀x∈l.take (i+1).toNat,p x=false
     refine ⟨by omega,by omega,fun y hy=>?_⟩
     rw [htake,List.mem_append] at hy
     rcases hy with hy | hy
     ·exact hi.2.2 y hy
     ·rw [List.mem_singleton.1 hy];exact h2
    ·subst hA
     show (l.length - (i+1)).toNat<(l.length - i).toNat
     omega
  ·rename_i h1
   have h1':¬i<l.length:=by subst hA;rw [←hll];simpa [stdOps] using h1
   conv=>cbv
   rw [←hq,findI_miss]
   intro y hy
   refine hi.2.2 y ?_
   rw [List.take_of_length_le (by omega)]
   exact hy
theorem containsFunc_Way {g:FuncId} {caps xs:List PV} (p:Way→Bool) (l:List Way) (hxs:xs=encWays l) (hg:∀x∈l,CallsPV Tryz.prog g (encWay x::caps) (.bool (p x))) :
  CallsPV Tryz.prog 184 [.list 3 xs,.fn g caps] (.bool (l.any p)):=by
 refine callsPV_by (clo:=fun _=>false) (rows:=false) env_ok Tryz.func184 rfl (enters_of Tryz.func184 (by kernel_rfl) rfl) (fun A q P Y hr hA hq=>?_)
 conv=>cbv
 refine call_intro hA (indexFunc_Way p l hxs hg) ?_
 obtain ⟨r,hr⟩:∃r,r=findI p l:=⟨_,rfl⟩
 rw [←hr]
 conv=>cbv
 rw [←hq,←findI_any,←hr]
 subst hA
 rfl
theorem all1_Way {g:FuncId} {caps:List PV} (p:Way→Bool) (x:Way) (hg:CallsPV Tryz.prog g (encWay x::caps) (.bool (p x))) :
  CallsPV Tryz.prog 185 [encWay x,.ptr [.fn g caps] 0] (.bool (!p x)):=by
 refine callsPV_by (clo:=fun _=>false) (rows:=false) env_ok Tryz.func185 rfl (enters_of Tryz.func185 (by kernel_rfl) rfl) (fun A q P Y hr hA hq=>?_)
 rw [show encWay x=.agg [.int .i64 x.From,.int .i64 x.To,.list 4 (encLegs x.Legs)] from rfl] at hg ⊢
 generalize encLegs x.Legs=u0 at hg ⊢
 conv=>cbv
 refine call_intro hA hg ?_
 conv=>cbv
 rw [←hq]
 subst hA
 rfl
theorem all_Way {g:FuncId} {caps xs:List PV} (p:Way→Bool) (l:List Way) (hxs:xs=encWays l) (hg:∀x∈l,CallsPV Tryz.prog g (encWay x::caps) (.bool (p x))) :
  CallsPV Tryz.prog 123 [.list 3 xs,.fn g caps] (.bool (l.all p)):=by
 refine callsPV_by (clo:=fun _=>false) (rows:=false) env_ok Tryz.func123 rfl (enters_of Tryz.func123 (by kernel_rfl) rfl) (fun A q P Y hr hA hq=>?_)
 conv=>cbv
 refine call_intro hA (containsFunc_Way (fun x=>!p x) l hxs (fun x hx=>all1_Way p x (hg x hx))) ?_
 obtain ⟨r,hr⟩:∃r,r=l.any (fun x=>!p x):=⟨_,rfl⟩
 rw [←hr]
 conv=>cbv
 rw [←hq]
 subst hA
 show PV.bool (!r)=_
 rw [hr]
 simp [List.any_eq_not_all_not]
theorem indexFunc_Kind {g:FuncId} {caps xs:List PV} (p:Kind→Bool) (l:List Kind) (hxs:xs=encKinds l) (hg:∀x∈l,CallsPV Tryz.prog g (encKind x::caps) (.bool (p x))) :
  CallsPV Tryz.prog 242 [.list 6 xs,.fn g caps] (.int .i64 (findI p l)):=by
 refine callsPV_by (clo:=fun _=>false) (rows:=false) env_ok Tryz.func242 rfl (enters_of Tryz.func242 (by kernel_rfl) rfl) (fun A q P Y hr hA hq=>?_)
 have hlen:=(hr.mem (p:=.list 6 xs) (by simp)).len
 have hll:xs.length=l.length:=by rw [hxs];simp [encKinds]
 conv=>cbv
 refine loop_set hA (fun (i:Int) s=>s.put (some 8) (.val (.int .i64 i))) (fun i=>0≤i∧i≤l.length∧∀x∈l.take i.toNat,p x=false) (fun i=>(l.length - i).toNat) 0 ?_ ?_ ?_
 ·conv=>cbv
  exact wk_sl (by simp [leL,leS])
 ·exact ⟨Int.le_refl _,by omega,by simp⟩
 ·intro R i hi hR
  conv=>cbv
  split
  ·rename_i h1
   have h1':i<l.length:=by subst hA;rw [←hll];simpa [stdOps] using h1
   conv=>cbv
   refine idx_Kind hA hxs hi.1 h1' (fun x v0 hx hv0=>?_)
   conv=>cbv
   refine call_intro' hA (hg x (List.mem_of_getElem? hx)) (by simp [encKind,hv0]) ?_
   have htake:=take_snoc' hi.1 hx
   conv=>cbv
   split
   ·rename_i h2
    conv=>cbv
    rw [←hq,findI_hit hi.1 hx h2 hi.2.2]
   ·rename_i h2
    conv=>cbv
    refine ⟨by subst hA;show inI64 (i+1);unfold inI64;omega,hR (A.iAdd i 1) _ (by (conv=>cbv);exact wk_sl (by simp [leL,leS])) ?_ ?_⟩
    ·subst hA
     show 0≤i+1∧i+1≤l.length∧∀x∈l.take (i+1).toNat,p x=false
     refine ⟨by omega,by omega,fun y hy=>?_⟩
     rw [htake,List.mem_append] at hy
     rcases hy with hy | hy
     ·exact hi.2.2 y hy
     ·rw [List.mem_singleton.1 hy];exact h2
    ·subst hA
     show (l.length - (i+1)).toNat<(l.length - i).toNat
     omega
  ·rename_i h1
   have h1':¬i<l.length:=by subst hA;rw [←hll];simpa [stdOps] using h1
   conv=>cbv
   rw [←hq,findI_miss]
   intro y hy
   refine hi.2.2 y ?_
   rw [List.take_of_length_le (by omega)]
   exact hy
theorem containsFunc_Kind {g:FuncId} {caps xs:List PV} (p:Kind→Bool) (l:List Kind) (hxs:xs=encKinds l) (hg:∀x∈l,CallsPV Tryz.prog g (encKind x::caps) (.bool (p x))) :
  CallsPV Tryz.prog 186 [.list 6 xs,.fn g caps] (.bool (l.any p)):=by
 refine callsPV_by (clo:=fun _=>false) (rows:=false) env_ok Tryz.func186 rfl (enters_of Tryz.func186 (by kernel_rfl) rfl) (fun A q P Y hr hA hq=>?_)
 conv=>cbv
 refine call_intro hA (indexFunc_Kind p l hxs hg) ?_
 obtain ⟨r,hr⟩:∃r,r=findI p l:=⟨_,rfl⟩
 rw [←hr]
 conv=>cbv
 rw [←hq,←findI_any,←hr]
 subst hA
 rfl
theorem all1_Kind {g:FuncId} {caps:List PV} (p:Kind→Bool) (x:Kind) (hg:CallsPV Tryz.prog g (encKind x::caps) (.bool (p x))) :
  CallsPV Tryz.prog 187 [encKind x,.ptr [.fn g caps] 0] (.bool (!p x)):=by
 refine callsPV_by (clo:=fun _=>false) (rows:=false) env_ok Tryz.func187 rfl (enters_of Tryz.func187 (by kernel_rfl) rfl) (fun A q P Y hr hA hq=>?_)
 rw [show encKind x=.agg [.int .i64 x.Slow,.int .i64 x.Fast,.int .i64 x.Places,.int .i64 x.Weight,.int .i64 x.Longest,.list 1 (encSpanLs x.Curfews)] from rfl] at hg ⊢
 generalize encSpanLs x.Curfews=u0 at hg ⊢
 conv=>cbv
 refine call_intro hA hg ?_
 conv=>cbv
 rw [←hq]
 subst hA
 rfl
theorem all_Kind {g:FuncId} {caps xs:List PV} (p:Kind→Bool) (l:List Kind) (hxs:xs=encKinds l) (hg:∀x∈l,CallsPV Tryz.prog g (encKind x::caps) (.bool (p x))) :
  CallsPV Tryz.prog 124 [.list 6 xs,.fn g caps] (.bool (l.all p)):=by
 refine callsPV_by (clo:=fun _=>false) (rows:=false) env_ok Tryz.func124 rfl (enters_of Tryz.func124 (by kernel_rfl) rfl) (fun A q P Y hr hA hq=>?_)
 conv=>cbv
 refine call_intro hA (containsFunc_Kind (fun x=>!p x) l hxs (fun x hx=>all1_Kind p x (hg x hx))) ?_
 obtain ⟨r,hr⟩:∃r,r=l.any (fun x=>!p x):=⟨_,rfl⟩
 rw [←hr]
 conv=>cbv
 rw [←hq]
 subst hA
 show PV.bool (!r)=_
 rw [hr]
 simp [List.any_eq_not_all_not]
end Go.Abs
namespace Go.Abs
def inB (n lo hi:Int):Bool:=decide (lo≤n)&&decide (n≤hi)
def spanBad (s:Span):Bool:=decide (s.From<0) || decide (s.To≤s.From) || decide (1440<s.To)
def hoursOk (l:List Span):Bool:=!l.any spanBad
def withinL:List Int→Bool
 | a::b::c::r=>!(decide (a<b) || decide (c<a))&&withinL r
 | _=>true
def kindOk (k:Kind):Bool :=
 withinL [k.Slow,1,64,k.Fast,k.Slow,64,k.Places,1,8,k.Weight,1,8,k.Longest,0,60,(k.Curfews.length:Int),0,16]&&decide (k.Longest.tmod 10=0)&&!k.Curfews.any (fun l=>!hoursOk l)
def bitsFrom (x:Nat) (l:List Int):Nat:=l.foldl (fun x v=>x ||| 2 ^ v.toNat) x
def indexed (n:Nat):Nat→List Int→Bool
 | _,[]=>true
 | x,v::r=>decide (0≤v)&&decide (v<n)&&decide (x &&& 2 ^ v.toNat=0)&&indexed n (x ||| 2 ^ v.toNat) r
def sectorIx (n:Nat) (s:Sector):Bool:=indexed n 0 s.Volumes&&decide (bitsFrom 0 s.Volumes≠0)
def apartB (l:List Nat):Nat→List Int→Bool
 | _,[]=>true
 | x,s::r=>decide (0≤s)&&decide (s<l.length)&&decide (x &&& l.getD s.toNat 0=0)&&apartB l (x ||| l.getD s.toNat 0) r
def joined (l:List Nat) (x:Nat) (c:List Int):Nat:=c.foldl (fun x s=>x ||| l.getD s.toNat 0) x
def secBits (l:List Sector):List Nat:=l.map fun s=>bitsFrom 0 s.Volumes
def configOk (n:Nat) (l:List Nat) (c:Config):Bool:=apartB l 0 c.Sectors&&decide (joined l 0 c.Sectors=2 ^ n - 1)
def divOk (n:Nat) (ss:List Sector) (cs:List Config):Bool :=
 decide (1≤n)&&decide (n≤64)&&decide (ss.length≤64)&&decide (1≤cs.length)&&decide (cs.length≤32)&&ss.all (sectorIx n)&&cs.all (configOk n (secBits ss))
def sectorOk (s:Sector):Bool:=inB s.Radar 0 64&&inB s.Procedural 0 s.Radar
def modeOk (l:List Int):Bool:=inB l.length 1 16&&l.all fun n=>inB n 0 64
def legOk (nv:Int) (x:Leg):Bool:=inB x.Segment 0 127&&inB x.Volume 0 (nv - 1)&&inB x.Length 1 4096&&decide (0<x.Minutes.length)&&hoursOk x.Minutes
def wayOk (nv nm:Int) (w:Way):Bool:=inB w.From 0 (nm - 1)&&inB w.To 0 (nm - 1)&&inB w.Legs.length 1 8&&w.Legs.all (legOk nv)
def airOk (t:Tables):Bool :=
 inB t.Volumes 1 64&&divOk t.Volumes.toNat t.Sectors t.Configs&&t.Sectors.all sectorOk&&decide (t.Modes.length≤16)&&t.Modes.all modeOk&&decide (t.Ways.length≤64)&&t.Ways.all (wayOk t.Volumes t.Modes.length) &&
  decide (t.Kinds.length≤8)&&t.Kinds.all fun k=>kindOk k&&decide (k.Curfews.length=t.Modes.length)
end Go.Abs
namespace Go.Abs
def timesFrom:Int→List Int→Bool
 | _,[]=>true
 | p,t::r=>decide (0≤t)&&decide (t≤65535)&&decide (p<t)&&timesFrom t r
def pathOk (ws:List Way) (p:Path):Bool :=
 match (if 0≤p.Way then ws[p.Way.toNat]? else none) with
 | none=>false
 | some w=>decide (p.Times.length=w.Legs.length+1)&&timesFrom (-1) p.Times
def legStays:List Leg→List Int→List Stay
 | x::r,a::b::ts=>⟨false,x.Volume,⟨a,b⟩⟩::legStays r (b::ts)
 | _,_=>[]
def staysOf (w:Way) (ts:List Int):List Stay :=
 ⟨true,w.From,⟨ts.headD 0,ts.headD 0+1⟩⟩::legStays w.Legs ts++[⟨true,w.To,⟨ts.getLastD 0,ts.getLastD 0+1⟩⟩]
theorem air_legs {t:Tables} (h:airOk t=true) {w:Way} (hw:w∈t.Ways):w.Legs.length≤8∧1≤w.Legs.length:=by
 unfold airOk at h
 simp only [Bool.and_eq_true,List.all_eq_true] at h
 have:=h.1.1.2 w hw
 simp only [wayOk,inB,Bool.and_eq_true,decide_eq_true_eq] at this
 omega
end Go.Abs
namespace Go.Abs
open Go.RowKit
def encSet (n:Nat):PV:=.int .u64 (n:Int)
def encSets (l:List Nat):List PV:=l.map encSet
section
variable {A:Ops} {E:Env}
theorem u64_wrap {n:Nat} (h:n<2 ^ 64):IntKind.u64.wrap (n:Int)=(n:Int):=by
 unfold IntKind.wrap
 simp [IntKind.bits,IntKind.signed]
 omega
theorem u64_shl {v:Int} (h0:0≤v) (h1:v<64):(stdOps E).wShl .u64 1 v=((2 ^ v.toNat:Nat):Int):=by
 show IntKind.u64.wrap (1*2 ^ v.toNat)=_
 rw [Int.one_mul,show ((2:Int) ^ v.toNat)=((2 ^ v.toNat:Nat):Int) by simp]
 exact u64_wrap (Nat.pow_lt_pow_right (by omega) (by omega))
theorem bv_and {x y:Nat} (hx:x<2 ^ 64):(BitVec.ofInt 64 (x:Int) &&& BitVec.ofInt 64 (y:Int)).toNat=x &&& y:=by
 rw [BitVec.ofInt_natCast,BitVec.ofInt_natCast,BitVec.toNat_and,BitVec.toNat_ofNat,BitVec.toNat_ofNat,Nat.mod_eq_of_lt hx]
 apply Nat.eq_of_testBit_eq
 intro i
 rw [Nat.testBit_and,Nat.testBit_and,Nat.testBit_mod_two_pow]
 by_cases hi:i<64
 ·simp [hi]
 ·have:x.testBit i=false:=Nat.testBit_lt_two_pow (Nat.lt_of_lt_of_le hx (Nat.pow_le_pow_right (by omega) (by omega)))
  simp [this]
theorem bv_or {x y:Nat} (hx:x<2 ^ 64) (hy:y<2 ^ 64):(BitVec.ofInt 64 (x:Int) ||| BitVec.ofInt 64 (y:Int)).toNat=x ||| y:=by
 rw [BitVec.ofInt_natCast,BitVec.ofInt_natCast,BitVec.toNat_or,BitVec.toNat_ofNat,BitVec.toNat_ofNat,Nat.mod_eq_of_lt hx,Nat.mod_eq_of_lt hy]
theorem u64_and {x y:Nat} (hx:x<2 ^ 64):(stdOps E).wOp .and .u64 x y=((x &&& y:Nat):Int):=by
 show IntKind.u64.wrap (((BitVec.ofInt 64 (x:Int) &&& BitVec.ofInt 64 (y:Int)).toNat:Nat):Int)=_
 rw [bv_and hx]
 exact u64_wrap (Nat.lt_of_le_of_lt Nat.and_le_left hx)
theorem u64_or {x y:Nat} (hx:x<2 ^ 64) (hy:y<2 ^ 64):(stdOps E).wOp .or .u64 x y=((x ||| y:Nat):Int):=by
 show IntKind.u64.wrap (((BitVec.ofInt 64 (x:Int) ||| BitVec.ofInt 64 (y:Int)).toNat:Nat):Int)=_
 rw [bv_or hx hy]
 exact u64_wrap (Nat.or_lt_two_pow hx hy)
theorem pow_lt64 {v:Int} (h1:v<64):2 ^ v.toNat<2 ^ 64:=Nat.pow_lt_pow_right (by omega) (by omega)
theorem idx_Set (hA:A=stdOps E) {l:List Nat} {xs:List PV} (hx:xs=encSets l) {n:Int} {K:List PV→Prop} (h0:0≤n) (h1:n<l.length) (hk:∀x,l[n.toNat]?=some x→K [.int .u64 (x:Int)]):A.idx xs n K :=
 idx_var hA (l:=l) (enc:=encSet) hx.symm h0 h1 fun x h=>hk x h
theorem u64_all {n:Nat} (h1:1≤n) (h2:n≤64):(stdOps E).wShr 18446744073709551615 (64 - (n:Int))=((2 ^ n - 1:Nat):Int):=by
 show (18446744073709551615:Int).fdiv (2 ^ (64 - (n:Int)).toNat)=_
 have e:(64 - (n:Int)).toNat=64 - n:=by omega
 rw [e]
 have:∀m:Fin 65,1≤m.val→(18446744073709551615:Int).fdiv (2 ^ (64 - m.val))=((2 ^ m.val - 1:Nat):Int):=by decide +kernel
 exact this ⟨n,by omega⟩ h1
theorem secBits_lt {ss:List Sector} {n:Nat} (hn:n≤64) (h:ss.all (sectorIx n)=true):∀x∈secBits ss,x<2 ^ 64:=by
 have key:∀(vs:List Int) (x:Nat),x<2 ^ 64→indexed n x vs=true→bitsFrom x vs<2 ^ 64:=by
  intro vs
  induction vs with
  | nil=>intro x hx _;exact hx
  | cons v r ih =>
   intro x hx hi
   simp only [indexed,Bool.and_eq_true,decide_eq_true_eq] at hi
   exact ih _ (Nat.or_lt_two_pow hx (pow_lt64 (by omega))) hi.2
 intro x hx
 simp only [secBits,List.mem_map] at hx
 obtain ⟨s,hs,rfl⟩:=hx
 have:=List.all_eq_true.1 h s hs
 simp only [sectorIx,Bool.and_eq_true] at this
 exact key _ 0 (by omega) this.1
end
end Go.Abs
namespace Go.Abs
open Go.RowKit
section
variable {A:Ops} {E:Env}
theorem nT (hA:A=stdOps E) (h:A.bNot true=true):False:=by subst hA;cases h
theorem nF (hA:A=stdOps E) (h:A.bNot false=false):False:=by subst hA;cases h
theorem notT (hA:A=stdOps E) {b:Bool} (h:A.bNot b=true):b=false:=by subst hA;simpa [stdOps] using h
theorem notF (hA:A=stdOps E) {b:Bool} (h:A.bNot b=false):b=true:=by subst hA;simpa [stdOps] using h
theorem ltT (hA:A=stdOps E) {a b:Int} (h:A.iLt a b=true):a<b:=by subst hA;simpa [stdOps] using h
theorem ltF (hA:A=stdOps E) {a b:Int} (h:A.iLt a b=false):b≤a:=by subst hA;simp [stdOps] at h;omega
theorem leT (hA:A=stdOps E) {a b:Int} (h:A.iLe a b=true):a≤b:=by subst hA;simpa [stdOps] using h
theorem leF (hA:A=stdOps E) {a b:Int} (h:A.iLe a b=false):b<a:=by subst hA;simp [stdOps] at h;omega
theorem eqT (hA:A=stdOps E) {a b:Int} (h:A.iEq a b=true):a=b:=by subst hA;simpa [stdOps] using h
theorem eqF (hA:A=stdOps E) {a b:Int} (h:A.iEq a b=false):a≠b:=by subst hA;simpa [stdOps] using h
theorem neT (hA:A=stdOps E) {a b:Int} (h:A.bNot (A.iEq a b)=true):a≠b:=eqF hA (notT hA h)
theorem neF (hA:A=stdOps E) {a b:Int} (h:A.bNot (A.iEq a b)=false):a=b:=eqT hA (notF hA h)
theorem ltT' (hA:A=stdOps E) {a b a' b':Int} (ha:a=a') (hb:b=b') (h:A.iLt a b=true):a'<b':=by subst ha hb;exact ltT hA h
theorem ltF' (hA:A=stdOps E) {a b a' b':Int} (ha:a=a') (hb:b=b') (h:A.iLt a b=false):b'≤a':=by subst ha hb;exact ltF hA h
theorem leT' (hA:A=stdOps E) {a b a' b':Int} (ha:a=a') (hb:b=b') (h:A.iLe a b=true):a'≤b':=by subst ha hb;exact leT hA h
theorem leF' (hA:A=stdOps E) {a b a' b':Int} (ha:a=a') (hb:b=b') (h:A.iLe a b=false):b'<a':=by subst ha hb;exact leF hA h
theorem eqT' (hA:A=stdOps E) {a b a' b':Int} (ha:a=a') (hb:b=b') (h:A.iEq a b=true):a'=b':=by subst ha hb;exact eqT hA h
theorem eqF' (hA:A=stdOps E) {a b a' b':Int} (ha:a=a') (hb:b=b') (h:A.iEq a b=false):a'≠b':=by subst ha hb;exact eqF hA h
theorem neT' (hA:A=stdOps E) {a b a' b':Int} (ha:a=a') (hb:b=b') (h:A.bNot (A.iEq a b)=true):a'≠b':=by subst ha hb;exact neT hA h
theorem neF' (hA:A=stdOps E) {a b a' b':Int} (ha:a=a') (hb:b=b') (h:A.bNot (A.iEq a b)=false):a'=b':=by subst ha hb;exact neF hA h
theorem beqT (hA:A=stdOps E) {a b:Bool} (h:A.bEq a b=true):a=b:=by subst hA;simpa [stdOps] using h
theorem beqF (hA:A=stdOps E) {a b:Bool} (h:A.bEq a b=false):a≠b:=by subst hA;simpa [stdOps] using h
theorem addI (hA:A=stdOps E) (a b:Int):A.iAdd a b=a+b:=by subst hA;rfl
theorem subI (hA:A=stdOps E) (a b:Int):A.iSub a b=a - b:=by subst hA;rfl
theorem mulI (hA:A=stdOps E) (a b:Int):A.iMul a b=a*b:=by subst hA;rfl
theorem divI (hA:A=stdOps E) (a b:Int):A.iDiv a b=a.tdiv b:=by subst hA;rfl
theorem lenI (hA:A=stdOps E) {xs:List PV} {n:Nat} (h:xs.length=n):A.lLen xs=(n:Int):=by subst hA;subst h;rfl
theorem natI (hA:A=stdOps E) (n:Nat):A.iNat n=(n:Int):=by subst hA;rfl
theorem natN (hA:A=stdOps E) (n:Int):A.nNat n=n.toNat:=by subst hA;rfl
theorem inR' (hA:A=stdOps E) {a b:Int} (e:a=b) (h:inI64 b):A.inR a:=by subst hA;subst e;exact h
theorem withI (hA:A=stdOps E) {a b c:Int} (e:b=c) (h0:0≤a) (h:a<c):A.within a b:=by subst hA;subst e;exact ⟨h0,h⟩
end
theorem mem_snoc {α:Type} {p:α→Prop} {l l':List α} {y:α} (e:l'=l++[y]) (h:∀x∈l,p x) (hy:p y):∀x∈l',p x:=by
 subst e
 intro x hx
 rcases List.mem_append.1 hx with h1 | h1
 ·exact h x h1
 ·rw [List.mem_singleton.1 h1];exact hy
theorem take_all {α:Type} {p:α→Prop} {l:List α} {i:Int} (hi:i=(l.length:Int)) (h:∀x∈l.take i.toNat,p x):∀x∈l,p x:=by
 rw [List.take_of_length_le (by omega)] at h
 exact h
theorem any_f {α:Type} {p:α→Bool} {l:List α} (h:∀x∈l,p x=false):l.any p=false:=by rw [List.any_eq_false];intro x hx;simp [h x hx]
theorem leS_refl (s:SV):leS s s:=(leL_refl [s]).1
theorem leL_same {s:SV} {l l':List SV} (h:leL l l'):leL (s::l) (s::l'):=⟨leS_refl s,h⟩
theorem leL_any {s:SV} {l l':List SV} (h:leL l l'):leL (s::l) (SV.val .any::l'):=⟨trivial,h⟩
theorem leL_own {t m:Nat} {xs:List PV} {l l':List SV} (h:leL l l'):leL (.own t m xs::l) (SV.val (.list m xs)::l'):=⟨.inr (.inl rfl),h⟩
theorem leL_lit {m:Nat} {xs:List PV} {l l':List SV} (h:leL l l'):leL (.lit m xs::l) (SV.val (.list m xs)::l'):=⟨.inr (.inl rfl),h⟩
theorem leL_nil:leL [] []:=trivial
end Go.Abs
namespace Go.Abs
open Go.RowKit
inductive LeP:PV→PV→Prop
 | refl (p:PV):LeP p p
 | nil (m m':Nat) (h0:m'=0→m=0:=by first | decide | (intro h;cases h) | exact fun h=>h):LeP (.list m []) (.list m' [])
 | list (m:Nat) (xs ys:List PV) (hl:xs.length=ys.length) (h:∀(i:Nat) (x y:PV),xs[i]?=some x→ys[i]?=some y→LeP x y):LeP (.list m xs) (.list m ys)
 | agg (xs ys:List PV) (hl:xs.length=ys.length) (h:∀(i:Nat) (x y:PV),xs[i]?=some x→ys[i]?=some y→LeP x y):LeP (.agg xs) (.agg ys)
 | tup (xs ys:List PV) (hl:xs.length=ys.length) (h:∀(i:Nat) (x y:PV),xs[i]?=some x→ys[i]?=some y→LeP x y):LeP (.tup xs) (.tup ys)
 | map (ks vs ks' vs':List PV) (hl:ks'.length=vs'.length) (hp:(ks.zip vs).Perm (ks'.zip vs')):LeP (.map ks vs) (.map ks' vs')
theorem get_other {α β:Type} {xs:List α} {ys:List β} (hl:xs.length=ys.length) {i:Nat} {y:β} (h:ys[i]?=some y):∃x,xs[i]?=some x :=
 ⟨xs[i]'(by rw [hl];exact (List.getElem?_eq_some_iff.1 h).1),List.getElem?_eq_getElem _⟩
theorem LeP.cells {p q:PV} (h:LeP p q):p.cells.length=q.cells.length∧∀(j:Nat) (c d:PV),p.cells[j]?=some c→q.cells[j]?=some d→LeP c d:=by
 cases h with
 | refl p=>exact ⟨rfl,fun j c d h1 h2=>by rw [h1] at h2;cases h2;exact .refl _⟩
 | agg xs ys hl h=>exact ⟨hl,h⟩
 | nil m m' h0 =>
  refine ⟨rfl,fun j c d h1 h2=>?_⟩
  cases j with
  | zero=>simp [PV.cells] at h1 h2;subst h1 h2;exact .nil m m' h0
  | succ j=>simp [PV.cells] at h1
 | list m xs ys hl h =>
  refine ⟨rfl,fun j c d h1 h2=>?_⟩
  cases j with
  | zero=>simp [PV.cells] at h1 h2;subst h1 h2;exact .list m xs ys hl h
  | succ j=>simp [PV.cells] at h1
 | tup xs ys hl h =>
  refine ⟨rfl,fun j c d h1 h2=>?_⟩
  cases j with
  | zero=>simp [PV.cells] at h1 h2;subst h1 h2;exact .tup xs ys hl h
  | succ j=>simp [PV.cells] at h1
 | map ks vs ks' vs' hl hp =>
  refine ⟨rfl,fun j c d h1 h2=>?_⟩
  cases j with
  | zero=>simp [PV.cells] at h1 h2;subst h1 h2;exact .map ks vs ks' vs' hl hp
  | succ j=>simp [PV.cells] at h1
theorem RV.le {S:Addr→Prop} {w:World} {p:PV} {v:Value} (h:RV S w p v):∀{q:PV},LeP p q→RV S w q v:=by
 induction h with
 | any v=>intro q hq;cases hq;exact .any v
 | int k n=>intro q hq;cases hq;exact .int k n
 | bool b=>intro q hq;cases hq;exact .bool b
 | str s=>intro q hq;cases hq;exact .str s
 | agg cs vs hl h ih =>
  intro q hq
  cases hq with
  | refl=>exact .agg cs vs hl h
  | agg xs ys hl' h' =>
   refine .agg ys vs (by omega) fun i c v hc hv=>?_
   obtain ⟨x,hx⟩:=get_other hl' hc
   exact ih i x v hx hv (h' i x c hx hc)
 | tup cs vs hl h ih =>
  intro q hq
  cases hq with
  | refl=>exact .tup cs vs hl h
  | tup xs ys hl' h' =>
   refine .tup ys vs (by omega) fun i c v hc hv=>?_
   obtain ⟨x,hx⟩:=get_other hl' hc
   exact ih i x v hx hv (h' i x c hx hc)
 | list m xs a ad cap g ha hcap hmax hm hc hr hz ih =>
  intro q hq
  cases hq with
  | refl=>exact .list m xs a ad cap g ha hcap hmax hm hc hr hz
  | nil m m' h0=>exact RV.list_nil m' a cap hmax (fun e=>hz (h0 e))
  | list m xs ys hl' h' =>
   rw [hl']
   have hcell:∀(i:Nat) (y:PV) (j:Nat) (d:PV),ys[i]?=some y→y.cells[j]?=some d→∃x c,xs[i]?=some x∧x.cells[j]?=some c∧LeP c d:=fun i y j d hy hd=>by
    obtain ⟨x,hx⟩:=get_other hl' hy
    obtain ⟨k1,k2⟩:=(h' i x y hx hy).cells
    obtain ⟨c,hc⟩:=get_other k1 hd
    exact ⟨x,c,hx,hc,k2 j c d hc hd⟩
   refine .list m ys a ad cap g (fun hne=>ha (fun e=>hne ?_)) (by omega) hmax (fun i y hy=>?_) (fun i y j d hy hd=>?_) (fun i y j d hy hd=>?_) hz
   ·subst e;exact List.eq_nil_of_length_eq_zero hl'.symm
   ·obtain ⟨x,hx⟩:=get_other hl' hy
    rw [←(h' i x y hx hy).cells.1];exact hm i x hx
   ·obtain ⟨x,c,h1,h2,_⟩:=hcell i y j d hy hd
    exact hc i x j c h1 h2
   ·obtain ⟨x,c,h1,h2,h3⟩:=hcell i y j d hy hd
    exact ih i x j c h1 h2 h3
 | ptr cs off ad g hc hr ih=>intro q hq;cases hq;exact .ptr cs off ad g hc hr
 | fn f caps vs hl h ih=>intro q hq;cases hq;exact .fn f caps vs hl h
 | yld l=>intro q hq;cases hq;exact .yld l
 | ref v h=>intro q hq;cases hq;exact .ref v h
 | mapNil =>
  intro q hq
  cases hq with
  | refl=>exact .mapNil
  | map ks vs ks' vs' hl hp =>
   have h1:=hp.length_eq
   simp [List.length_zip] at h1
   cases ks' with
   | nil=>cases vs' with
    | nil=>exact .mapNil
    | cons _ _=>cases hl
   | cons _ _=>cases vs' with
    | nil=>cases hl
    | cons _ _=>simp at h1
 | map ks vs es b arr clock hp hl hS hb he hv ih =>
  intro q hq
  cases hq with
  | refl=>exact .map ks vs es b arr clock hp hl hS hb he hv
  | map ks vs ks' vs' hl' hp'=>exact .map ks' vs' es b arr clock (hp.trans hp') hl' hS hb he hv
inductive LeL:List PV→List PV→Prop
 | nil:LeL [] []
 | cons {x y:PV} {xs ys:List PV} (h:LeP x y) (hs:LeL xs ys):LeL (x::xs) (y::ys)
theorem LeL.refl:∀(l:List PV),LeL l l
 | []=>.nil
 | x::r=>.cons (.refl x) (LeL.refl r)
theorem RVs.le {S:Addr→Prop} {w:World}:∀{ps qs:List PV} {vs:List Value},LeL ps qs→RVs S w ps vs→RVs S w qs vs
 | _,_,vs,.nil,h=>h
 | _,_,[],.cons _ _,h=>by have:=h.1;simp at this
 | _,_,v::vs,.cons hp hs,h=>RVs.cons (RV.le (h.2 0 _ v rfl rfl) hp) (RVs.le hs ⟨by have:=h.1;simpa using this,fun i p u h1 h2=>h.2 (i+1) p u (by simpa using h1) (by simpa using h2)⟩)
theorem CallsPV.le {P:Program} {f:FuncId} {args args':List PV} {p p':PV} (h:CallsPV P f args' p) (ha:LeL args args') (hp:LeP p p'):CallsPV P f args p':=by
 refine ⟨h.1,fun S w vs hS hv=>(h.2 S w vs hS (hv.le ha)).mono ?_⟩
 rintro e w' ⟨v,he,hb,hr⟩
 exact ⟨v,he,hb,hr.le hp⟩
def lePb:Nat→PV→PV→Bool
 | 0,_,_=>false
 | n+1,.list m xs,.list m' ys=>(xs.isEmpty&&ys.isEmpty&&(decide (m'≠0) || decide (m=0))) || (decide (m=m')&&decide (xs.length=ys.length)&&(xs.zip ys).all fun p=>lePb n p.1 p.2)
 | n+1,.agg xs,.agg ys=>decide (xs.length=ys.length)&&(xs.zip ys).all fun p=>lePb n p.1 p.2
 | n+1,.tup xs,.tup ys=>decide (xs.length=ys.length)&&(xs.zip ys).all fun p=>lePb n p.1 p.2
 | _+1,.int k a,.int k' b=>decide (k=k')&&decide (a=b)
 | _+1,.bool a,.bool b=>decide (a=b)
 | _+1,.str a,.str b=>decide (a=b)
 | _+1,_,_=>false
theorem lePb_ok:∀(n:Nat) (p q:PV),lePb n p q=true→LeP p q:=by
 intro n
 induction n with
 | zero=>intro p q h;cases h
 | succ n ih =>
  intro p q h
  have hz:∀{xs ys:List PV},((xs.zip ys).all fun p=>lePb n p.1 p.2)=true→∀(i:Nat) (x y:PV),xs[i]?=some x→ys[i]?=some y→LeP x y:=by
   intro xs ys h i x y hx hy
   refine ih x y (List.all_eq_true.1 h (x,y) (List.mem_of_getElem? (i:=i) ?_))
   rw [List.getElem?_zip_eq_some];exact ⟨hx,hy⟩
  unfold lePb at h
  split at h
  ·cases h
  ·rename_i n' m xs m' ys he
   cases he
   rw [Bool.or_eq_true] at h
   rcases h with h | h
   ·simp only [Bool.and_eq_true,List.isEmpty_iff,Bool.or_eq_true,decide_eq_true_eq] at h
    obtain ⟨⟨rfl,rfl⟩,h0⟩:=h
    exact .nil _ _ (fun e=>by rcases h0 with h0 | h0;exact absurd e h0;exact h0)
   ·simp only [Bool.and_eq_true,decide_eq_true_eq] at h
    obtain ⟨⟨rfl,h2⟩,h3⟩:=h
    exact .list _ _ _ h2 (hz h3)
  ·rename_i n' xs ys he
   cases he
   simp only [Bool.and_eq_true,decide_eq_true_eq] at h;exact .agg _ _ h.1 (hz h.2)
  ·rename_i n' xs ys he
   cases he
   simp only [Bool.and_eq_true,decide_eq_true_eq] at h;exact .tup _ _ h.1 (hz h.2)
  ·simp only [Bool.and_eq_true,decide_eq_true_eq] at h;obtain ⟨rfl,rfl⟩:=h;exact .refl _
  ·simp only [decide_eq_true_eq] at h;subst h;exact .refl _
  ·simp only [decide_eq_true_eq] at h;subst h;exact .refl _
  ·cases h
end Go.Abs
namespace Go.Abs
def rangeL (lo hi:Int):List Int:=(List.range (hi - lo+1).toNat).map fun (i:Nat)=>lo+(i:Int)
theorem mem_rangeL {lo hi x:Int}:x∈rangeL lo hi↔lo≤x∧x≤hi:=by
 unfold rangeL
 simp only [List.mem_map,List.mem_range]
 constructor
 ·rintro ⟨i,h,rfl⟩;omega
 ·rintro ⟨h1,h2⟩;exact ⟨(x - lo).toNat,by omega,by omega⟩
theorem rangeL_len (lo hi:Int):(rangeL lo hi).length=(hi - lo+1).toNat:=by simp [rangeL]
theorem rangeL_get {lo hi:Int} {i:Nat} (h:lo+i≤hi):(rangeL lo hi)[i]?=some (lo+i):=by
 unfold rangeL
 rw [List.getElem?_map,List.getElem?_range (by omega)];rfl
theorem rangeL_take {lo hi x:Int} (h0:lo≤x) (h1:x≤hi):(rangeL lo hi).take (x+1 - lo).toNat=(rangeL lo hi).take (x - lo).toNat++[x]:=by
 rw [show (x+1 - lo).toNat=(x - lo).toNat+1 by omega,List.take_add_one,rangeL_get (by omega)]
 simp;omega
def extL:Int→List Bound→List (List Int)
 | _,[]=>[[]]
 | last,b::r=>(rangeL (last+b.Lo) (last+b.Hi)).flatMap fun t=>(extL t r).map (t::·)
def fliesT:Int→List Bound→List Int→Prop
 | _,[],ts=>ts=[]
 | _,_::_,[]=>False
 | last,b::r,t::ts=>(last+b.Lo≤t∧t≤last+b.Hi)∧fliesT t r ts
theorem mem_extL:∀{bs:List Bound} {last:Int} {ts:List Int},ts∈extL last bs↔fliesT last bs ts
 | [],last,ts=>by simp [extL,fliesT]
 | b::r,last,ts=>by
  simp only [extL,List.mem_flatMap,List.mem_map,mem_rangeL]
  cases ts with
  | nil=>simp [fliesT]
  | cons t ts =>
   simp only [fliesT,List.cons.injEq]
   constructor
   ·rintro ⟨t',h,ts',h2,rfl,rfl⟩;exact ⟨h,mem_extL.1 h2⟩
   ·rintro ⟨h1,h2⟩;exact ⟨t,h1,ts,mem_extL.2 h2,rfl,rfl⟩
def widthB (b:Bound):Nat:=(b.Hi - b.Lo+1).toNat
def prodB:List Bound→Nat
 | []=>1
 | b::r=>widthB b*prodB r
theorem extL_len:∀(bs:List Bound) (last:Int),(extL last bs).length=prodB bs
 | [],_=>rfl
 | b::r,last=>by
  simp only [extL,List.length_flatMap,List.length_map,prodB]
  rw [show (fun t=>(extL t r).length)=fun _=>prodB r from funext fun t=>extL_len r t]
  rw [List.map_const',List.sum_replicate_nat,rangeL_len]
  congr 1
  unfold widthB
  congr 1;omega
theorem fliesT_get:∀{bs:List Bound} {last:Int} {ts:List Int},fliesT last bs ts↔ts.length=bs.length∧∀(k:Nat) (b:Bound) (t p:Int),bs[k]?=some b→ts[k]?=some t→(last::ts)[k]?=some p→p+b.Lo≤t∧t≤p+b.Hi
 | [],last,ts=>by
  simp only [fliesT,List.length_nil,List.length_eq_zero_iff]
  exact ⟨fun h=>⟨h,fun k b t p h1=>by simp at h1⟩,fun h=>h.1⟩
 | c::r,last,[]=>by simp [fliesT]
 | c::r,last,t0::ts=>by
  simp only [fliesT]
  rw [fliesT_get (bs:=r)]
  constructor
  ·rintro ⟨h1,h2,h3⟩
   refine ⟨by simp [h2],fun k b t p hb ht hp=>?_⟩
   cases k with
   | zero=>simp at hb ht hp;subst hb ht hp;exact h1
   | succ k=>exact h3 k b t p (by simpa using hb) (by simpa using ht) (by simpa using hp)
  ·rintro ⟨h1,h2⟩
   refine ⟨h2 0 c t0 last rfl rfl rfl,by simpa using h1,fun k b t p hb ht hp=>h2 (k+1) b t p (by simpa using hb) (by simpa using ht) (by simpa using hp)⟩
end Go.Abs
namespace Go.Abs
open Go.RowKit Go.Proofs
theorem air_in (n lo hi:Int):CallsPV Tryz.prog 108 [.int .i64 n,.int .i64 lo,.int .i64 hi] (.bool (inB n lo hi)):=by
 refine callsPV_by (clo:=fun _=>false) (rows:=false) env_ok Tryz.func108 rfl (enters_of Tryz.func108 (by kernel_rfl) rfl) (fun A q P Y hr hA hq=>?_)
 conv=>cbv
 split<;>(rename_i h;conv=>cbv)<;>(subst hA;subst hq;simp_all [stdOps,inB];try omega)
theorem hours_Check1 (s:Span):CallsPV Tryz.prog 175 [encSpan s] (.bool (spanBad s)):=by
 refine callsPV_by (clo:=fun _=>false) (rows:=false) env_ok Tryz.func175 rfl (enters_of Tryz.func175 (by kernel_rfl) rfl) (fun A q P Y hr hA hq=>?_)
 obtain ⟨a,b⟩:=s
 conv=>cbv
 split<;>(rename_i h;conv=>cbv)
 ·subst hA;subst hq;simp_all [stdOps,spanBad]
 ·split<;>(rename_i h2;conv=>cbv)<;>(subst hA;subst hq;simp_all [stdOps,spanBad];try omega)
theorem hours_Check {xs:List PV} (l:List Span) (hx:xs=encSpans l):CallsPV Tryz.prog 113 [.list 2 xs] (.int .i64 (if hoursOk l then 0 else 50)):=by
 refine callsPV_by (clo:=fun _=>false) (rows:=false) env_ok Tryz.func113 rfl (enters_of Tryz.func113 (by kernel_rfl) rfl) (fun A q P Y hr hA hq=>?_)
 conv=>cbv
 refine call_intro hA (containsFunc_Span spanBad l hx fun x _=>hours_Check1 x) ?_
 obtain ⟨r,hr⟩:∃r,r=l.any spanBad:=⟨_,rfl⟩
 rw [←hr]
 conv=>cbv
 split<;>(conv=>cbv)<;>(rw [←hq];simp [hoursOk,←hr])
theorem withinL_drop (l:List Int) (i:Nat) (h:i+2<l.length):withinL (l.drop i)=(!(decide (l[i]<l[i+1]) || decide (l[i+2]<l[i]))&&withinL (l.drop (i+3))):=by
 rw [List.drop_eq_getElem_cons (by omega),List.drop_eq_getElem_cons (by omega),List.drop_eq_getElem_cons (by omega),withinL]
theorem withinL_short (l:List Int) (h:l.length≤2):withinL l=true:=by
 match l,h with
 | [],_=>rfl
 | [_],_=>rfl
 | [_,_],_=>rfl
theorem speed_within {xs:List PV} (l:List Int) (hx:xs=encInts l) (hl:l.length≤1000):CallsPV Tryz.prog 235 [.list 1 xs] (.bool (withinL l)):=by
 refine callsPV_by (clo:=fun _=>false) (rows:=false) env_ok Tryz.func235 rfl (enters_of Tryz.func235 (by kernel_rfl) rfl) (fun A q P Y hr hA hq=>?_)
 have hll:xs.length=l.length:=by rw [hx];simp [encInts]
 conv=>cbv
 refine loop_set hA (fun (i:Int) s=>s.put (some 3) (.val (.int .i64 i))) (fun i=>0≤i∧i≤l.length+3∧withinL l=withinL (l.drop i.toNat)) (fun i=>(l.length+3 - i).toNat) 0 ?_ ?_ ?_
 ·conv=>cbv
  exact wk_sl (by simp [leL,leS])
 ·exact ⟨Int.le_refl _,by omega,by simp⟩
 ·intro R i hi hR
  have r2:inI64 (i+2):=by unfold inI64;omega
  have r1:inI64 (i+1):=by unfold inI64;omega
  have r3:inI64 (i+3):=by unfold inI64;omega
  conv=>cbv
  refine ⟨by subst hA;exact r2,?_⟩
  split
  ·rename_i h1
   have h1':i+2<l.length:=by subst hA;rw [←hll];simpa [stdOps] using h1
   have hn:i.toNat+2<l.length:=by omega
   have hw:=withinL_drop l i.toNat hn
   have e1:(i+1).toNat=i.toNat+1:=by omega
   have e2:(i+2).toNat=i.toNat+2:=by omega
   have e3:(i+3).toNat=i.toNat+3:=by omega
   conv=>cbv
   refine ⟨draw_intro hA (by kernel_rfl),?_⟩
   refine idx_Int hA hx hi.1 (by omega) (fun x hxx=>?_)
   conv=>cbv
   refine ⟨by subst hA;exact r1,?_⟩
   refine idx_Int hA hx (n:=A.iAdd i 1) (by subst hA;show 0≤i+1;omega) (by subst hA;show i+1<l.length;omega) (fun y hy=>?_)
   have hxv:l[i.toNat]=x:=(List.getElem?_eq_some_iff.1 hxx).2
   have hyv:l[i.toNat+1]=y:=by subst hA;have:l[(i+1).toNat]?=some y:=hy;rw [e1] at this;exact (List.getElem?_eq_some_iff.1 this).2
   conv=>cbv
   have fin:∀b:Bool,withinL l=(b&&withinL (l.drop (i.toNat+3)))→b=true→(0≤i+3∧i+3≤l.length+3∧withinL l=withinL (l.drop (i+3).toNat))∧(l.length+3 - (i+3)).toNat<(l.length+3 - i).toNat:=by
    intro b hb hbt
    subst hbt
    exact ⟨⟨by omega,by omega,by rw [e3,hb];simp⟩,by omega⟩
   split
   ·rename_i h2
    conv=>cbv
    rw [←hq,hi.2.2,hw,hxv,hyv]
    have h2':x<y:=by subst hA;simpa [stdOps] using h2
    simp [h2']
   ·rename_i h2
    have h2':¬x<y:=by subst hA;simpa [stdOps] using h2
    conv=>cbv
    refine idx_Int hA hx hi.1 (by omega) (fun x' hx'=>?_)
    obtain rfl:x=x':=by rw [hxx] at hx';exact Option.some.inj hx'
    conv=>cbv
    refine ⟨by subst hA;exact r2,?_⟩
    refine idx_Int hA hx (n:=A.iAdd i 2) (by subst hA;show 0≤i+2;omega) (by subst hA;show i+2<l.length;omega) (fun z hz=>?_)
    have hzv:l[i.toNat+2]=z:=by subst hA;have:l[(i+2).toNat]?=some z:=hz;rw [e2] at this;exact (List.getElem?_eq_some_iff.1 this).2
    conv=>cbv
    split
    ·rename_i h3
     conv=>cbv
     rw [←hq,hi.2.2,hw,hxv,hyv,hzv]
     have h3':z<x:=by subst hA;simpa [stdOps] using h3
     simp [h3']
    ·rename_i h3
     have h3':¬z<x:=by subst hA;simpa [stdOps] using h3
     conv=>cbv
     refine ⟨by subst hA;exact r3,hR (A.iAdd i 3) _ (by (conv=>cbv);exact wk_sl (by simp [leL,leS])) ?_ ?_⟩
     ·subst hA
      exact (fin _ (hi.2.2.trans hw) (by rw [hxv,hyv,hzv];simp [h2',h3'])).1
     ·subst hA
      exact (fin _ (hi.2.2.trans hw) (by rw [hxv,hyv,hzv];simp [h2',h3'])).2
  ·rename_i h1
   have h1':¬i+2<l.length:=by subst hA;rw [←hll];simpa [stdOps] using h1
   conv=>cbv
   rw [←hq,hi.2.2,withinL_short]
   simp;omega
end Go.Abs
namespace Go.Abs
open Go.RowKit Go.Proofs
theorem kind_valid1 {xs:List PV} (l:List Span) (hx:xs=encSpans l):CallsPV Tryz.prog 237 [.list 2 xs] (.bool (!hoursOk l)):=by
 refine callsPV_by (clo:=fun _=>false) (rows:=false) env_ok Tryz.func237 rfl (enters_of Tryz.func237 (by kernel_rfl) rfl) (fun A q P Y hr hA hq=>?_)
 conv=>cbv
 refine callI hA (hours_Check l hx) rfl (fun r hr=>?_)
 conv=>cbv
 subst hA;subst hq;subst hr
 cases hoursOk l<;>simp [stdOps]
theorem kind_valid (k:Kind) (hk:k.Curfews.length≤9223372036854775807):CallsPV Tryz.prog 178 [encKind k] (.bool (kindOk k)):=by
 refine callsPV_by (clo:=fun _=>false) (rows:=false) env_ok Tryz.func178 rfl (enters_of Tryz.func178 (by kernel_rfl) rfl) (fun A q P Y hr hA hq=>?_)
 obtain ⟨a,b,c,d,e,cu⟩:=k
 simp only [encKind,kindOk] at hq ⊢
 obtain ⟨cs,hcs⟩:∃cs,cs=encSpanLs cu:=⟨_,rfl⟩
 have hcl:cs.length=cu.length:=by rw [hcs];simp [encSpanLs]
 rw [←hcs]
 conv=>cbv
 refine callB hA (speed_within [a,1,64,b,a,64,c,1,8,d,1,8,e,0,60,A.lLen cs,0,16] rfl (by simp)) rfl (fun r hr=>?_)
 have hr':r=withinL [a,1,64,b,a,64,c,1,8,d,1,8,e,0,60,(cu.length:Int),0,16]:=by rw [hr];subst hA;simp [stdOps,hcl]
 rw [←hr'] at hq
 conv=>cbv
 split
 ·rename_i h1
  have h1':r=false:=by subst hA;simpa [stdOps] using h1
  conv=>cbv
  rw [←hq,h1'];rfl
 ·rename_i h1
  have h1':r=true:=by subst hA;simpa [stdOps] using h1
  conv=>cbv
  refine ⟨by subst hA;simp [stdOps],?_⟩
  split
  ·rename_i h2
   have h2':¬e.tmod 10=0:=by subst hA;simpa [stdOps] using h2
   conv=>cbv
   rw [←hq,h1'];simp [h2']
  ·rename_i h2
   have h2':e.tmod 10=0:=by subst hA;simpa [stdOps] using h2
   conv=>cbv
   refine callB hA (containsFunc_ListSpan (fun l=>!hoursOk l) cu hcs fun x _=>kind_valid1 x rfl) rfl (fun r2 hr2=>?_)
   conv=>cbv
   rw [←hq,h1',←hr2]
   subst hA
   simp [stdOps,h2']
theorem speed_Check (k:Kind) (hk:k.Curfews.length≤9223372036854775807):CallsPV Tryz.prog 118 [encKind k] (.int .i64 (if kindOk k then 0 else 120)):=by
 refine callsPV_by (clo:=fun _=>false) (rows:=false) env_ok Tryz.func118 rfl (enters_of Tryz.func118 (by kernel_rfl) rfl) (fun A q P Y hr hA hq=>?_)
 have hv:=kind_valid k hk
 simp only [encKind] at hv ⊢
 generalize kindOk k=kk at hv hq
 generalize encSpanLs k.Curfews=cs at hv ⊢
 conv=>cbv
 refine callB hA hv rfl (fun r hr=>?_)
 conv=>cbv
 split
 ·rename_i h1
  have h1':r=false:=by subst hA;simpa [stdOps] using h1
  conv=>cbv
  rw [←hq,←hr,h1'];rfl
 ·rename_i h1
  have h1':r=true:=by subst hA;simpa [stdOps] using h1
  conv=>cbv
  rw [←hq,←hr,h1'];rfl
theorem air_sector (s:Sector):CallsPV Tryz.prog 107 [encSector s] (.bool (sectorOk s)):=by
 refine callsPV_by (clo:=fun _=>false) (rows:=false) env_ok Tryz.func107 rfl (enters_of Tryz.func107 (by kernel_rfl) rfl) (fun A q P Y hr hA hq=>?_)
 obtain ⟨nm,nms,vs,a,b⟩:=s
 simp only [encSector,sectorOk] at hq ⊢
 generalize encStrs nms=u1
 generalize encInts vs=u2
 conv=>cbv
 refine callB hA (air_in a 0 64) rfl (fun r hr=>?_)
 conv=>cbv
 split
 ·conv=>cbv
  refine callB hA (air_in b 0 a) rfl (fun r2 hr2=>?_)
  conv=>cbv
  rw [←hq,←hr,←hr2];rfl
 ·conv=>cbv
  rw [←hq,←hr];rfl
theorem air_mode1 (n:Int):CallsPV Tryz.prog 111 [encInt n] (.bool (inB n 0 64)):=by
 refine callsPV_by (clo:=fun _=>false) (rows:=false) env_ok Tryz.func111 rfl (enters_of Tryz.func111 (by kernel_rfl) rfl) (fun A q P Y hr hA hq=>?_)
 conv=>cbv
 refine callB hA (air_in n 0 64) rfl (fun r hr=>?_)
 conv=>cbv
 rw [←hq,hr]
theorem air_mode {xs:List PV} (l:List Int) (hx:xs=encInts l):CallsPV Tryz.prog 109 [.list 1 xs] (.bool (modeOk l)):=by
 refine callsPV_by (clo:=fun _=>false) (rows:=false) env_ok Tryz.func109 rfl (enters_of Tryz.func109 (by kernel_rfl) rfl) (fun A q P Y hr hA hq=>?_)
 have hll:xs.length=l.length:=by rw [hx];simp [encInts]
 unfold modeOk at hq
 conv=>cbv
 refine callB hA (air_in (A.lLen xs) 1 16) rfl (fun r hr=>?_)
 have hr':r=inB l.length 1 16:=by rw [hr];subst hA;simp [stdOps,hll]
 rw [←hr'] at hq
 conv=>cbv
 split
 ·conv=>cbv
  refine callB hA (all_Int (fun n=>inB n 0 64) l hx fun x _=>air_mode1 x) rfl (fun r2 hr2=>?_)
  conv=>cbv
  rw [←hq,←hr2];rfl
 ·conv=>cbv
  rw [←hq];rfl
theorem air_leg (nv:Int) (hnv:1≤nv∧nv≤64) (c1 c2 c3 c4 c5:PV) (x:Leg):CallsPV Tryz.prog 112 [encLeg x,.ptr [.int .i64 nv,c1,c2,c3,c4,c5] 0] (.bool (legOk nv x)):=by
 refine callsPV_by (clo:=fun _=>false) (rows:=false) env_ok Tryz.func112 rfl (enters_of Tryz.func112 (by kernel_rfl) rfl) (fun A q P Y hr hA hq=>?_)
 obtain ⟨a,b,c,m⟩:=x
 simp only [encLeg,legOk] at hq ⊢
 obtain ⟨ms,hms⟩:∃ms,ms=encSpans m:=⟨_,rfl⟩
 have hml:ms.length=m.length:=by rw [hms];simp [encSpans]
 rw [←hms]
 conv=>cbv
 refine callB hA (air_in a 0 127) rfl (fun r1 hr1=>?_)
 rw [←hr1] at hq
 conv=>cbv
 split
 ·conv=>cbv
  refine ⟨by subst hA;show inI64 (nv - 1);unfold inI64;omega,?_⟩
  refine callB hA (air_in b 0 (A.iSub nv 1)) rfl (fun r2 hr2=>?_)
  have hr2':r2=inB b 0 (nv - 1):=by rw [hr2];subst hA;rfl
  rw [←hr2'] at hq
  conv=>cbv
  split
  ·conv=>cbv
   refine callB hA (air_in c 1 4096) rfl (fun r3 hr3=>?_)
   rw [←hr3] at hq
   conv=>cbv
   split
   ·conv=>cbv
    split
    ·rename_i h4
     have h4':0<m.length:=by subst hA;rw [←hml];simpa [stdOps] using h4
     conv=>cbv
     refine callI hA (hours_Check m hms) rfl (fun r5 hr5=>?_)
     conv=>cbv
     rw [←hq]
     subst hA;subst hr5
     cases hoursOk m<;>simp [stdOps,h4']
    ·rename_i h4
     have h4':¬0<m.length:=by subst hA;rw [←hml];simpa [stdOps] using h4
     conv=>cbv
     rw [←hq];simp [h4']
   ·conv=>cbv
    rw [←hq];simp
  ·conv=>cbv
   rw [←hq];simp
 ·conv=>cbv
  rw [←hq];simp
theorem air_airport (ms:List PV) (hms:ms.length≤1000) (n:Int) (c0 c1 c2 c3 c5:PV):CallsPV Tryz.prog 114 [.int .i64 n,.ptr [c0,c1,c2,c3,.list 1 ms,c5] 0] (.bool (inB n 0 (ms.length - 1))):=by
 refine callsPV_by (clo:=fun _=>false) (rows:=false) env_ok Tryz.func114 rfl (enters_of Tryz.func114 (by kernel_rfl) rfl) (fun A q P Y hr hA hq=>?_)
 conv=>cbv
 refine ⟨by subst hA;show inI64 (ms.length - 1);unfold inI64;omega,?_⟩
 refine callB hA (air_in n 0 (A.iSub (A.lLen ms) 1)) rfl (fun r hr=>?_)
 conv=>cbv
 rw [←hq,hr];subst hA;rfl
theorem air_way (nv:Int) (hnv:1≤nv∧nv≤64) (ms:List PV) (hms:ms.length≤1000) (c1 c2 c3 c5:PV) (w:Way):CallsPV Tryz.prog 115
  [encWay w,.ptr [.fn 114 [.ptr [.int .i64 nv,c1,c2,c3,.list 1 ms,c5] 0]] 0,.ptr [.fn 112 [.ptr [.int .i64 nv,c1,c2,c3,.list 1 ms,c5] 0]] 0] (.bool (wayOk nv ms.length w)):=by
 refine callsPV_by (clo:=fun _=>false) (rows:=false) env_ok Tryz.func115 rfl (enters_of Tryz.func115 (by kernel_rfl) rfl) (fun A q P Y hr hA hq=>?_)
 obtain ⟨a,b,lg⟩:=w
 simp only [encWay,wayOk] at hq ⊢
 obtain ⟨ls,hls⟩:∃ls,ls=encLegs lg:=⟨_,rfl⟩
 have hll:ls.length=lg.length:=by rw [hls];simp [encLegs]
 rw [←hls]
 conv=>cbv
 refine callB hA (air_airport ms hms a _ c1 c2 c3 c5) rfl (fun r1 hr1=>?_)
 rw [←hr1] at hq
 conv=>cbv
 split
 ·conv=>cbv
  refine callB hA (air_airport ms hms b _ c1 c2 c3 c5) rfl (fun r2 hr2=>?_)
  rw [←hr2] at hq
  conv=>cbv
  split
  ·conv=>cbv
   refine callB hA (air_in (A.lLen ls) 1 8) rfl (fun r3 hr3=>?_)
   have hr3':r3=inB lg.length 1 8:=by rw [hr3];subst hA;simp [stdOps,hll]
   rw [←hr3'] at hq
   conv=>cbv
   split
   ·conv=>cbv
    refine callB hA (all_Leg (legOk nv) lg hls fun x _=>air_leg nv hnv c1 c2 c3 (.list 1 ms) c5 x) rfl (fun r4 hr4=>?_)
    conv=>cbv
    rw [←hq,hr4];rfl
   ·conv=>cbv
    rw [←hq];simp
  ·conv=>cbv
   rw [←hq];simp
 ·conv=>cbv
  rw [←hq];simp
theorem air_kind (ms:List PV) (hms:ms.length≤1000) (c0 c1 c2 c3 c5:PV) (k:Kind) (hk:k.Curfews.length≤9223372036854775807):CallsPV Tryz.prog 117 [encKind k,.ptr [c0,c1,c2,c3,.list 1 ms,c5] 0] (.bool (kindOk k&&decide (k.Curfews.length=ms.length))):=by
 refine callsPV_by (clo:=fun _=>false) (rows:=false) env_ok Tryz.func117 rfl (enters_of Tryz.func117 (by kernel_rfl) rfl) (fun A q P Y hr hA hq=>?_)
 have hv:=speed_Check k hk
 have hcl:(encSpanLs k.Curfews).length=k.Curfews.length:=by simp [encSpanLs]
 simp only [encKind] at hv ⊢
 generalize kindOk k=kk at hv hq
 generalize encSpanLs k.Curfews=cs at hv hcl ⊢
 conv=>cbv
 refine callI hA hv rfl (fun r hr=>?_)
 conv=>cbv
 split
 ·rename_i h1
  have h1':kk=true:=by subst hA;subst hr;cases kk<;>simp_all [stdOps]
  conv=>cbv
  rw [←hq,h1',←hcl];subst hA;simp [stdOps];omega
 ·rename_i h1
  have h1':kk=false:=by subst hA;subst hr;cases kk<;>simp_all [stdOps]
  conv=>cbv
  rw [←hq,h1'];rfl
end Go.Abs
namespace Go.Abs
open Go.RowKit Go.Proofs
structure TCut where
 Airport:Bool
 Index:Int
 Minutes:Span
 Less:Int
deriving DecidableEq
structure TNode where
 Parent:Int
 From:Int
 Cuts:List TCut
deriving DecidableEq
def encCut (c:TCut):PV:=.agg [.bool c.Airport,.int .i64 c.Index,.int .i64 c.Minutes.From,.int .i64 c.Minutes.To,.int .i64 c.Less]
def encCuts (l:List TCut):List PV:=l.map encCut
def encNode (n:TNode):PV:=.agg [.int .i64 n.Parent,.int .i64 n.From,.list 5 (encCuts n.Cuts)]
def encNodes (l:List TNode):List PV:=l.map encNode
theorem encNode_eq (n:TNode) {cs:List PV} (h:cs=encCuts n.Cuts):encNode n=.agg [.int .i64 n.Parent,.int .i64 n.From,.list 5 cs]:=by rw [h];rfl
section
variable {A:Ops} {E:Env}
theorem idx_Cut (hA:A=stdOps E) {l:List TCut} {xs:List PV} (hx:xs=encCuts l) {n:Int} {K:List PV→Prop} (h0:0≤n) (h1:n<l.length)
  (hk:∀x,l[n.toNat]?=some x→K [.bool x.Airport,.int .i64 x.Index,.int .i64 x.Minutes.From,.int .i64 x.Minutes.To,.int .i64 x.Less]):A.idx xs n K :=
 idx_var hA (l:=l) (enc:=encCut) hx.symm h0 h1 fun x h=>hk x h
theorem idx_Node (hA:A=stdOps E) {l:List TNode} {xs:List PV} (hx:xs=encNodes l) {n:Int} {K:List PV→Prop} (h0:0≤n) (h1:n<l.length)
  (hk:∀x v,l[n.toNat]?=some x→v=encCuts x.Cuts→K [.int .i64 x.Parent,.int .i64 x.From,.list 5 v]):A.idx xs n K :=
 idx_var hA (l:=l) (enc:=encNode) hx.symm h0 h1 fun x h=>hk x _ h rfl
end
def tcutOk (from_:Int) (c:TCut):Bool :=
 inB c.Index 0 (if c.Airport then 15 else 63)&&inB c.Less 0 64&&decide (from_≤c.Minutes.From)&&decide (c.Minutes.From<c.Minutes.To)&&decide (c.Minutes.To≤1440)
def cutsOk (n:TNode):Bool:=n.Cuts.all (tcutOk n.From)&&decide (n.Cuts.length≤64)
def fitsB (l:List TNode) (i:Nat) (n:TNode):Bool :=
 inB n.Parent 0 ((i:Int) - 1)&&inB n.From ((((l[n.Parent.toNat]?).map (·.From)).getD 0)+1) 1439&&(List.range i).all fun k=>match l[k]? with | some m=>decide (k=0) || decide (m.Parent≠n.Parent) || decide (m.From=n.From) | none=>true
def nodeB (l:List TNode) (i:Nat) (n:TNode):Bool:=cutsOk n&&(decide (i=0) || fitsB l i n)
def treeB (l:List TNode):Bool :=
 inB l.length 1 32&&(match l with | n::_=>decide (n.Parent=-1)&&decide (n.From=0) | []=>false)&&(List.range l.length).all fun i=>match l[i]? with | some n=>nodeB l i n | none=>true
def treeE (l:List TNode):Int:=if treeB l then 0 else 180
def leafB (l:List TNode) (n:Int):Bool:=inB n 0 ((l.length:Int) - 1)&&!l.any fun x=>decide (x.Parent=n)
def leavesL (l:List TNode):List Int:=((List.range l.length).map fun i:Nat=>(i:Int)).filter (leafB l)
def wayL (l:List TNode):Nat→Int→List Int
 | 0,_=>[]
 | k+1,n=>if n<0 then [] else n::(match l[n.toNat]? with | some x=>wayL l k x.Parent | none=>[])
def fromOf (l:List TNode) (n:Int):Int:=((l[n.toNat]?).map (·.From)).getD 0
def atL (l:List TNode) (leaf minute:Int):Int:=((wayL l 33 leaf).find? fun n=>decide (fromOf l n≤minute)).getD 0
def atE (l:List TNode) (leaf minute:Int):Int:=if treeB l&&leafB l leaf&&decide (0≤minute) then 0 else 180
def cutHit (airport:Bool) (index minute:Int) (c:TCut):Bool:=decide (c.Airport=airport)&&decide (c.Index=index)&&decide (c.Minutes.From≤minute)&&decide (minute<c.Minutes.To)
def lessC (airport:Bool) (index minute:Int) (l:List TCut):Int:=(l.map fun c=>if cutHit airport index minute c then c.Less else 0).sum
def lessL (l:List TNode) (leaf:Int) (airport:Bool) (index minute:Int):Int:=((wayL l 33 leaf).map fun n=>match l[n.toNat]? with | some x=>lessC airport index minute x.Cuts | none=>0).sum
def lessE (l:List TNode) (leaf:Int):Int:=if treeB l&&leafB l leaf then 0 else 180
end Go.Abs
namespace Go.Abs
open Go.RowKit Go.Proofs
theorem indexFunc_TCut {g:FuncId} {caps xs:List PV} (p:TCut→Bool) (l:List TCut) (hxs:xs=encCuts l) (hg:∀x∈l,CallsPV Tryz.prog g (encCut x::caps) (.bool (p x))) :
  CallsPV Tryz.prog 231 [.list 5 xs,.fn g caps] (.int .i64 (findI p l)):=by
 refine callsPV_by (clo:=fun _=>false) (rows:=false) env_ok Tryz.func231 rfl (enters_of Tryz.func231 (by kernel_rfl) rfl) (fun A q P Y hr hA hq=>?_)
 have hlen:=(hr.mem (p:=.list 5 xs) (by simp)).len
 have hll:xs.length=l.length:=by rw [hxs];simp [encCuts]
 conv=>cbv
 refine loop_set hA (fun (i:Int) s=>s.put (some 8) (.val (.int .i64 i))) (fun i=>0≤i∧i≤l.length∧∀x∈l.take i.toNat,p x=false) (fun i=>(l.length - i).toNat) 0 ?_ ?_ ?_
 ·conv=>cbv
  exact wk_sl (by simp [leL,leS])
 ·exact ⟨Int.le_refl _,by omega,by simp⟩
 ·intro R i hi hR
  conv=>cbv
  split
  ·rename_i h1
   have h1':i<l.length:=by subst hA;rw [←hll];simpa [stdOps] using h1
   conv=>cbv
   refine idx_Cut hA hxs hi.1 h1' (fun x hx =>?_)
   conv=>cbv
   refine call_intro' hA (hg x (List.mem_of_getElem? hx)) (by simp [encCut]) ?_
   have htake:=take_snoc' hi.1 hx
   conv=>cbv
   split
   ·rename_i h2
    conv=>cbv
    rw [←hq,findI_hit hi.1 hx h2 hi.2.2]
   ·rename_i h2
    conv=>cbv
    refine ⟨by subst hA;show inI64 (i+1);unfold inI64;omega,hR (A.iAdd i 1) _ (by (conv=>cbv);exact wk_sl (by simp [leL,leS])) ?_ ?_⟩
    ·subst hA
     show 0≤i+1∧i+1≤l.length∧∀x∈l.take (i+1).toNat,p x=false
     refine ⟨by omega,by omega,fun y hy=>?_⟩
     rw [htake,List.mem_append] at hy
     rcases hy with hy | hy
     ·exact hi.2.2 y hy
     ·rw [List.mem_singleton.1 hy];exact h2
    ·subst hA
     show (l.length - (i+1)).toNat<(l.length - i).toNat
     omega
  ·rename_i h1
   have h1':¬i<l.length:=by subst hA;rw [←hll];simpa [stdOps] using h1
   conv=>cbv
   rw [←hq,findI_miss]
   intro y hy
   refine hi.2.2 y ?_
   rw [List.take_of_length_le (by omega)]
   exact hy
theorem containsFunc_TCut {g:FuncId} {caps xs:List PV} (p:TCut→Bool) (l:List TCut) (hxs:xs=encCuts l) (hg:∀x∈l,CallsPV Tryz.prog g (encCut x::caps) (.bool (p x))) :
  CallsPV Tryz.prog 166 [.list 5 xs,.fn g caps] (.bool (l.any p)):=by
 refine callsPV_by (clo:=fun _=>false) (rows:=false) env_ok Tryz.func166 rfl (enters_of Tryz.func166 (by kernel_rfl) rfl) (fun A q P Y hr hA hq=>?_)
 conv=>cbv
 refine call_intro hA (indexFunc_TCut p l hxs hg) ?_
 obtain ⟨r,hr⟩:∃r,r=findI p l:=⟨_,rfl⟩
 rw [←hr]
 conv=>cbv
 rw [←hq,←findI_any,←hr]
 subst hA
 rfl
theorem indexFunc_TNode {g:FuncId} {caps xs:List PV} (p:TNode→Bool) (l:List TNode) (hxs:xs=encNodes l) (hg:∀x∈l,CallsPV Tryz.prog g (encNode x::caps) (.bool (p x))) :
  CallsPV Tryz.prog 232 [.list 3 xs,.fn g caps] (.int .i64 (findI p l)):=by
 refine callsPV_by (clo:=fun _=>false) (rows:=false) env_ok Tryz.func232 rfl (enters_of Tryz.func232 (by kernel_rfl) rfl) (fun A q P Y hr hA hq=>?_)
 have hlen:=(hr.mem (p:=.list 3 xs) (by simp)).len
 have hll:xs.length=l.length:=by rw [hxs];simp [encNodes]
 conv=>cbv
 refine loop_set hA (fun (i:Int) s=>s.put (some 8) (.val (.int .i64 i))) (fun i=>0≤i∧i≤l.length∧∀x∈l.take i.toNat,p x=false) (fun i=>(l.length - i).toNat) 0 ?_ ?_ ?_
 ·conv=>cbv
  exact wk_sl (by simp [leL,leS])
 ·exact ⟨Int.le_refl _,by omega,by simp⟩
 ·intro R i hi hR
  conv=>cbv
  split
  ·rename_i h1
   have h1':i<l.length:=by subst hA;rw [←hll];simpa [stdOps] using h1
   conv=>cbv
   refine idx_Node hA hxs hi.1 h1' (fun x v0 hx hv0=>?_)
   conv=>cbv
   refine call_intro' hA (hg x (List.mem_of_getElem? hx)) (by simp [encNode,hv0]) ?_
   have htake:=take_snoc' hi.1 hx
   conv=>cbv
   split
   ·rename_i h2
    conv=>cbv
    rw [←hq,findI_hit hi.1 hx h2 hi.2.2]
   ·rename_i h2
    conv=>cbv
    refine ⟨by subst hA;show inI64 (i+1);unfold inI64;omega,hR (A.iAdd i 1) _ (by (conv=>cbv);exact wk_sl (by simp [leL,leS])) ?_ ?_⟩
    ·subst hA
     show 0≤i+1∧i+1≤l.length∧∀x∈l.take (i+1).toNat,p x=false
     refine ⟨by omega,by omega,fun y hy=>?_⟩
     rw [htake,List.mem_append] at hy
     rcases hy with hy | hy
     ·exact hi.2.2 y hy
     ·rw [List.mem_singleton.1 hy];exact h2
    ·subst hA
     show (l.length - (i+1)).toNat<(l.length - i).toNat
     omega
  ·rename_i h1
   have h1':¬i<l.length:=by subst hA;rw [←hll];simpa [stdOps] using h1
   conv=>cbv
   rw [←hq,findI_miss]
   intro y hy
   refine hi.2.2 y ?_
   rw [List.take_of_length_le (by omega)]
   exact hy
theorem containsFunc_TNode {g:FuncId} {caps xs:List PV} (p:TNode→Bool) (l:List TNode) (hxs:xs=encNodes l) (hg:∀x∈l,CallsPV Tryz.prog g (encNode x::caps) (.bool (p x))) :
  CallsPV Tryz.prog 168 [.list 3 xs,.fn g caps] (.bool (l.any p)):=by
 refine callsPV_by (clo:=fun _=>false) (rows:=false) env_ok Tryz.func168 rfl (enters_of Tryz.func168 (by kernel_rfl) rfl) (fun A q P Y hr hA hq=>?_)
 conv=>cbv
 refine call_intro hA (indexFunc_TNode p l hxs hg) ?_
 obtain ⟨r,hr⟩:∃r,r=findI p l:=⟨_,rfl⟩
 rw [←hr]
 conv=>cbv
 rw [←hq,←findI_any,←hr]
 subst hA
 rfl
end Go.Abs
namespace Go.Abs
open Go.RowKit Go.Proofs
def outB (lo hi n:Int):Bool:=decide (n<lo) || decide (hi<n)
theorem fl_within1 (lo hi n:Int):CallsPV Tryz.prog 125 [.int .i64 n,.ptr [.int .i64 lo] 0,.ptr [.int .i64 hi] 0] (.bool (outB lo hi n)):=by
 refine callsPV_by (clo:=fun _=>false) (rows:=false) env_ok Tryz.func125 rfl (enters_of Tryz.func125 (by kernel_rfl) rfl) (fun A q P Y hr hA hq=>?_)
 conv=>cbv
 split
 ·rename_i h
  conv=>cbv
  rw [←hq,outB,decide_eq_true (ltT hA h)];rfl
 ·rename_i h
  conv=>cbv
  rw [←hq,outB,decide_eq_false (by have:=ltF hA h;omega)]
  show PV.bool (A.iLt hi n)=_
  subst hA;rfl
theorem fl_within (lo hi:Int) (l:List Int) {xs:List PV} (hx:xs=encInts l):CallsPV Tryz.prog 50 [.int .i64 lo,.int .i64 hi,.list 1 xs] (.bool (!l.any (outB lo hi))):=by
 refine callsPV_by (clo:=fun _=>false) (rows:=false) env_ok Tryz.func50 rfl (enters_of Tryz.func50 (by kernel_rfl) rfl) (fun A q P Y hr hA hq=>?_)
 have hc:=containsFunc_Int (outB lo hi) l hx (fun x _=>fl_within1 lo hi x)
 generalize l.any (outB lo hi)=b at hc hq
 conv=>cbv
 refine call_intro hA hc ?_
 conv=>cbv
 rw [←hq]
 subst hA;rfl
theorem encFlight_eq (f:Flight) {ws:List PV} (h:ws=encInts f.Ways):encFlight f=.agg [.int .i64 f.ID,.int .i64 f.Airline,.int .i64 f.Class,.str f.Call,.list 1 ws,.int .i64 f.Window.From,.int .i64 f.Window.To,.bool f.Cancel]:=by rw [h];rfl
theorem fl_measures (nv:Int) (ss cs ws ms ks:List PV) (f1 f2 f3 f6 f7:Int) (f4:ByteArray) (f5:List PV) (f8:Bool) :
  CallsPV Tryz.prog 199 [.agg [.int .i64 nv,.list 5 ss,.list 3 cs,.list 3 ws,.list 1 ms,.list 6 ks],.agg [.int .i64 f1,.int .i64 f2,.int .i64 f3,.str f4,.list 1 f5,.int .i64 f6,.int .i64 f7,.bool f8]]
   (.fn 258 [.ptr [.int .i64 nv,.list 5 ss,.list 3 cs,.list 3 ws,.list 1 ms,.list 6 ks] 0,.ptr [.int .i64 f1,.int .i64 f2,.int .i64 f3,.str f4,.list 1 f5,.int .i64 f6,.int .i64 f7,.bool f8] 0]):=by
 refine callsPV_by (clo:=fun _=>false) (rows:=false) env_ok Tryz.func199 rfl (enters_of Tryz.func199 (by kernel_rfl) rfl) (fun A q P Y hr hA hq=>?_)
 conv=>cbv
 rw [←hq]
def optAt (n k:Nat):Opt:=⟨(10*(k / (3*n)):Nat),((k % (3*n)) / 3:Nat),(5*(k % 3):Nat),false⟩
def measO (L:Int) (n:Nat) (c:Bool):List Opt:=(List.range ((L / 10+1).toNat*(3*n))).map (optAt n)++(if c then [⟨0,0,0,true⟩] else [])
theorem optAt_eq {n j w m:Nat} (hw:w<n) (hm:m<3):optAt n (j*(3*n)+(3*w+m))=⟨((10*j:Nat):Int),(w:Int),((5*m:Nat):Int),false⟩:=by
 unfold optAt
 have hB:0<3*n:=by omega
 have hr:3*w+m<3*n:=by omega
 have e1:(j*(3*n)+(3*w+m)) / (3*n)=j:=by rw [Nat.add_comm,Nat.add_mul_div_right _ _ hB,Nat.div_eq_of_lt hr,Nat.zero_add]
 have e2:(j*(3*n)+(3*w+m)) % (3*n)=3*w+m:=by rw [Nat.add_comm,Nat.add_mul_mod_self_right,Nat.mod_eq_of_lt hr]
 have e3:(j*(3*n)+(3*w+m)) % 3=m:=by
  rw [Nat.mul_left_comm]
  generalize j*n=X
  omega
 rw [e1,e2,e3,show (3*w+m) / 3=w by omega]
theorem measO_get {L:Int} {n j w m:Nat} {c:Bool} (hj:(10*j:Nat)≤L) (hw:w<n) (hm:m<3):((measO L n c).map fun o=>[encOpt o])[j*(3*n)+(3*w+m)]?=some [.agg [.int .i64 ((10*j:Nat):Int),.int .i64 (w:Int),.int .i64 ((5*m:Nat):Int),.bool false]]:=by
 have hJ:j<(L / 10+1).toNat:=by omega
 have hlt:j*(3*n)+(3*w+m)<(L / 10+1).toNat*(3*n):=by
  have h1:(j+1)*(3*n)≤(L / 10+1).toNat*(3*n):=Nat.mul_le_mul_right _ hJ
  rw [Nat.add_mul,Nat.one_mul] at h1
  omega
 unfold measO
 rw [List.map_append,List.getElem?_append_left (by simpa using hlt),List.getElem?_map,List.getElem?_map,List.getElem?_range hlt]
 simp only [Option.map_some,optAt_eq hw hm]
 rfl
theorem measO_len (L:Int) (n:Nat) (c:Bool):(measO L n c).length=(L / 10+1).toNat*(3*n)+(if c then 1 else 0):=by
 unfold measO
 rw [List.length_append,List.length_map,List.length_range]
 cases c<;>rfl
theorem measO_last {L:Int} {n:Nat}:((measO L n true).map fun o=>[encOpt o])[(L / 10+1).toNat*(3*n)]?=some [.agg [.int .i64 0,.int .i64 0,.int .i64 0,.bool true]]:=by
 unfold measO
 rw [List.map_append,List.getElem?_append_right (by simp)]
 simp [encOpt]
set_option maxHeartbeats 2000000 in
theorem fl_measures1 (K:List Kind) (f:Flight) (k:Kind) (h0:0≤f.Class) (hk:K[f.Class.toNat]?=some k) (hL0:0≤k.Longest) (hL1:k.Longest≤60) (hn:f.Ways.length≤1000) (nv:Int) (ss cs ws ms ks wl:List PV) (hks:ks=encKinds K) (hwl:wl=encInts f.Ways) :
  SeqPV Tryz.prog 258 [.ptr [.int .i64 nv,.list 5 ss,.list 3 cs,.list 3 ws,.list 1 ms,.list 6 ks] 0,.ptr [.int .i64 f.ID,.int .i64 f.Airline,.int .i64 f.Class,.str f.Call,.list 1 wl,.int .i64 f.Window.From,.int .i64 f.Window.To,.bool f.Cancel] 0]
   ((measO k.Longest f.Ways.length f.Cancel).map fun o=>[encOpt o]):=by
 refine seqPV_by (clo:=fun _=>false) (rows:=false) env_ok Tryz.func258 rfl (enters_of Tryz.func258 (by kernel_rfl) rfl) rfl (fun A P Y Y' y R hr hys hy hA hR=>?_)
 have hR':=fun q (h:q=Y.ys.length∨q=Y.ys.length+1)=>hR q (by rw [hys] at h;exact h)
 have hwll:wl.length=f.Ways.length:=by rw [hwl];simp [encInts]
 have hcl:=(List.getElem?_eq_some_iff.1 hk).1
 obtain ⟨f1,f2,f3,f4,f5,⟨f6,f7⟩,f8⟩:=f
 simp only at h0 hk hn hwl hwll hys hcl ⊢
 obtain ⟨n,hnn⟩:∃n,n=f5.length:=⟨_,rfl⟩
 rw [←hnn] at hn hwll hys
 obtain ⟨L,hLL⟩:∃L,L=k.Longest:=⟨_,rfl⟩
 rw [←hLL] at hL0 hL1 hys
 have hyl:Y.ys.length=(L / 10+1).toNat*(3*n)+(if f8 then 1 else 0):=by rw [hys,List.length_map,measO_len]
 conv=>cbv
 refine loop_set hA (fun (z:Int × Nat) s=>{ s.put (some 4) (.val (.int .i64 z.1)) with ax:=⟨s.ax.mp,z.2⟩ }) (fun z=>∃j:Nat,z.1=(10*j:Nat)∧(10*j:Nat)≤L+10∧z.2=j*(3*n)) (fun z=>(L+10 - z.1).toNat) (0,0) ?_ ?_ ?_
 ·conv=>cbv
  exact wk_sl (by repeat (first | refine leL_same ?_ | refine leL_any ?_ | exact leL_nil))
 ·exact ⟨0,rfl,by omega,by simp⟩
 rintro R2 ⟨d,kk⟩ ⟨j,hd,hj,hkk⟩ hR2
 simp only at hd hkk
 conv=>cbv
 refine idx_Kind hA hks h0 (by omega) (fun k' v hk' hv=>?_)
 obtain rfl:=Option.some.inj (hk.symm.trans hk')
 obtain ⟨k1,k2,k3,k4,k5,k6⟩:=k
 simp only at hLL
 subst hLL
 conv=>cbv
 split
 ·rename_i hc
  have hdL:=leT hA hc
  have hds:A.iAdd d 10=d+10:=addI hA _ _
  conv=>cbv
  have hjL:((10*j:Nat):Int)≤L:=by omega
  refine loop_set hA (fun (z:Int × Nat) s=>{ s.put (some 21) (.val (.int .i64 z.1)) with ax:=⟨s.ax.mp,z.2⟩ }) (fun z=>∃w:Nat,z.1=(w:Int)∧w≤n∧z.2=j*(3*n)+3*w) (fun z=>(n - z.1).toNat) (0,kk) ?_ ?_ ?_
  ·conv=>cbv
   exact wk_sl (by repeat (first | refine leL_same ?_ | refine leL_any ?_ | exact leL_nil))
  ·exact ⟨0,rfl,by omega,by show kk=_;omega⟩
  rintro R3 ⟨wi,kk⟩ ⟨w,hwi,hwn,hkk⟩ hR3
  simp only at hwi hkk
  conv=>cbv
  split
  ·rename_i hc
   have hw:w<n:=by have:=ltT' hA rfl (lenI hA hwll) hc;omega
   have hws:A.iAdd wi 1=wi+1:=addI hA _ _
   have hwr:A.inR (A.iAdd wi 1):=inR' hA hws (by unfold inI64;omega)
   conv=>cbv
   refine loop_set hA (fun (z:Int × Nat) s=>{ s.put (some 6) (.val (.int .i64 z.1)) with ax:=⟨s.ax.mp,z.2⟩ }) (fun z=>∃m:Nat,z.1=((5*m:Nat):Int)∧m≤3∧z.2=j*(3*n)+(3*w+m)) (fun z=>(15 - z.1).toNat) (0,kk) ?_ ?_ ?_
   ·conv=>cbv
    exact wk_sl (by repeat (first | refine leL_same ?_ | refine leL_any ?_ | exact leL_nil))
   ·exact ⟨0,rfl,by omega,by show kk=_;omega⟩
   rintro R4 ⟨h,kk⟩ ⟨m,hh,hm,hkk⟩ hR4
   simp only at hh hkk
   conv=>cbv
   split
   ·rename_i hc
    have hm3:m<3:=by have:=leT hA hc;omega
    have hhs:A.iAdd h 5=h+5:=addI hA _ _
    have hhr:A.inR (A.iAdd h 5):=inR' hA hhs (by unfold inI64;omega)
    have hyk:Y.ys[kk]?=some [.agg [.int .i64 d,.int .i64 wi,.int .i64 h,.bool false]]:=by
     rw [hys,hkk,hd,hwi,hh]
     exact measO_get hjL hw hm3
    conv=>cbv
    refine yld_intro' hA rfl hy hyk ?_ (fun n' hn'=>?_)
    ·conv=>cbv
     split
     ·rename_i hc
      cases (nT hA hc)
     conv=>cbv
     refine ⟨hhr,hR4 (A.iAdd h 5,kk+1) _ ?_ ?_ ?_⟩
     ·conv=>cbv
      exact wk_sl (by repeat (first | refine leL_same ?_ | refine leL_any ?_ | exact leL_nil))
     ·exact ⟨m+1,by show A.iAdd h 5=_;rw [hhs];omega,by omega,by show kk+1=_;omega⟩
     ·show (15 - A.iAdd h 5).toNat<(15 - h).toNat
      rw [hhs];omega
    ·conv=>cbv
     split
     ·conv=>cbv
      exact hR' _ (.inr hn')
     ·rename_i hc
      have hf:False:=nF hA hc
      cases hf
   ·rename_i hc
    have hm3:m=3:=by have:=leF hA hc;omega
    conv=>cbv
    refine ⟨hwr,hR3 (A.iAdd wi 1,kk) _ ?_ ?_ ?_⟩
    ·conv=>cbv
     exact wk_sl (by repeat (first | refine leL_same ?_ | refine leL_any ?_ | exact leL_nil))
    ·exact ⟨w+1,by show A.iAdd wi 1=_;rw [hws];omega,by omega,by show kk=_;omega⟩
    ·show ((n:Int) - A.iAdd wi 1).toNat<((n:Int) - wi).toNat
     rw [hws];omega
  ·rename_i hc
   have hw:w=n:=by have:=ltF' hA rfl (lenI hA hwll) hc;omega
   conv=>cbv
   refine ⟨inR' hA hds (by unfold inI64;omega),hR2 (A.iAdd d 10,kk) _ ?_ ?_ ?_⟩
   ·conv=>cbv
    exact wk_sl (by repeat (first | refine leL_same ?_ | refine leL_any ?_ | exact leL_nil))
   ·refine ⟨j+1,by show A.iAdd d 10=_;rw [hds];omega,by omega,?_⟩
    show kk=_
    rw [hkk,hw,Nat.add_mul,Nat.one_mul]
   ·show (L+10 - A.iAdd d 10).toNat<(L+10 - d).toNat
    rw [hds];omega
 ·rename_i hc
  have hdL:=leF hA hc
  have hj2:j=(L / 10+1).toNat:=by omega
  rw [hj2] at hkk
  conv=>cbv
  cases f8 with
  | false =>
   conv=>cbv
   exact hR' _ (.inl (by show kk=_;rw [hyl,hkk];simp))
  | true =>
   have hyk:Y.ys[kk]?=some [.agg [.int .i64 0,.int .i64 0,.int .i64 0,.bool true]]:=by
    rw [hys,hkk]
    exact measO_last
   conv=>cbv
   refine yld_intro' hA rfl hy hyk ?_ (fun n' hn'=>?_)
   ·conv=>cbv
    exact hR' _ (.inl (by show kk+1=_;rw [hyl,hkk];simp))
   ·conv=>cbv
    exact hR' _ (.inr hn')
end Go.Abs
namespace Go.Abs
def isO (L:Int) (n:Nat) (c:Bool) (o:Opt):Prop :=
 (o.Cancel=true∧c=true∧o=⟨0,0,0,true⟩)∨(o.Cancel=false∧0≤o.Delay∧o.Delay.tmod 10=0∧o.Delay≤L∧0≤o.Way∧o.Way<n∧0≤o.Hold∧o.Hold.tmod 5=0∧o.Hold≤10)
theorem measO_iff {L:Int} {n:Nat} {c:Bool} (o:Opt):o∈measO L n c↔isO L n c o:=by
 unfold measO
 rw [List.mem_append]
 constructor
 ·rintro (h | h)
  ·obtain ⟨k,hk,rfl⟩:=List.mem_map.1 h
   have hk':=List.mem_range.1 hk
   have hn:0<n:=by
    rcases Nat.eq_zero_or_pos n with h0 | h0
    ·subst h0;simp at hk'
    ·exact h0
   have hB:0<3*n:=by omega
   have h1:k / (3*n)<(L / 10+1).toNat:=(Nat.div_lt_iff_lt_mul hB).2 hk'
   have h2:k % (3*n)<3*n:=Nat.mod_lt _ hB
   have h3:k % 3<3:=Nat.mod_lt _ (by omega)
   refine .inr ⟨rfl,?_⟩
   simp only [optAt]
   refine ⟨by omega,?_,by omega,by omega,by omega,by omega,?_,by omega⟩
   ·rw [Int.tmod_eq_emod_of_nonneg (by omega)];omega
   ·rw [Int.tmod_eq_emod_of_nonneg (by omega)];omega
  ·cases c with
   | false=>simp at h
   | true=>simp at h;subst h;exact .inl ⟨rfl,rfl,rfl⟩
 ·rintro (⟨_,rfl,rfl⟩ | ⟨h0,h1,h2,h3,h4,h5,h6,h7,h8⟩)
  ·exact .inr (by simp)
  ·obtain ⟨o1,o2,o3,o4⟩:=o
   simp only at h0 h1 h2 h3 h4 h5 h6 h7 h8
   subst h0
   rw [Int.tmod_eq_emod_of_nonneg h1] at h2
   rw [Int.tmod_eq_emod_of_nonneg h6] at h7
   refine .inl (List.mem_map.2 ⟨(o1.toNat / 10)*(3*n)+(3*o2.toNat+o3.toNat / 5),List.mem_range.2 ?_,?_⟩)
   ·have h9:(o1.toNat / 10+1)*(3*n)≤(L / 10+1).toNat*(3*n):=Nat.mul_le_mul_right _ (by omega)
    rw [Nat.add_mul,Nat.one_mul] at h9
    omega
   ·rw [optAt_eq (by omega) (by omega)]
    simp only [Opt.mk.injEq,and_true]
    omega
end Go.Abs
namespace Go.Abs
open Go.RowKit Go.Proofs
theorem index_Opt (v:Opt) (l:List Opt) {xs:List PV} (hx:xs=encOpts l):CallsPV Tryz.prog 215 [.list 4 xs,encOpt v] (.int .i64 (findI (fun x=>decide (v=x)) l)):=by
 refine callsPV_by (clo:=fun _=>false) (rows:=false) env_ok Tryz.func215 rfl (enters_of Tryz.func215 (by kernel_rfl) rfl) (fun A q P Y hr hA hq=>?_)
 have hlen:=(hr.mem (p:=.list 4 xs) (by simp)).len
 have hll:xs.length=l.length:=by rw [hx];simp [encOpts]
 obtain ⟨v1,v2,v3,v4⟩:=v
 conv=>cbv
 refine loop_set hA (fun (i:Int) s=>s.put (some 8) (.val (.int .i64 i))) (fun i=>0≤i∧i≤(l.length:Int)∧(fun i=>∀x∈l.take i.toNat,decide ((⟨v1,v2,v3,v4⟩:Opt)=x)=false) i) (fun i=>((l.length:Int) - i).toNat) 0 ?_ ?_ ?_
 ·conv=>cbv
  exact wk_sl (by repeat (first | refine leL_same ?_ | refine leL_any ?_ | exact leL_nil))
 ·exact ⟨Int.le_refl _,by omega,by simp⟩
 rintro R i ⟨hi0,hi1,hi2⟩ hRi
 conv=>cbv
 split
 · rename_i hc
   have hi:i<(l.length:Int):=ltT' hA rfl (lenI hA hll) hc
   have his:A.iAdd i 1=i+1:=addI hA _ _
   have hir:A.inR (A.iAdd i 1):=inR' hA his (by unfold inI64;omega)
   have him:((l.length:Int) - A.iAdd i 1).toNat<((l.length:Int) - i).toNat:=by rw [his];omega
   have hin:(fun i=>∀x∈l.take i.toNat,decide ((⟨v1,v2,v3,v4⟩:Opt)=x)=false) (i+1)→0≤A.iAdd i 1∧A.iAdd i 1≤(l.length:Int)∧(fun i=>∀x∈l.take i.toNat,decide ((⟨v1,v2,v3,v4⟩:Opt)=x)=false) (A.iAdd i 1):=fun h=>by rw [his];exact ⟨by omega,by omega,h⟩
   simp only at hin
   conv=>cbv
   refine ⟨draw_intro hA (by kernel_rfl),?_⟩
   refine idx_Opt hA hx hi0 hi (fun x hx0=>?_)
   have ht:=take_snoc' hi0 hx0
   obtain ⟨x1,x2,x3,x4⟩:=x
   conv=>cbv
   split
   ·rename_i h
    have h':decide ((⟨v1,v2,v3,v4⟩:Opt)=⟨x1,x2,x3,x4⟩)=true:=by subst hA;simpa [stdOps] using h
    conv=>cbv
    rw [←hq,findI_hit hi0 hx0 h' hi2]
   ·rename_i h
    have h':decide ((⟨v1,v2,v3,v4⟩:Opt)=⟨x1,x2,x3,x4⟩)=false:=by subst hA;simpa [stdOps] using h
    conv=>cbv
    exact ⟨hir,hRi (A.iAdd i 1) _ (by (conv=>cbv);exact wk_sl (by repeat (first | refine leL_same ?_ | refine leL_any ?_ | exact leL_nil))) (hin (mem_snoc ht hi2 h')) him⟩
 rename_i hc
 have hi:i=(l.length:Int):=by have:=ltF' hA rfl (lenI hA hll) hc;omega
 conv=>cbv
 rw [←hq,findI_miss (take_all hi hi2)]
theorem contains_Opt (v:Opt) (l:List Opt) {xs:List PV} (hx:xs=encOpts l):CallsPV Tryz.prog 157 [.list 4 xs,encOpt v] (.bool (decide (v∈l))):=by
 refine callsPV_by (clo:=fun _=>false) (rows:=false) env_ok Tryz.func157 rfl (enters_of Tryz.func157 (by kernel_rfl) rfl) (fun A q P Y hr hA hq=>?_)
 have hi:=index_Opt v l hx
 have ha:l.any (fun x=>decide (v=x))=decide (v∈l):=by
  rw [Bool.eq_iff_iff];simp
 rw [←ha,←findI_any] at hq
 generalize findI (fun x=>decide (v=x)) l=r at hi hq
 obtain ⟨v1,v2,v3,v4⟩:=v
 conv=>cbv
 refine call_intro hA hi ?_
 conv=>cbv
 rw [←hq]
 subst hA
 rfl
end Go.Abs
namespace Go.Abs
open Go.RowKit
theorem seq_stop {A:Ops} {E:Env} {a c:Code} {nb:Nat × Nat} {st:St} {Q:AX→St→Prop}
  (h:∀R3:St→Prop,(∀s,wpC' A E c nb s Q→R3 s)→wpC' A E a nb st fun e s=>match e with
   | .normal=>R3 s
   | .exit i=>Q (.exit i) s
   | .ret=>Q .ret s):wpC' A E (.seq a c) nb st Q:=by
 unfold wpC'
 exact h _ fun s h=>h
theorem block_tail {A:Ops} {E:Env} {id b:Nat} {ops:Array Oper} {a:Code} {nb:Nat × Nat} {st:St} {Q0:AX→St→Prop}
  (h:∀R3:St→Prop,(∀s,wpC' A E (.region id ops true) nb s (fun e st'=>match e with
   | .normal=>Q0 .normal st'
   | .exit i=>if i=b then Q0 .normal st' else Q0 (.exit i) st'
   | .ret=>Q0 .ret st')→R3 s)→wpC' A E a nb st fun e s=>match e with
   | .normal=>R3 s
   | .exit i=>if i=b then Q0 .normal s else Q0 (.exit i) s
   | .ret=>Q0 .ret s):wpC' A E (.block b (.seq a (.region id ops true))) nb st Q0:=by
 unfold wpC'
 have h2:=h _ fun s h=>h
 unfold wpC'
 exact h2
theorem block_seq {A:Ops} {E:Env} {b:Nat} {a c:Code} {nb:Nat × Nat} {st:St} {Q0:AX→St→Prop}
  (h:∀R3:St→Prop,(∀s,wpC' A E c nb s (fun e st'=>match e with
   | .normal=>Q0 .normal st'
   | .exit i=>if i=b then Q0 .normal st' else Q0 (.exit i) st'
   | .ret=>Q0 .ret st')→R3 s)→wpC' A E a nb st fun e s=>match e with
   | .normal=>R3 s
   | .exit i=>if i=b then Q0 .normal s else Q0 (.exit i) s
   | .ret=>Q0 .ret s):wpC' A E (.block b (.seq a c)) nb st Q0:=by
 unfold wpC'
 exact seq_stop h
end Go.Abs
namespace Go.Abs
open Go.RowKit Go.Proofs
theorem fc_in (n a b:Int):CallsPV Tryz.prog 165 [.int .i64 n,.int .i64 a,.int .i64 b] (.bool (inB n a b)):=by
 refine callsPV_by (clo:=fun _=>false) (rows:=false) env_ok Tryz.func165 rfl (enters_of Tryz.func165 (by kernel_rfl) rfl) (fun A q P Y hr hA hq=>?_)
 have hb:inB n a b=(decide (a≤n)&&decide (n≤b)):=rfl
 conv=>cbv
 split
 ·rename_i h
  conv=>cbv
  rw [←hq,hb,decide_eq_true (leT hA h)]
  show PV.bool (A.iLe n b)=_
  subst hA;rfl
 ·rename_i h
  conv=>cbv
  rw [←hq,hb,decide_eq_false (show ¬a≤n by have:=leF hA h;omega)];rfl
theorem fc_leaf1 (n:Int) (x:TNode):CallsPV Tryz.prog 169 [encNode x,.ptr [.int .i64 n] 0] (.bool (decide (x.Parent=n))):=by
 refine callsPV_by (clo:=fun _=>false) (rows:=false) env_ok Tryz.func169 rfl (enters_of Tryz.func169 (by kernel_rfl) rfl) (fun A q P Y hr hA hq=>?_)
 obtain ⟨cs,hcs⟩:∃cs,cs=encCuts x.Cuts:=⟨_,rfl⟩
 rw [encNode_eq x hcs]
 obtain ⟨p,f,c⟩:=x
 simp only at hq ⊢
 conv=>cbv
 rw [←hq]
 subst hA;rfl
theorem fc_isLeaf (l:List TNode) (n:Int) {xs:List PV} (hx:xs=encNodes l) (hl:l.length≤1000000):CallsPV Tryz.prog 97 [.list 3 xs,.int .i64 n] (.bool (leafB l n)):=by
 refine callsPV_by (clo:=fun _=>false) (rows:=false) env_ok Tryz.func97 rfl (enters_of Tryz.func97 (by kernel_rfl) rfl) (fun A q P Y hr hA hq=>?_)
 have hxl:xs.length=l.length:=by rw [hx];simp [encNodes]
 have hc:=containsFunc_TNode (fun x=>decide (x.Parent=n)) l hx (fun x _=>fc_leaf1 n x)
 have hb:leafB l n=(inB n 0 ((l.length:Int) - 1)&&!l.any fun x=>decide (x.Parent=n)):=rfl
 generalize (l.any fun x=>decide (x.Parent=n))=b at hc hb
 have hs:A.iSub (A.lLen xs) 1=(l.length:Int) - 1:=by rw [subI hA,lenI hA hxl]
 have hi:=fc_in n 0 (A.iSub (A.lLen xs) 1)
 rw [hs] at hi
 obtain ⟨b2,hb2⟩:∃b2,b2=inB n 0 ((l.length:Int) - 1):=⟨_,rfl⟩
 rw [←hb2] at hi hb
 rw [←hs] at hi
 conv=>cbv
 refine ⟨inR' hA hs (by unfold inI64;omega),?_⟩
 refine call_intro hA (hi) ?_
 conv=>cbv
 cases b2 with
 | true =>
  conv=>cbv
  refine call_intro hA hc ?_
  conv=>cbv
  rw [←hq,hb];subst hA;rfl
 | false =>
  conv=>cbv
  rw [←hq,hb];rfl
theorem fc_leaves1 (n:Int):CallsPV Tryz.prog 138 [.int .i64 n] (.bool true):=by
 refine callsPV_by (clo:=fun _=>false) (rows:=false) env_ok Tryz.func138 rfl (enters_of Tryz.func138 (by kernel_rfl) rfl) (fun A q P Y hr hA hq=>?_)
 conv=>cbv
 rw [←hq]
theorem tree_node {l:List TNode} (h:treeB l=true):1≤l.length∧l.length≤32∧(∀x,l[0]?=some x→x.Parent=-1∧x.From=0)∧∀(i:Nat) (x:TNode),l[i]?=some x→nodeB l i x=true:=by
 unfold treeB at h
 simp only [Bool.and_eq_true,inB,decide_eq_true_eq,List.all_eq_true] at h
 obtain ⟨⟨h1,h2⟩,h3⟩:=h
 refine ⟨by omega,by omega,fun x hx=>?_,fun i x hx=>?_⟩
 ·cases l with
  | nil=>cases hx
  | cons a r =>
   simp only [List.getElem?_cons_zero,Option.some.injEq] at hx
   subst hx
   simpa using h2
 ·have:=h3 i (List.mem_range.2 (List.getElem?_eq_some_iff.1 hx).1)
  rw [hx] at this
  exact this
theorem tree_parent {l:List TNode} (h:treeB l=true) {i:Nat} {x:TNode} (hx:l[i]?=some x):-1≤x.Parent∧x.Parent<i∧(i≠0→0≤x.Parent):=by
 obtain ⟨_,_,h0,h1⟩:=tree_node h
 rcases Nat.eq_zero_or_pos i with rfl | hp
 ·have:=(h0 x hx).1;omega
 ·have h2:=h1 i x hx
  unfold nodeB at h2
  simp only [Bool.and_eq_true,Bool.or_eq_true,decide_eq_true_eq] at h2
  rcases h2.2 with h3 | h3
  ·omega
  ·unfold fitsB at h3
   simp only [Bool.and_eq_true,inB,decide_eq_true_eq] at h3
   omega
theorem wayL_s (l:List TNode) (k:Nat) (n:Int):wayL l (k+1) n=if n<0 then [] else n::(match l[n.toNat]? with | some x=>wayL l k x.Parent | none=>[]):=rfl
theorem wayL_fuel {l:List TNode} (h:treeB l=true):∀(k:Nat) (n:Int),n<k→n<l.length→wayL l (k+1) n=wayL l k n
 | 0,n,hn,_=>by rw [wayL_s,if_pos (by omega)];rfl
 | k+1,n,hn,hl=>by
  rw [wayL_s l (k+1) n,wayL_s l k n]
  split
  ·rfl
  ·rename_i h0
   obtain ⟨x,hx⟩:∃x,l[n.toNat]?=some x:=⟨_,List.getElem?_eq_getElem (show n.toNat<l.length by omega)⟩
   have hp:=tree_parent h hx
   rw [hx]
   simp only
   rw [wayL_fuel h k x.Parent (by omega) (by omega)]
theorem way_step {l:List TNode} (h:treeB l=true) {n:Int} (h0:0≤n) {x:TNode} (hx:l[n.toNat]?=some x):wayL l 33 n=n::wayL l 33 x.Parent:=by
 have hl:=(tree_node h).2.1
 have hn:n.toNat<l.length:=(List.getElem?_eq_some_iff.1 hx).1
 have hp:=tree_parent h hx
 rw [wayL_s,if_neg (by omega),hx]
 simp only
 rw [wayL_fuel h 32 x.Parent (by omega) (by omega)]
theorem way_end (l:List TNode) {n:Int} (h0:n<0):wayL l 33 n=[]:=by rw [wayL_s,if_pos h0]
theorem fc_way1 (l:List TNode) (h:treeB l=true) (n:Int) (hn:n<l.length) {xs:List PV} (hx:xs=encNodes l) :
  SeqPV Tryz.prog 170 [.ptr [.int .i64 n] 0,.ptr [.list 3 xs] 0] ((wayL l 33 n).map fun n=>[.int .i64 n]):=by
 refine seqPV_by (clo:=fun _=>false) (rows:=false) env_ok Tryz.func170 rfl (enters_of Tryz.func170 (by kernel_rfl) rfl) rfl (fun A P Y Y' y R hr hys hy hA hR=>?_)
 have hR':=fun q (h:q=Y.ys.length∨q=Y.ys.length+1)=>hR q (by rw [hys] at h;exact h)
 conv=>cbv
 refine loop_set hA (fun (z:Int × Nat) s=>{ s.put (some 4) (.val (.int .i64 z.1)) with ax:=⟨s.ax.mp,z.2⟩ }) (fun z=>z.1<l.length∧(wayL l 33 n).drop z.2=wayL l 33 z.1∧z.2≤(wayL l 33 n).length) (fun z=>(z.1+1).toNat) (n,0) ?_ ?_ ?_
 ·conv=>cbv
  exact wk_sl (by repeat (first | refine leL_same ?_ | refine leL_any ?_ | exact leL_nil))
 ·exact ⟨hn,rfl,Nat.zero_le _⟩
 rintro R2 ⟨m,kk⟩ ⟨hm,hdr,hkl⟩ hR2
 simp only at hm hdr hkl
 conv=>cbv
 split
 ·rename_i hc
  have h0:0≤m:=leT hA hc
  obtain ⟨x,hx0⟩:∃x,l[m.toNat]?=some x:=⟨_,List.getElem?_eq_getElem (show m.toNat<l.length by omega)⟩
  have hp:=tree_parent h hx0
  rw [way_step h h0 hx0] at hdr
  have hyk:Y.ys[kk]?=some [.int .i64 m]:=by
   have h1:(wayL l 33 n)[kk]?=some m:=by
    have h2:((wayL l 33 n).drop kk)[0]?=some m:=by rw [hdr];rfl
    rw [List.getElem?_drop,Nat.add_zero] at h2
    exact h2
   rw [hys,List.getElem?_map,h1];rfl
  have hkl2:kk+1≤(wayL l 33 n).length:=by
   have:=(List.getElem?_eq_some_iff.1 hyk).1
   rw [hys,List.length_map] at this;omega
  conv=>cbv
  refine yld_intro' hA rfl hy hyk ?_ (fun n' hn'=>?_)
  ·conv=>cbv
   refine idx_Node hA hx h0 hm (fun z cv hz hcv=>?_)
   obtain rfl:=Option.some.inj (hx0.symm.trans hz)
   clear hz
   conv=>cbv
   refine hR2 (x.Parent,kk+1) _ ?_ ⟨by omega,?_,hkl2⟩ ?_
   ·conv=>cbv
    exact wk_sl (by repeat (first | refine leL_same ?_ | refine leL_any ?_ | exact leL_nil))
   ·have h3:=congrArg List.tail hdr
    rw [List.tail_drop,List.tail_cons] at h3
    exact h3
   ·show (x.Parent+1).toNat<(m+1).toNat
    omega
  ·conv=>cbv
   exact hR' _ (.inr hn')
 ·rename_i hc
  have h0:m<0:=leF hA hc
  conv=>cbv
  refine hR' kk (.inl ?_)
  have h2:=List.drop_eq_nil_iff.1 (hdr.trans (way_end l h0))
  rw [hys,List.length_map]
  omega
theorem fc_way (n:Int) (xs:List PV):CallsPV Tryz.prog 98 [.list 3 xs,.int .i64 n] (.fn 170 [.ptr [.int .i64 n] 0,.ptr [.list 3 xs] 0]):=by
 refine callsPV_by (clo:=fun _=>false) (rows:=false) env_ok Tryz.func98 rfl (enters_of Tryz.func98 (by kernel_rfl) rfl) (fun A q P Y hr hA hq=>?_)
 conv=>cbv
 rw [←hq]
end Go.Abs
namespace Go.Abs
open Go.RowKit Go.Proofs
structure Cell where
 Airport:Bool
 Index:Int
 Minute:Int
deriving DecidableEq
structure Use where
 Cell:Cell
 Places:Int
deriving DecidableEq
structure Change where
 From:Int
 Config:Int
 Modes:List Int
deriving DecidableEq
def encCell (c:Cell):PV:=.agg [.bool c.Airport,.int .i64 c.Index,.int .i64 c.Minute]
def encCells (l:List Cell):List PV:=l.map encCell
def encUse (u:Use):PV:=.agg [.bool u.Cell.Airport,.int .i64 u.Cell.Index,.int .i64 u.Cell.Minute,.int .i64 u.Places]
def encUses (l:List Use):List PV:=l.map encUse
def encChange (c:Change):PV:=.agg [.int .i64 c.From,.int .i64 c.Config,.list 1 (encInts c.Modes)]
def encChanges (l:List Change):List PV:=l.map encChange
def encScheme (l:List Change):PV:=.agg [.list 3 (encChanges l)]
section
variable {A:Ops} {E:Env}
theorem idx_Cell (hA:A=stdOps E) {l:List Cell} {xs:List PV} (hx:xs=encCells l) {n:Int} {K:List PV→Prop} (h0:0≤n) (h1:n<l.length)
  (hk:∀x,l[n.toNat]?=some x→K [.bool x.Airport,.int .i64 x.Index,.int .i64 x.Minute]):A.idx xs n K :=
 idx_var hA (l:=l) (enc:=encCell) hx.symm h0 h1 fun x h=>hk x h
theorem idx_Use (hA:A=stdOps E) {l:List Use} {xs:List PV} (hx:xs=encUses l) {n:Int} {K:List PV→Prop} (h0:0≤n) (h1:n<l.length)
  (hk:∀x,l[n.toNat]?=some x→K [.bool x.Cell.Airport,.int .i64 x.Cell.Index,.int .i64 x.Cell.Minute,.int .i64 x.Places]):A.idx xs n K :=
 idx_var hA (l:=l) (enc:=encUse) hx.symm h0 h1 fun x h=>hk x h
theorem idx_Change (hA:A=stdOps E) {l:List Change} {xs:List PV} (hx:xs=encChanges l) {n:Int} {K:List PV→Prop} (h0:0≤n) (h1:n<l.length)
  (hk:∀x v,l[n.toNat]?=some x→v=encInts x.Modes→K [.int .i64 x.From,.int .i64 x.Config,.list 1 v]):A.idx xs n K :=
 idx_var hA (l:=l) (enc:=encChange) hx.symm h0 h1 fun x h=>hk x _ h rfl
end
def modeB (p:Int × List Int):Bool:=decide (0≤p.1)&&decide (p.1<p.2.length)
def changeOk (nc:Nat) (M:List (List Int)) (c:Change):Bool :=
 decide (0≤c.From)&&decide (c.From<1440)&&decide (0≤c.Config)&&decide (c.Config<nc)&&decide (c.Modes.length=M.length)&&(c.Modes.zip M).all modeB
def incFrom:Int→List Change→Bool
 | _,[]=>true
 | p,c::r=>decide (p<c.From)&&incFrom c.From r
def schemeOk (nc:Nat) (M:List (List Int)):List Change→Bool
 | []=>false
 | c::r=>decide (c.From=0)&&(c::r).all (changeOk nc M)&&incFrom c.From r
def capErr (t:Tables) (s:List Change):Int:=if airOk t then (if schemeOk t.Configs.length t.Modes s then 0 else 190) else 140
def inStep (m:Int) (o:Option Change) (x:Change):Option Change :=
 if x.From≤m then match o with | none=>some x | some c=>if c.From≤x.From then some x else some c else o
def inS (s:List Change) (m:Int):Option Change:=s.foldl (inStep m) none
def volIn (ss:List Sector) (v i:Int):Bool:=decide (0≤i)&&(match ss[i.toNat]? with | some s=>decide (v∈s.Volumes) | none=>false)
def cfgSec (ss:List Sector) (cs:List Config) (c v:Int):Option Int :=
 if 0≤c then match cs[c.toNat]? with | some k=>k.Sectors.find? (volIn ss v) | none=>none else none
def secAt (t:Tables) (s:List Change) (v m:Int):Option Int :=
 match inS s m with | some c=>cfgSec t.Sectors t.Configs c.Config v | none=>none
theorem foldl_snoc {α β:Type} (f:β→α→β) (b:β) (l:List α) (x:α):(l++[x]).foldl f b=f (l.foldl f b) x:=by simp
theorem incFrom_drop:∀(l:List Change) (p:Int) (i:Nat) (x y:Change),incFrom p l=true→l[i]?=some x→l[i+1]?=some y→x.From<y.From
 | [],_,_,_,_,_,h,_=>by simp at h
 | [c],_,i,_,_,_,_,h=>by simp at h
 | c::d::r,p,0,x,y,h,hx,hy=>by
  simp at hx hy;subst hx hy
  simp [incFrom] at h;exact h.2.1
 | c::d::r,p,i+1,x,y,h,hx,hy=>incFrom_drop (d::r) c.From i x y (by unfold incFrom at h;simp only [Bool.and_eq_true] at h;exact h.2) (by simpa using hx) (by simpa using hy)
theorem incFrom_of:∀(l:List Change) (p:Int),(∀c r,l=c::r→p<c.From)→(∀(i:Nat) (x y:Change),l[i]?=some x→l[i+1]?=some y→x.From<y.From)→incFrom p l=true
 | [],_,_,_=>rfl
 | c::r,p,h0,h=>by
  unfold incFrom
  rw [Bool.and_eq_true,decide_eq_true_eq]
  refine ⟨h0 c r rfl,incFrom_of r c.From (fun d q e=>?_) fun i x y hx hy=>h (i+1) x y (by simpa using hx) (by simpa using hy)⟩
  subst e
  exact h 0 c d rfl rfl
theorem schemeOk_iff {nc:Nat} {M:List (List Int)} {s:List Change}:schemeOk nc M s=true↔(∃c,s[0]?=some c∧c.From=0)∧(∀x∈s,changeOk nc M x=true)∧∀(i:Nat) (x y:Change),s[i]?=some x→s[i+1]?=some y→x.From<y.From:=by
 cases s with
 | nil=>simp [schemeOk]
 | cons c r =>
  unfold schemeOk
  rw [Bool.and_eq_true,Bool.and_eq_true,decide_eq_true_eq,List.all_eq_true]
  constructor
  ·rintro ⟨⟨h1,h2⟩,h3⟩
   refine ⟨⟨c,rfl,h1⟩,h2,fun i x y hx hy=>?_⟩
   exact incFrom_drop (c::r) (c.From - 1) i x y (by unfold incFrom;rw [h3];simp;omega) hx hy
  ·rintro ⟨⟨d,h1,h2⟩,h3,h4⟩
   cases h1
   refine ⟨⟨h2,h3⟩,incFrom_of r c.From (fun d q e=>?_) fun i x y hx hy=>h4 (i+1) x y (by simpa using hx) (by simpa using hy)⟩
   subst e
   exact h4 0 c d rfl rfl
def rankB (b:Bool):Int:=if b then 1 else 0
end Go.Abs
namespace Go.Abs
open Go.RowKit Go.Proofs
section
variable {κ α:Type} [DecidableEq κ]
def encM (ek:κ→PV) (f:α→PV) (es:List (κ × α)):List (PV × PV):=es.map fun p=>(ek p.1,f p.2)
def lookM (es:List (κ × α)) (c:κ):Option α:=(es.find? fun p=>decide (c=p.1)).map (·.2)
def hasM (es:List (κ × α)) (c:κ):Bool:=es.any fun p=>decide (c=p.1)
def putM (es:List (κ × α)) (c:κ) (v:α):List (κ × α):=if hasM es c then es.map fun p=>if decide (c=p.1) then (p.1,v) else p else es++[(c,v)]
def delM (es:List (κ × α)) (c:κ):List (κ × α):=es.filter fun p=>!decide (c=p.1)
def entM (es:List (κ × α)) (c:κ) (z:α):List (κ × α):=if hasM es c then es else es++[(c,z)]
def NodM (es:List (κ × α)):Prop:=(es.map (·.1)).Nodup
variable {ek:κ→PV} {f:α→PV} (hk:∀a b,keq (ek a) (ek b)=decide (a=b))
include hk
theorem hasE_enc (es:List (κ × α)) (c:κ):hasE (encM ek f es) (ek c)=hasM es c:=by
 unfold hasE encM hasM
 rw [List.any_map]
 simp only [Function.comp_def,hk]
theorem lookE_enc (es:List (κ × α)) (c:κ):lookE (encM ek f es) (ek c)=(lookM es c).map f:=by
 unfold lookE encM lookM
 rw [List.find?_map]
 simp only [Function.comp_def,hk,Option.map_map]
theorem putE_enc (es:List (κ × α)) (c:κ) (v:α):putE (encM ek f es) (ek c) (f v)=encM ek f (putM es c v):=by
 unfold putE putM
 rw [hasE_enc hk]
 split
 ·unfold encM
  rw [List.map_map,List.map_map]
  refine List.map_congr_left fun p _=>?_
  simp only [Function.comp_def,hk]
  split<;>rfl
 ·unfold encM;simp
theorem entE_enc (es:List (κ × α)) (c:κ) (v:α):entE (encM ek f es) (ek c) (f v)=encM ek f (entM es c v):=by
 unfold entE entM
 rw [hasE_enc hk]
 split
 ·rfl
 ·unfold encM;simp
theorem delE_enc (es:List (κ × α)) (c:κ):delE (encM ek f es) (ek c)=encM ek f (delM es c):=by
 unfold delE delM encM
 rw [List.filter_map]
 simp only [Function.comp_def,hk]
omit hk
theorem hasM_iff {es:List (κ × α)} {c:κ}:hasM es c=true↔c∈es.map (·.1):=by
 unfold hasM
 simp only [List.any_eq_true,decide_eq_true_eq,List.mem_map]
 constructor
 ·rintro ⟨p,h,e⟩;exact ⟨p,h,e.symm⟩
 ·rintro ⟨p,h,e⟩;exact ⟨p,h,e.symm⟩
theorem putM_keys (es:List (κ × α)) (c:κ) (v:α):(putM es c v).map (·.1)=if hasM es c then es.map (·.1) else es.map (·.1)++[c]:=by
 unfold putM
 split
 ·rw [List.map_map]
  refine List.map_congr_left fun p _=>?_
  simp only [Function.comp_def]
  split<;>rfl
 ·simp
theorem NodM.put {es:List (κ × α)} (h:NodM es) (c:κ) (v:α):NodM (putM es c v):=by
 unfold NodM
 rw [putM_keys]
 split
 ·exact h
 ·rename_i hn
  rw [hasM_iff] at hn
  rw [List.nodup_append]
  refine ⟨h,by simp,fun a ha b hb e=>?_⟩
  simp at hb
  subst hb e
  exact hn ha
theorem NodM.del {es:List (κ × α)} (h:NodM es) (c:κ):NodM (delM es c):=List.Nodup.sublist (List.Sublist.map _ (List.filter_sublist)) h
theorem lookM_none {es:List (κ × α)} {c:κ}:lookM es c=none↔hasM es c=false:=by
 unfold lookM hasM
 rw [Option.map_eq_none_iff,List.find?_eq_none,List.any_eq_false]
theorem lookM_put {es:List (κ × α)} {c d:κ} {v:α}:lookM (putM es c v) d=if d=c then some v else lookM es d:=by
 unfold putM
 cases hh:hasM es c with
 | true =>
  rw [if_pos rfl]
  induction es with
  | nil=>cases hh
  | cons p r ih =>
   unfold lookM
   rw [List.map_cons,List.find?_cons,List.find?_cons]
   by_cases e1:c=p.1
   ·rw [decide_eq_true e1,if_pos rfl]
    by_cases e2:d=p.1
    ·rw [decide_eq_true e2,if_pos (e2.trans e1.symm)];rfl
    ·rw [decide_eq_false e2,if_neg (fun e=>e2 (e.trans e1))]
     simp only
     have:∀q∈r,(fun q:κ × α=>decide (d=q.1)) ((fun p=>if decide (c=p.1)=true then (p.1,v) else p) q)=(fun q:κ × α=>decide (d=q.1)) q:=fun q _=>by
      simp only;split<;>rfl
     clear ih hh
     induction r with
     | nil=>rfl
     | cons q r ih =>
      rw [List.map_cons,List.find?_cons,List.find?_cons]
      by_cases e3:d=q.1
      ·have e4:¬c=q.1:=fun e=>e2 (e3.trans (e.symm.trans e1))
       rw [decide_eq_false e4,if_neg (by simp),decide_eq_true e3]
      ·have e5:decide (d=(if decide (c=q.1)=true then (q.1,v) else q).1)=false:=by split<;>simp [e3]
       rw [e5,decide_eq_false e3]
       exact ih fun x hx=>this x (List.mem_cons_of_mem _ hx)
   ·rw [decide_eq_false e1,if_neg (by simp)]
    by_cases e2:d=p.1
    ·rw [decide_eq_true e2,if_neg (fun e=>e1 (e.symm.trans e2))]
    ·rw [decide_eq_false e2]
     have hr:hasM r c=true:=by unfold hasM at hh ⊢;rw [List.any_cons,decide_eq_false e1,Bool.false_or] at hh;exact hh
     exact ih hr
 | false =>
  rw [if_neg (by simp)]
  unfold lookM
  rw [List.find?_append]
  by_cases e:d=c
  ·subst e
   rw [if_pos rfl]
   have h0:=lookM_none.2 hh
   unfold lookM at h0
   rw [Option.map_eq_none_iff] at h0
   rw [h0];simp
  ·rw [if_neg e,List.find?_singleton]
   simp [e]
theorem lookM_ent {es:List (κ × α)} (c:κ) (z:α):lookM (entM es c z) c=some ((lookM es c).getD z):=by
 unfold entM
 cases hh:hasM es c with
 | true =>
  rw [if_pos rfl]
  cases hl:lookM es c with
  | none=>rw [lookM_none.1 hl] at hh;cases hh
  | some v=>rfl
 | false =>
  have h0:=lookM_none.2 hh
  rw [if_neg (by simp),h0]
  unfold lookM at h0 ⊢
  rw [Option.map_eq_none_iff] at h0
  rw [List.find?_append,h0]
  simp
theorem putM_ent {es:List (κ × α)} (c:κ) (z v:α):putM (entM es c z) c v=putM es c v:=by
 unfold entM
 cases hh:hasM es c with
 | true=>rw [if_pos rfl]
 | false =>
  rw [if_neg (by simp)]
  have h1:putM es c v=es++[(c,v)]:=by unfold putM;rw [hh,if_neg (by simp)]
  have h2:putM (es++[(c,z)]) c v=(es++[(c,z)]).map fun p=>if decide (c=p.1) then (p.1,v) else p:=by
   unfold putM
   rw [show hasM (es++[(c,z)]) c=true by unfold hasM;simp,if_pos rfl]
  have h3:es.map (fun p=>if decide (c=p.1) then (p.1,v) else p)=es:=by
   conv=>rhs;rw [←List.map_id es]
   refine List.map_congr_left fun p hp=>?_
   have:decide (c=p.1)=false:=by
    unfold hasM at hh
    rw [List.any_eq_false] at hh
    simpa using hh p hp
   rw [this];rfl
  rw [h1,h2,List.map_append,h3]
  simp
end
theorem keq_Cell (a b:Cell):keq (encCell a) (encCell b)=decide (a=b):=by
 obtain ⟨a1,a2,a3⟩:=a
 obtain ⟨b1,b2,b3⟩:=b
 simp [encCell,keq,keqL,keq1]
theorem keq_Int (a b:Int):keq (encInt a) (encInt b)=decide (a=b):=by
 simp [encInt,keq,keq1]
theorem keysOk_Cell {α:Type} {f:α→PV} (es:List (Cell × α)) (c:Cell):keysOk true [.bool,.int,.int] (encM encCell f es) (encCell c):=by
 refine ⟨⟨rfl,rfl⟩,rfl,fun p hp=>?_⟩
 unfold encM at hp
 obtain ⟨q,_,rfl⟩:=List.mem_map.1 hp
 refine ⟨rfl,?_⟩
 simp only [keq_Cell]
 obtain ⟨⟨q1,q2,q3⟩,_⟩:=q
 obtain ⟨c1,c2,c3⟩:=c
 simp [encCell,PV.cells,eqCells,eqPV]
end Go.Abs
namespace Go.Abs
open Go.RowKit Go.Proofs
def leavesTo (l:List TNode) (k:Nat):List Int:=((List.range k).map fun i:Nat=>(i:Int)).filter (leafB l)
theorem leavesTo_succ (l:List TNode) (k:Nat):leavesTo l (k+1)=leavesTo l k++if leafB l k then [(k:Int)] else []:=by
 unfold leavesTo
 rw [List.range_succ,List.map_append,List.filter_append]
 congr 1
 simp only [List.map_cons,List.map_nil,List.filter_cons,List.filter_nil]
theorem leavesTo_len (l:List TNode) (k:Nat):(leavesTo l k).length≤k:=by
 unfold leavesTo
 refine Nat.le_trans (List.length_filter_le _ _) ?_
 simp
set_option maxRecDepth 4000 in
theorem fc_leaves (l:List TNode) {xs:List PV} (hx:xs=encNodes l) (hl:l.length≤1000000):CallsPV Tryz.prog 137 [.list 3 xs,.fn 138 []] (.list 1 (encInts (leavesL l))):=by
 refine callsPV_by (clo:=fun _=>false) (rows:=false) env_ok Tryz.func137 rfl (enters_of Tryz.func137 (by kernel_rfl) rfl) (fun A q P Y hr hA hq=>?_)
 have hxl:xs.length=l.length:=by rw [hx];simp [encNodes]
 have hlf:=fun n=>fc_isLeaf l n hx hl
 conv=>cbv
 refine loop_set hA (fun (z:Int × List PV) s=>{ (s.put (some 8) (.val (.int .i64 z.1))).put (some 4) (.own 0 1 z.2) with tk:=[(A.nLen z.2,3)] })
  (fun z=>0≤z.1∧z.1≤l.length∧z.2=encInts (leavesTo l z.1.toNat)) (fun z=>(l.length - z.1).toNat) (0,[]) ?_ ?_ ?_
 ·subst hA
  (conv=>cbv)
  exact wk_own 4 0 1 [] 3 rfl (.inr rfl) (by repeat (first | refine leL_same ?_ | refine leL_any ?_ | exact leL_nil)) rfl
 ·exact ⟨Int.le_refl _,by omega,rfl⟩
 rintro R ⟨i,L⟩ ⟨hi0,hi1,hL⟩ hR
 simp only at hi0 hi1 hL
 have hLl:L.length≤1000000:=by
  have:=leavesTo_len l i.toNat
  rw [hL];simp only [encInts,List.length_map];omega
 conv=>cbv
 split
 ·rename_i hc
  have hi:=ltT' hA rfl (lenI hA hxl) hc
  have his:A.iAdd i 1=i+1:=addI hA _ _
  have hir:A.inR (A.iAdd i 1):=inR' hA his (by unfold inI64;omega)
  have hsu:=leavesTo_succ l i.toNat
  rw [show ((i.toNat:Nat):Int)=i by omega] at hsu
  have hlfi:=hlf i
  obtain ⟨b,hb⟩:∃b,b=leafB l i:=⟨_,rfl⟩
  rw [←hb] at hlfi hsu
  conv=>cbv
  refine call_intro hA (hlfi) ?_
  conv=>cbv
  cases b with
  | true =>
   conv=>cbv
   refine call_intro hA (fc_leaves1 i) ?_
   conv=>cbv
   have htk:A.tkEq (A.nLen L) (A.nLen L):=by subst hA;rfl
   have hroom:A.room (A.nLen (A.lApp L [.int .i64 i])) 8:=by
    subst hA
    show (L++[_]).length*(8+1)≤140737488355328
    rw [List.length_append,List.length_singleton];omega
   refine ⟨⟨htk,hroom⟩,?_⟩
   refine ⟨hir,hR (A.iAdd i 1,A.lApp L [.int .i64 i]) _ ?_ ⟨by rw [his];omega,by rw [his];omega,?_⟩ (by rw [his];omega)⟩
   ·conv=>cbv
    exact wk_sl (by repeat (first | refine leL_same ?_ | refine leL_any ?_ | exact leL_nil))
   ·simp only
    rw [his,show (i+1).toNat=i.toNat+1 by omega,hsu,hL]
    subst hA
    show encInts _++_=_
    simp [encInts,encInt]
  | false =>
   conv=>cbv
   refine ⟨hir,hR (A.iAdd i 1,L) _ ?_ ⟨by rw [his];omega,by rw [his];omega,?_⟩ (by rw [his];omega)⟩
   ·conv=>cbv
    exact wk_sl (by repeat (first | refine leL_same ?_ | refine leL_any ?_ | exact leL_nil))
   ·simp only
    rw [his,show (i+1).toNat=i.toNat+1 by omega,hsu,hL]
    simp
 ·rename_i hc
  have hi:=ltF' hA rfl (lenI hA hxl) hc
  conv=>cbv
  rw [←hq,hL,show i.toNat=l.length by omega];rfl
theorem keysOk_I {α:Type} {f:α→PV} (es:List (Int × α)) (c:Int):keysOk false [.int] (encM encInt f es) (encInt c):=by
 refine ⟨⟨rfl,rfl⟩,rfl,fun p hp=>?_⟩
 unfold encM at hp
 obtain ⟨q,_,rfl⟩:=List.mem_map.1 hp
 refine ⟨rfl,?_⟩
 simp only [keq_Int]
 simp [encInt,PV.cells,eqCells,eqPV]
theorem fc_Check1 (c:TCut) (p f:Int) (cs:List PV):CallsPV Tryz.prog 167 [encCut c,.ptr [.int .i64 p,.int .i64 f,.list 5 cs] 0] (.bool (!tcutOk f c)):=by
 refine callsPV_by (clo:=fun _=>false) (rows:=false) env_ok Tryz.func167 rfl (enters_of Tryz.func167 (by kernel_rfl) rfl) (fun A q P Y hr hA hq=>?_)
 obtain ⟨ap,ix,⟨a,b⟩,ls⟩:=c
 have hk:tcutOk f ⟨ap,ix,⟨a,b⟩,ls⟩=(inB ix 0 (if ap then 15 else 63)&&(inB ls 0 64&&(decide (f≤a)&&(decide (a<b)&&decide (b≤1440))))):=by
  simp only [tcutOk,Bool.and_assoc]
 cases ap with
 | true =>
  rw [if_pos rfl] at hk
  conv=>cbv
  refine callB hA ((fc_in ix 0 15)) rfl (fun b1 hb1=>?_)
  conv=>cbv
  split
  ·rename_i hc
   have h':=notT hA hc
   conv=>cbv
   rw [←hq,hk,←hb1,h'];rfl
  rename_i hc
  have h1:=notF hA hc
  rw [h1] at hb1
  rw [←hb1,Bool.true_and] at hk
  conv=>cbv
  refine callB hA ((fc_in ls 0 64)) rfl (fun b2 hb2=>?_)
  conv=>cbv
  split
  ·rename_i hc
   have h':=notT hA hc
   conv=>cbv
   rw [←hq,hk,←hb2,h'];rfl
  rename_i hc
  have h2:=notF hA hc
  rw [h2] at hb2
  rw [←hb2,Bool.true_and] at hk
  conv=>cbv
  split
  ·rename_i hc
   conv=>cbv
   rw [←hq,hk,decide_eq_false (show ¬f≤a by have:=ltT hA hc;omega)];rfl
  rename_i hc
  rw [decide_eq_true (show f≤a from ltF hA hc),Bool.true_and] at hk
  conv=>cbv
  split
  ·rename_i hc
   conv=>cbv
   rw [←hq,hk,decide_eq_false (show ¬a<b by have:=leT hA hc;omega)];rfl
  rename_i hc
  rw [decide_eq_true (show a<b from leF hA hc),Bool.true_and] at hk
  conv=>cbv
  rw [←hq,hk]
  have h9:A.iLt 1440 b=!decide (b≤1440):=by
   subst hA
   show decide (1440<b)=_
   rw [←decide_not,decide_eq_decide];omega
  exact congrArg PV.bool h9
 | false =>
  rw [if_neg (by decide)] at hk
  conv=>cbv
  refine callB hA ((fc_in ix 0 63)) rfl (fun b1 hb1=>?_)
  conv=>cbv
  split
  ·rename_i hc
   have h':=notT hA hc
   conv=>cbv
   rw [←hq,hk,←hb1,h'];rfl
  rename_i hc
  have h1:=notF hA hc
  rw [h1] at hb1
  rw [←hb1,Bool.true_and] at hk
  conv=>cbv
  refine callB hA ((fc_in ls 0 64)) rfl (fun b2 hb2=>?_)
  conv=>cbv
  split
  ·rename_i hc
   have h':=notT hA hc
   conv=>cbv
   rw [←hq,hk,←hb2,h'];rfl
  rename_i hc
  have h2:=notF hA hc
  rw [h2] at hb2
  rw [←hb2,Bool.true_and] at hk
  conv=>cbv
  split
  ·rename_i hc
   conv=>cbv
   rw [←hq,hk,decide_eq_false (show ¬f≤a by have:=ltT hA hc;omega)];rfl
  rename_i hc
  rw [decide_eq_true (show f≤a from ltF hA hc),Bool.true_and] at hk
  conv=>cbv
  split
  ·rename_i hc
   conv=>cbv
   rw [←hq,hk,decide_eq_false (show ¬a<b by have:=leT hA hc;omega)];rfl
  rename_i hc
  rw [decide_eq_true (show a<b from leF hA hc),Bool.true_and] at hk
  conv=>cbv
  rw [←hq,hk]
  have h9:A.iLt 1440 b=!decide (b≤1440):=by
   subst hA
   show decide (1440<b)=_
   rw [←decide_not,decide_eq_decide];omega
  exact congrArg PV.bool h9
end Go.Abs
namespace Go.Abs
open Go.RowKit Go.Proofs
def KnownOk (l:List TNode) (es:List (Int × Int)) (i:Nat):Prop :=
 NodM es∧∀p v,lookM es p=some v↔∃(k:Nat) (x:TNode),1≤k∧k<i∧l[k]?=some x∧x.Parent=p∧x.From=v
theorem fits_iff {l:List TNode} {es:List (Int × Int)} {i:Nat} {n:TNode} (h:KnownOk l es i) (hi:i≤l.length) :
  fitsB l i n=(inB n.Parent 0 ((i:Int) - 1)&&inB n.From (fromOf l n.Parent+1) 1439&&match lookM es n.Parent with | some v=>decide (v=n.From) | none=>true):=by
 unfold fitsB fromOf
 congr 1
 rw [Bool.eq_iff_iff,List.all_eq_true]
 constructor
 ·intro h1
  cases hl:lookM es n.Parent with
  | none=>rfl
  | some v =>
   obtain ⟨k,x,hk1,hk2,hx,hp,hf⟩:=(h.2 _ _).1 hl
   have h2:=h1 k (List.mem_range.2 hk2)
   rw [hx] at h2
   simp only [Bool.or_eq_true,decide_eq_true_eq] at h2 ⊢
   rcases h2 with (h2 | h2) | h2
   ·omega
   ·exact absurd hp h2
   ·rw [←hf];exact h2
 ·intro h1 k hk
  have hk2:=List.mem_range.1 hk
  obtain ⟨m,hm⟩:∃m,l[k]?=some m:=⟨_,List.getElem?_eq_getElem (show k<l.length by omega)⟩
  rw [hm]
  simp only [Bool.or_eq_true,decide_eq_true_eq]
  by_cases hk0:k=0
  ·exact .inl (.inl hk0)
  ·by_cases hp:m.Parent=n.Parent
   ·right
    have h3:=(h.2 n.Parent m.From).2 ⟨k,m,by omega,hk2,hm,hp,rfl⟩
    rw [h3] at h1
    simpa using h1
   ·exact .inl (.inr hp)
theorem known_put {l:List TNode} {es:List (Int × Int)} {i:Nat} {n:TNode} (h:KnownOk l es i) (hn:l[i]?=some n) (h1:1≤i) (hl:∀v,lookM es n.Parent=some v→v=n.From):KnownOk l (putM es n.Parent n.From) (i+1):=by
 refine ⟨h.1.put _ _,fun p v=>?_⟩
 rw [lookM_put]
 split
 ·rename_i hp
  subst hp
  constructor
  ·intro hv
   cases hv
   exact ⟨i,n,h1,Nat.lt_succ_self _,hn,rfl,rfl⟩
  ·rintro ⟨k,x,hk1,hk2,hx,hp,hf⟩
   rcases Nat.lt_or_ge k i with hk | hk
   ·have:=hl v ((h.2 _ _).2 ⟨k,x,hk1,hk,hx,hp,hf⟩)
    rw [this]
   ·obtain rfl:k=i:=by omega
    rw [hn] at hx
    cases hx
    rw [hf]
 ·rename_i hp
  rw [h.2]
  constructor
  ·rintro ⟨k,x,hk1,hk2,hx⟩
   exact ⟨k,x,hk1,by omega,hx⟩
  ·rintro ⟨k,x,hk1,hk2,hx,hpp,hf⟩
   rcases Nat.lt_or_ge k i with hk | hk
   ·exact ⟨k,x,hk1,hk,hx,hpp,hf⟩
   ·obtain rfl:k=i:=by omega
    rw [hn] at hx
    cases hx
    exact absurd hpp.symm hp
theorem known_one (l:List TNode):KnownOk l [] 1:=by
 refine ⟨by simp [NodM],fun p v=>?_⟩
 constructor
 ·intro h;cases h
 ·rintro ⟨k,x,h1,h2,_⟩;omega
theorem treeB_of {l:List TNode} {x0:TNode} (h0:l[0]?=some x0):treeB l=(inB l.length 1 32&&(decide (x0.Parent=-1)&&decide (x0.From=0))&&(List.range l.length).all fun i=>match l[i]? with | some n=>nodeB l i n | none=>true):=by
 unfold treeB
 cases l with
 | nil=>cases h0
 | cons a r =>
  simp only [List.getElem?_cons_zero,Option.some.injEq] at h0
  subst h0
  rfl
theorem treeB_bad {l:List TNode} {i:Nat} {n:TNode} (hn:l[i]?=some n) (h:nodeB l i n=false):treeB l=false:=by
 cases ht:treeB l with
 | false=>rfl
 | true =>
  have:=(tree_node ht).2.2.2 i n hn
  rw [h] at this;cases this
theorem nodes_from {l:List TNode} {i:Int} {x0:TNode} (h0:l[0]?=some x0) (hf:x0.From=0) (hok:∀(k:Nat) (x:TNode),(k:Int)<i→l[k]?=some x→nodeB l k x=true):∀(k:Nat) (x:TNode),(k:Int)<i→l[k]?=some x→0≤x.From∧x.From≤1439:=by
 intro k
 induction k using Nat.strongRecOn with
 | _ k ih =>
  intro x hk hx
  by_cases hk0:k=0
  ·subst hk0
   rw [h0] at hx
   cases hx
   omega
  ·have h1:=hok k x hk hx
   unfold nodeB at h1
   rw [decide_eq_false hk0,Bool.false_or,Bool.and_eq_true] at h1
   have h2:=h1.2
   unfold fitsB at h2
   simp only [Bool.and_eq_true,inB,decide_eq_true_eq] at h2
   obtain ⟨⟨⟨p0,p1⟩,f0,f1⟩,_⟩:=h2
   have hkl:k<l.length:=(List.getElem?_eq_some_iff.1 hx).1
   obtain ⟨px,hpx⟩:∃px,l[x.Parent.toNat]?=some px:=⟨_,List.getElem?_eq_getElem (show x.Parent.toNat<l.length by omega)⟩
   have h3:=ih x.Parent.toNat (by omega) px (by omega) hpx
   rw [hpx] at f0
   simp only [Option.map_some,Option.getD_some] at f0
   omega
set_option maxRecDepth 4000 in
set_option maxHeartbeats 2000000 in
theorem fc_Check (l:List TNode) {xs:List PV} (hx:xs=encNodes l) (hl:l.length≤1000000):CallsPV Tryz.prog 96 [.list 3 xs] (.int .i64 (treeE l)):=by
 refine callsPV_by (clo:=fun n=>n == 9000000) (rows:=false) env_ok Tryz.func96 rfl (enters_of Tryz.func96 (by kernel_rfl) rfl) (fun A q P Y hr hA hq=>?_)
 have hxl:xs.length=l.length:=by rw [hx];simp [encNodes]
 have hll:A.lLen xs=(l.length:Int):=lenI hA hxl
 have hbad:treeB l=false→PV.int .i64 180=q:=fun h=>by rw [←hq,treeE,h];rfl
 have hgood:treeB l=true→PV.int .i64 0=q:=fun h=>by rw [←hq,treeE,h];rfl
 clear hq
 conv=>cbv
 refine callB hA ((fc_in (A.lLen xs) 1 32)) rfl (fun b1 hb1=>?_)
 conv=>cbv
 rw [hll] at hb1
 split
 ·rename_i hc
  have h':=notT hA hc
  conv=>cbv
  exact hbad (by unfold treeB;rw [←hb1,h'];rfl)
 rename_i hc
 have h1:=notF hA hc
 rw [h1] at hb1
 have hlen:1≤l.length∧l.length≤32:=by
  have:=hb1.symm
  simp only [inB,Bool.and_eq_true,decide_eq_true_eq] at this;omega
 obtain ⟨x0,hx0⟩:∃x0,l[0]?=some x0:=⟨_,List.getElem?_eq_getElem (show 0<l.length by omega)⟩
 have htb:=treeB_of hx0
 rw [←hb1,Bool.true_and] at htb
 conv=>cbv
 refine idx_Node hA hx (n:=0) (by omega) (by omega) (fun z cv hz hcv=>?_)
 obtain rfl:=Option.some.inj (hx0.symm.trans hz)
 clear hz
 conv=>cbv
 split
 ·rename_i hc
  conv=>cbv
  exact hbad (by rw [htb,decide_eq_false (neT hA hc)];simp)
 rename_i hc
 have e1:x0.Parent=-1:=neF hA hc
 conv=>cbv
 refine idx_Node hA hx (n:=0) (by omega) (by omega) (fun z cv hz hcv=>?_)
 obtain rfl:=Option.some.inj (hx0.symm.trans hz)
 clear hz
 conv=>cbv
 split
 ·rename_i hc
  conv=>cbv
  exact hbad (by rw [htb,decide_eq_false (neT hA hc)];simp)
 rename_i hc
 have e2:x0.From=0:=neF hA hc
 rw [decide_eq_true e1,decide_eq_true e2,Bool.true_and,Bool.true_and] at htb
 conv=>cbv
 refine loop_set hA (fun (z:Int × List (PV × PV)) s=>{ (s.put (some 30) (.val (.int .i64 z.1))) with ax:=⟨[.ents z.2 none],s.ax.yk⟩ })
  (fun z=>0≤z.1∧z.1≤l.length∧(∀(k:Nat) (x:TNode),(k:Int)<z.1→l[k]?=some x→nodeB l k x=true)∧∃es:List (Int × Int),z.2=encM encInt encInt es∧(z.1=0→es=[])∧(1≤z.1→KnownOk l es z.1.toNat)) (fun z=>(l.length - z.1).toNat) (0,[]) ?_ ?_ ?_
 ·conv=>cbv
  exact wk_sl (by repeat (first | refine leL_same ?_ | refine leL_any ?_ | exact leL_nil))
 ·exact ⟨Int.le_refl _,by omega,fun k x hk=>by omega,[],rfl,fun _=>rfl,fun h=>by omega⟩
 rintro R ⟨i,m⟩ ⟨hi0,hi1,hok,es,hm,hes0,hes⟩ hR
 simp only at hi0 hi1 hok hm hes0 hes
 conv=>cbv
 split
 rotate_left
 ·rename_i hc
  have hi:=ltF' hA rfl hll hc
  conv=>cbv
  refine hgood ?_
  rw [htb,List.all_eq_true]
  intro k hk
  have hk2:=List.mem_range.1 hk
  obtain ⟨x,hxk⟩:∃x,l[k]?=some x:=⟨_,List.getElem?_eq_getElem hk2⟩
  rw [hxk]
  exact hok k x (by omega) hxk
 rename_i hc
 have hi:=ltT' hA rfl hll hc
 have his:A.iAdd i 1=i+1:=addI hA _ _
 have hir:A.inR (A.iAdd i 1):=inR' hA his (by unfold inI64;omega)
 obtain ⟨n,hn0⟩:∃n,l[i.toNat]?=some n:=⟨_,List.getElem?_eq_getElem (show i.toNat<l.length by omega)⟩
 have hbn:=fun h=>hbad (treeB_bad hn0 h)
 have hany:=fun (cv:List PV) (h:cv=encCuts n.Cuts)=>containsFunc_TCut (fun c=>!tcutOk n.From c) n.Cuts h (fun c _=>fc_Check1 c n.Parent n.From cv)
 have hco:cutsOk n=(!(n.Cuts.any fun c=>!tcutOk n.From c)&&decide (n.Cuts.length≤64)):=by
  unfold cutsOk
  congr 1
  rw [List.all_eq_not_any_not]
 generalize (n.Cuts.any fun c=>!tcutOk n.From c)=bc at hany hco
 have hnb:nodeB l i.toNat n=(cutsOk n&&(decide (i.toNat=0) || fitsB l i.toNat n)):=rfl
 conv=>cbv
 refine idx_Node hA hx hi0 hi (fun z cv hz hcv=>?_)
 obtain rfl:=Option.some.inj (hn0.symm.trans hz)
 clear hz
 have hcl:cv.length=n.Cuts.length:=by rw [hcv];simp [encCuts]
 have hany:=hany cv hcv
 conv=>cbv
 refine call_intro hA hany ?_
 conv=>cbv
 cases bc with
 | true =>
  conv=>cbv
  exact hbn (by rw [hnb,hco];rfl)
 | false =>
  conv=>cbv
  split
  ·rename_i hc
   have g:64<(n.Cuts.length:Int):=ltT' hA rfl (lenI hA hcl) hc
   conv=>cbv
   exact hbn (by rw [hnb,hco,decide_eq_false (show ¬n.Cuts.length≤64 by omega)];rfl)
  rename_i hc
  have g:(n.Cuts.length:Int)≤64:=ltF' hA rfl (lenI hA hcl) hc
  rw [decide_eq_true (show n.Cuts.length≤64 by omega)] at hco
  have hco:cutsOk n=true:=hco
  rw [hco,Bool.true_and] at hnb
  conv=>cbv
  split
  ·rename_i hc
   have he:i=0:=eqT hA hc
   conv=>cbv
   refine ⟨hir,hR (A.iAdd i 1,m) _ ?_ ⟨by rw [his];omega,by rw [his];omega,fun k x hk hx=>?_,es,hm,fun h=>by rw [his] at h;omega,fun _=>?_⟩ (by rw [his];omega)⟩
   ·(conv=>cbv)
    exact wk_round (bx:=[]) (bx':=[_]) (mp:=[_]) (mp':=[]) (by repeat (first | refine leL_same ?_ | refine leL_any ?_ | exact leL_nil)) (Nat.le_refl _) (.inl rfl) rfl rfl
   ·rw [his] at hk
    have hk0:k=i.toNat:=by omega
    rw [hk0,hn0] at hx
    cases hx
    rw [hk0,hnb,decide_eq_true (show i.toNat=0 by omega)];rfl
   ·rw [hes0 he,his,he]
    exact known_one l
  rename_i hc
  have he:i≠0:=eqF hA hc
  have hk:=hes (by omega)
  have hfi:=fits_iff (n:=n) hk (by omega)
  rw [decide_eq_false (show ¬i.toNat=0 by omega),Bool.false_or,hfi,show ((i.toNat:Nat):Int)=i by omega] at hnb
  have hsub:A.iSub i 1=i - 1:=subI hA _ _
  have hin2:CallsPV Tryz.prog 165 [.int .i64 n.Parent,.int .i64 0,.int .i64 (A.iSub i 1)] (.bool (inB n.Parent 0 (i - 1))):=by
   have:=fc_in n.Parent 0 (A.iSub i 1)
   rw [hsub] at this ⊢
   exact this
  conv=>cbv
  refine ⟨draw_intro hA (by kernel_rfl),?_⟩
  refine ⟨inR' hA hsub (by unfold inI64;omega),?_⟩
  refine callB hA (hin2) rfl (fun b2 hb2=>?_)
  conv=>cbv
  split
  ·rename_i hc
   have g2:b2=false:=notT hA hc
   conv=>cbv
   exact hbn (by rw [hnb,←hb2,g2];rfl)
  rename_i hc
  have g2:b2=true:=notF hA hc
  rw [g2] at hb2
  have hp:0≤n.Parent∧n.Parent≤i - 1:=by
   have:=hb2.symm
   simpa [inB] using this
  rw [←hb2,Bool.true_and] at hnb
  obtain ⟨px,hpx⟩:∃px,l[n.Parent.toNat]?=some px:=⟨_,List.getElem?_eq_getElem (show n.Parent.toNat<l.length by omega)⟩
  have hfo:fromOf l n.Parent=px.From:=by unfold fromOf;rw [hpx];rfl
  rw [hfo] at hnb
  have hpf:=nodes_from (l:=l) (i:=i) hx0 e2 hok n.Parent.toNat px (by omega) hpx
  have hadd:A.iAdd px.From 1=px.From+1:=addI hA _ _
  have hin3:CallsPV Tryz.prog 165 [.int .i64 n.From,.int .i64 (A.iAdd px.From 1),.int .i64 1439] (.bool (inB n.From (px.From+1) 1439)):=by
   have:=fc_in n.From (A.iAdd px.From 1) 1439
   rw [hadd] at this ⊢
   exact this
  conv=>cbv
  refine idx_Node hA hx hp.1 (show n.Parent<(l.length:Int) by omega) (fun z v hz hv=>?_)
  obtain rfl:=Option.some.inj (hpx.symm.trans hz)
  clear hz hv
  conv=>cbv
  refine ⟨inR' hA hadd (by unfold inI64;omega),?_⟩
  refine callB hA (hin3) rfl (fun b3 hb3=>?_)
  conv=>cbv
  split
  ·rename_i hc
   have g3:b3=false:=notT hA hc
   conv=>cbv
   exact hbn (by rw [hnb,←hb3,g3];rfl)
  rename_i hc
  have g3:b3=true:=notF hA hc
  rw [g3] at hb3
  rw [←hb3,Bool.true_and] at hnb
  have hlk:lookE m (.int .i64 n.Parent)=(lookM es n.Parent).map encInt:=by rw [hm];exact lookE_enc keq_Int es n.Parent
  have hkk:keysOk false [.int] m (.int .i64 n.Parent):=by rw [hm];exact keysOk_I (f:=encInt) es n.Parent
  have hpt:A.ePut m (.int .i64 n.Parent) (.int .i64 n.From)=encM encInt encInt (putM es n.Parent n.From):=by
   subst hA
   show putE m _ _=_
   rw [hm]
   exact putE_enc keq_Int (f:=encInt) es n.Parent n.From
  have hnext:nodeB l i.toNat n=true→(∀v,lookM es n.Parent=some v→v=n.From)→0≤A.iAdd i 1∧A.iAdd i 1≤l.length∧(∀(k:Nat) (x:TNode),(k:Int)<A.iAdd i 1→l[k]?=some x→nodeB l k x=true)∧∃es2:List (Int × Int),A.ePut m (.int .i64 n.Parent) (.int .i64 n.From)=encM encInt encInt es2∧(A.iAdd i 1=0→es2=[])∧(1≤A.iAdd i 1→KnownOk l es2 (A.iAdd i 1).toNat):=fun h1 h2=>by
   rw [his]
   refine ⟨by omega,by omega,fun k x hk2 hx2=>?_,_,hpt,fun h=>by omega,fun _=>?_⟩
   ·by_cases hki:(k:Int)<i
    ·exact hok k x hki hx2
    ·rw [show k=i.toNat by omega,hn0] at hx2
     cases hx2
     rw [show k=i.toNat by omega];exact h1
   ·rw [show (i+1).toNat=i.toNat+1 by omega]
    exact known_put hk hn0 (by omega) h2
  cases hl2:lookM es n.Parent with
  | none =>
   rw [hl2] at hlk hnb hnext
   conv=>cbv
   refine ⟨kOk_intro hA hkk,look_intro hA (v:=.int .i64 0) (b:=false) (by rw [hlk];rfl) (by rw [hlk];rfl) ?_⟩
   conv=>cbv
   refine ⟨⟨kOk_intro hA hkk,trivial⟩,hir,hR (A.iAdd i 1,A.ePut m (.int .i64 n.Parent) (.int .i64 n.From)) _ ?_ (hnext hnb (fun v h=>by cases h)) ?_⟩
   ·(conv=>cbv)
    exact wk_round (bx:=[]) (bx':=[_]) (mp:=[_]) (mp':=[]) (by repeat (first | refine leL_same ?_ | refine leL_any ?_ | exact leL_nil)) (Nat.le_refl _) (.inl rfl) rfl rfl
   ·show (l.length - A.iAdd i 1).toNat<(l.length - i).toNat
    rw [his];omega
  | some v0 =>
   rw [hl2] at hlk hnb hnext
   conv=>cbv
   refine ⟨kOk_intro hA hkk,look_intro hA (v:=.int .i64 v0) (b:=true) (by rw [hlk];rfl) (by rw [hlk];rfl) ?_⟩
   conv=>cbv
   split
   ·rename_i hc
    have g4:¬v0=n.From:=neT hA hc
    conv=>cbv
    exact hbn (by rw [hnb];exact decide_eq_false g4)
   rename_i hc
   have g4:v0=n.From:=neF hA hc
   conv=>cbv
   refine ⟨⟨kOk_intro hA hkk,trivial⟩,hir,hR (A.iAdd i 1,A.ePut m (.int .i64 n.Parent) (.int .i64 n.From)) _ ?_ (hnext (by rw [hnb];exact decide_eq_true g4) (fun v h=>by cases h;exact g4)) ?_⟩
   ·(conv=>cbv)
    exact wk_round (bx:=[]) (bx':=[_]) (mp:=[_]) (mp':=[]) (by repeat (first | refine leL_same ?_ | refine leL_any ?_ | exact leL_nil)) (Nat.le_refl _) (.inl rfl) rfl rfl
   ·show (l.length - A.iAdd i 1).toNat<(l.length - i).toNat
    rw [his];omega
end Go.Abs
namespace Go.Abs
open Go.RowKit Go.Proofs
theorem fc_Leaves (l:List TNode) {xs:List PV} (hx:xs=encNodes l) (hl:l.length≤1000000):CallsPV Tryz.prog 68 [.list 3 xs] (if treeB l then .tup [.list 1 (encInts (leavesL l)),.int .i64 0] else .tup [.list 0 [],.int .i64 180]):=by
 refine callsPV_by (clo:=fun _=>false) (rows:=false) env_ok Tryz.func68 rfl (enters_of Tryz.func68 (by kernel_rfl) rfl) (fun A q P Y hr hA hq=>?_)
 have hck:=fc_Check l hx hl
 unfold treeE at hck
 have hlv:=fc_leaves l hx hl
 obtain ⟨L,hL⟩:∃L,L=encInts (leavesL l):=⟨_,rfl⟩
 rw [←hL] at hlv hq
 cases hb:treeB l with
 | false =>
  rw [hb] at hck hq
  have hck:CallsPV Tryz.prog 96 [.list 3 xs] (.int .i64 180):=hck
  conv=>cbv
  refine call_intro hA (hck) ?_
  conv=>cbv
  split
  rotate_left
  ·rename_i hc
   cases ((show False by have h9:(180:Int)=0:=neF hA hc;omega))
  conv=>cbv
  rw [←hq];rfl
 | true =>
  rw [hb] at hck hq
  have hck:CallsPV Tryz.prog 96 [.list 3 xs] (.int .i64 0):=hck
  conv=>cbv
  refine call_intro hA (hck) ?_
  conv=>cbv
  split
  ·rename_i hc
   cases (neT hA hc rfl)
  conv=>cbv
  refine call_intro hA (hlv) ?_
  conv=>cbv
  rw [←hq];rfl
theorem way_root {l:List TNode} (h:treeB l=true):∀(k:Nat) (n:Int),0≤n→n.toNat<k→n<l.length→∃m∈wayL l 33 n,fromOf l m=0
 | 0,n,h0,hk,_=>by omega
 | k+1,n,h0,hk,hn=>by
  obtain ⟨x,hx⟩:∃x,l[n.toNat]?=some x:=⟨_,List.getElem?_eq_getElem (show n.toNat<l.length by omega)⟩
  have hp:=tree_parent h hx
  rw [way_step h h0 hx]
  by_cases hn0:n=0
  ·refine ⟨n,List.mem_cons_self,?_⟩
   have:=(tree_node h).2.2.1 x (by rw [hn0] at hx;exact hx)
   unfold fromOf
   rw [hx]
   exact this.2
  ·have hp2:=hp.2.2 (by omega)
   obtain ⟨m,hm,hf⟩:=way_root h k x.Parent hp2 (by omega) (by omega)
   exact ⟨m,List.mem_cons_of_mem _ hm,hf⟩
theorem way_in {l:List TNode} (h:treeB l=true):∀(k:Nat) (n:Int),n<l.length→∀m∈wayL l k n,0≤m∧m<l.length
 | 0,n,_,m,hm=>by cases hm
 | k+1,n,hn,m,hm=>by
  rw [wayL_s] at hm
  split at hm
  ·cases hm
  ·rename_i h0
   rcases List.mem_cons.1 hm with rfl | hm
   ·exact ⟨by omega,hn⟩
   ·obtain ⟨x,hx⟩:∃x,l[n.toNat]?=some x:=⟨_,List.getElem?_eq_getElem (show n.toNat<l.length by omega)⟩
    have hp:=tree_parent h hx
    rw [hx] at hm
    exact way_in h k x.Parent (by omega) m hm
theorem leaf_in {l:List TNode} {n:Int} (h:leafB l n=true):0≤n∧n<l.length:=by
 unfold leafB at h
 simp only [Bool.and_eq_true,inB,decide_eq_true_eq] at h
 omega
theorem find_at59 {α:Type} (p:α→Bool):∀(L:List α) (k:Nat) (x:α),L[k]?=some x→p x=true→(∀y∈L.take k,p y=false)→L.find? p=some x
 | [],k,x,h,_,_=>by simp at h
 | a::r,0,x,h,hp,_=>by
  simp at h
  subst h
  rw [List.find?_cons,hp]
 | a::r,k+1,x,h,hp,ha=>by
  rw [List.find?_cons,ha a (by simp)]
  exact find_at59 p r k x (by simpa using h) hp (fun y hy=>ha y (by rw [List.take_succ_cons];exact List.mem_cons_of_mem _ hy))
set_option maxRecDepth 4000 in
theorem fc_At (l:List TNode) (leaf minute:Int) {xs:List PV} (hx:xs=encNodes l) (hl:l.length≤1000000):CallsPV Tryz.prog 41 [.list 3 xs,.int .i64 leaf,.int .i64 minute] (.tup [.int .i64 (if atE l leaf minute=0 then atL l leaf minute else 0),.int .i64 (atE l leaf minute)]):=by
 refine callsPV_by (clo:=fun _=>false) (rows:=false) env_ok Tryz.func41 rfl (enters_of Tryz.func41 (by kernel_rfl) rfl) (fun A q P Y hr hA hq=>?_)
 have hck:=fc_Check l hx hl
 unfold treeE at hck
 have hlf:=fc_isLeaf l leaf hx hl
 have hway:=fc_way leaf xs
 have hat:atE l leaf minute=if treeB l&&leafB l leaf&&decide (0≤minute) then 0 else 180:=rfl
 have hbad:atE l leaf minute=180→PV.tup [.int .i64 0,.int .i64 180]=q:=fun h=>by rw [←hq,h];rfl
 cases hb:treeB l with
 | false =>
  rw [hb] at hck hat
  have hck:CallsPV Tryz.prog 96 [.list 3 xs] (.int .i64 180):=hck
  conv=>cbv
  refine call_intro hA (hck) ?_
  conv=>cbv
  split
  rotate_left
  ·rename_i hc
   cases ((show False by have h9:(180:Int)=0:=neF hA hc;omega))
  conv=>cbv
  exact hbad hat
 | true =>
  rw [hb,Bool.true_and] at hat
  rw [hb] at hck
  have hck:CallsPV Tryz.prog 96 [.list 3 xs] (.int .i64 0):=hck
  obtain ⟨b,hb2⟩:∃b,b=leafB l leaf:=⟨_,rfl⟩
  rw [←hb2] at hlf hat
  conv=>cbv
  refine call_intro hA (hck) ?_
  conv=>cbv
  split
  ·rename_i hc
   cases (neT hA hc rfl)
  conv=>cbv
  refine call_intro hA (hlf) ?_
  conv=>cbv
  split
  ·rename_i hc
   have hbf:b=false:=notT hA hc
   conv=>cbv
   exact hbad (by rw [hat,hbf];rfl)
  rename_i hc
  have hbt:b=true:=notF hA hc
  rw [hbt] at hb2 hat
  have hlin:=leaf_in hb2.symm
  conv=>cbv
  split
  ·rename_i hc
   have g:minute<0:=ltT hA hc
   conv=>cbv
   exact hbad (by rw [hat,decide_eq_false (show ¬0≤minute by omega)];rfl)
  rename_i hc
  have g:0≤minute:=ltF hA hc
  rw [decide_eq_true g] at hat
  have hat:atE l leaf minute=0:=hat
  have hgood:∀n,(wayL l 33 leaf).find? (fun n=>decide (fromOf l n≤minute))=some n→PV.tup [.int .i64 n,.int .i64 0]=q:=fun n h=>by
   rw [←hq,hat,if_pos rfl]
   unfold atL
   rw [h];rfl
  have hroot:=way_root hb (leaf.toNat+1) leaf hlin.1 (by omega) hlin.2
  have hseq:=fc_way1 l hb leaf hlin.2 hx
  have hin:∀m∈wayL l 33 leaf,0≤m∧m<l.length:=fun m hm=>way_in hb 33 leaf hlin.2 m hm
  conv=>cbv
  refine call_intro hA (hway) ?_
  conv=>cbv
  refine rng_intro hA hseq (fun x hx=>?_) (fun (y:Unit) s=>s) (fun k y=>∀m∈(wayL l 33 leaf).take k,decide (fromOf l m≤minute)=false) () (fun _=>rfl) ?_ ?_ ?_ ?_
  ·obtain ⟨o,_,rfl⟩:=List.mem_map.1 hx;rfl
  ·exact Wk.refl _
  ·intro m hm;simp at hm
  ·intro R k y x hxk hinv hR
   rw [List.getElem?_map,Option.map_eq_some_iff] at hxk
   obtain ⟨m,hm,rfl⟩:=hxk
   have hmi:=hin m (List.mem_of_getElem? hm)
   obtain ⟨n,hn0⟩:∃n,l[m.toNat]?=some n:=⟨_,List.getElem?_eq_getElem (show m.toNat<l.length by omega)⟩
   have hfo:fromOf l m=n.From:=by unfold fromOf;rw [hn0];rfl
   conv=>cbv
   refine ⟨draw_intro hA (by kernel_rfl),?_⟩
   refine idx_Node hA hx hmi.1 hmi.2 (fun z v hz hv=>?_)
   obtain rfl:=Option.some.inj (hn0.symm.trans hz)
   clear hz hv
   conv=>cbv
   split
   ·rename_i hc
    have g2:n.From≤minute:=leT hA hc
    conv=>cbv
    exact hgood m (find_at59 _ _ k m hm (by rw [hfo];exact decide_eq_true g2) hinv)
   ·rename_i hc
    have g2:minute<n.From:=leF hA hc
    conv=>cbv
    refine hR () _ (Wk.refl _) (fun y hy=>?_)
    rw [List.take_add_one,hm,List.mem_append] at hy
    rcases hy with hy | hy
    ·exact hinv y hy
    ·simp at hy
     subst hy
     rw [hfo]
     exact decide_eq_false (by omega)
  ·intro y hinv
   rw [List.length_map,List.take_length] at hinv
   obtain ⟨m,hm,hf⟩:=hroot
   have:=hinv m hm
   rw [hf,decide_eq_true g] at this
   cases this
end Go.Abs
namespace Go.Abs
open Go.RowKit Go.Proofs
def lessTo (l:List TNode) (leaf:Int) (a:Bool) (i m:Int) (k:Nat):Int:=(((wayL l 33 leaf).take k).map fun n=>match l[n.toNat]? with | some x=>lessC a i m x.Cuts | none=>0).sum
theorem lessC_snoc (a:Bool) (i m:Int) (cs:List TCut) (c:TCut):lessC a i m (cs++[c])=lessC a i m cs+if cutHit a i m c then c.Less else 0:=by
 simp [lessC]
theorem wayL_len (l:List TNode):∀(k:Nat) (n:Int),(wayL l k n).length≤k
 | 0,_=>Nat.le_refl _
 | k+1,n=>by
  rw [wayL_s]
  split
  ·simp
  ·split
   ·have:=wayL_len l k (by assumption:TNode).Parent
    simp;omega
   ·simp
theorem tree_cuts {l:List TNode} (h:treeB l=true) {n:Nat} {x:TNode} (hx:l[n]?=some x):x.Cuts.length≤64∧∀c∈x.Cuts,0≤c.Less∧c.Less≤64:=by
 have h1:=(tree_node h).2.2.2 n x hx
 unfold nodeB cutsOk at h1
 simp only [Bool.and_eq_true,List.all_eq_true,decide_eq_true_eq] at h1
 refine ⟨h1.1.2,fun c hc=>?_⟩
 have h2:=h1.1.1 c hc
 unfold tcutOk at h2
 simp only [Bool.and_eq_true,inB,decide_eq_true_eq] at h2
 omega
theorem lessC_le (a:Bool) (i m:Int):∀(cs:List TCut),(∀c∈cs,0≤c.Less∧c.Less≤64)→0≤lessC a i m cs∧lessC a i m cs≤64*cs.length
 | [],_=>by simp [lessC]
 | c::r,h=>by
  have h1:=lessC_le a i m r fun y hy=>h y (by simp [hy])
  have h2:=h c (by simp)
  have e:lessC a i m (c::r)=(if cutHit a i m c then c.Less else 0)+lessC a i m r:=by simp [lessC]
  rw [e,List.length_cons]
  split<;>omega
set_option maxRecDepth 4000 in
set_option maxHeartbeats 1000000 in
theorem fc_Less (l:List TNode) (leaf:Int) (a:Bool) (i m:Int) {xs:List PV} (hx:xs=encNodes l) (hl:l.length≤1000000) :
  CallsPV Tryz.prog 42 [.list 3 xs,.int .i64 leaf,.bool a,.int .i64 i,.int .i64 m] (.tup [.int .i64 (if lessE l leaf=0 then lessL l leaf a i m else 0),.int .i64 (lessE l leaf)]):=by
 refine callsPV_by (clo:=fun _=>false) (rows:=false) env_ok Tryz.func42 rfl (enters_of Tryz.func42 (by kernel_rfl) rfl) (fun A q P Y hr hA hq=>?_)
 have hck:=fc_Check l hx hl
 unfold treeE at hck
 have hlf:=fc_isLeaf l leaf hx hl
 have hway:=fc_way leaf xs
 have hat:lessE l leaf=if treeB l&&leafB l leaf then 0 else 180:=rfl
 have hbad:lessE l leaf=180→PV.tup [.int .i64 0,.int .i64 180]=q:=fun h=>by rw [←hq,h];rfl
 cases hb:treeB l with
 | false =>
  rw [hb] at hck hat
  have hck:CallsPV Tryz.prog 96 [.list 3 xs] (.int .i64 180):=hck
  conv=>cbv
  refine call_intro hA (hck) ?_
  conv=>cbv
  split
  rotate_left
  ·rename_i hc
   cases ((show False by have h9:(180:Int)=0:=neF hA hc;omega))
  conv=>cbv
  exact hbad hat
 | true =>
  rw [hb,Bool.true_and] at hat
  rw [hb] at hck
  have hck:CallsPV Tryz.prog 96 [.list 3 xs] (.int .i64 0):=hck
  obtain ⟨b,hb2⟩:∃b,b=leafB l leaf:=⟨_,rfl⟩
  rw [←hb2] at hlf hat
  conv=>cbv
  refine call_intro hA (hck) ?_
  conv=>cbv
  split
  ·rename_i hc
   cases (neT hA hc rfl)
  conv=>cbv
  refine call_intro hA (hlf) ?_
  conv=>cbv
  split
  ·rename_i hc
   have hbf:b=false:=notT hA hc
   conv=>cbv
   exact hbad (by rw [hat,hbf];rfl)
  rename_i hc
  have hbt:b=true:=notF hA hc
  rw [hbt] at hb2 hat
  have hlin:=leaf_in hb2.symm
  have hat:lessE l leaf=0:=hat
  rw [hat,if_pos rfl] at hq
  have hseq:=fc_way1 l hb leaf hlin.2 hx
  have hin:∀m∈wayL l 33 leaf,0≤m∧m<l.length:=fun m hm=>way_in hb 33 leaf hlin.2 m hm
  have hto:lessTo l leaf a i m (wayL l 33 leaf).length=lessL l leaf a i m:=by unfold lessL lessTo;rw [List.take_length]<;>rfl
  rw [←hto] at hq
  have hwl:=wayL_len l 33 leaf
  conv=>cbv
  refine call_intro hA (hway) ?_
  conv=>cbv
  refine rng_intro hA hseq (fun x hx=>?_) (fun (y:Int) s=>{ s with bx:=s.bx.set 4 (some [.val (.int .i64 y)]) }) (fun k y=>y=lessTo l leaf a i m k∧0≤y∧y≤4096*k) 0 (fun _=>rfl) ?_ ?_ ?_ ?_
  ·obtain ⟨o,_,rfl⟩:=List.mem_map.1 hx;rfl
  ·exact Wk.refl _
  ·exact ⟨by simp [lessTo],Int.le_refl _,by omega⟩
  ·rintro R k y x hxk ⟨hy,hy0,hy1⟩ hR
   rw [List.getElem?_map,Option.map_eq_some_iff] at hxk
   obtain ⟨mm,hm,rfl⟩:=hxk
   have hmi:=hin mm (List.mem_of_getElem? hm)
   obtain ⟨n,hn0⟩:∃n,l[mm.toNat]?=some n:=⟨_,List.getElem?_eq_getElem (show mm.toNat<l.length by omega)⟩
   obtain ⟨hcl,hcs⟩:=tree_cuts hb hn0
   have hk33:k<33:=by have:=(List.getElem?_eq_some_iff.1 hm).1;omega
   have hstep:lessTo l leaf a i m (k+1)=y+lessC a i m n.Cuts:=by
    unfold lessTo at hy ⊢
    rw [List.take_add_one,hm,Option.toList_some,List.map_append,List.sum_append,←hy]
    simp [hn0]
   have hall:=lessC_le a i m n.Cuts hcs
   conv=>cbv
   refine idx_Node hA hx hmi.1 hmi.2 (fun z cs hz hv=>?_)
   obtain rfl:=Option.some.inj (hn0.symm.trans hz)
   clear hz
   have hcsl:cs.length=n.Cuts.length:=by rw [hv];simp [encCuts]
   conv=>cbv
   refine loop_set hA (fun (z:Int × Int) s=>{ s.put (some 35) (.val (.int .i64 z.1)) with bx:=s.bx.set 4 (some [.val (.int .i64 z.2)]) }) (fun z=>0≤z.1∧z.1≤n.Cuts.length∧z.2=y+lessC a i m (n.Cuts.take z.1.toNat)) (fun z=>(n.Cuts.length - z.1).toNat) (0,y) ?_ ?_ ?_
   ·conv=>cbv
    exact wk_sl (by repeat (first | refine leL_same ?_ | refine leL_any ?_ | exact leL_nil))
   ·exact ⟨Int.le_refl _,by omega,by simp [lessC]⟩
   rintro R2 ⟨j,w⟩ ⟨hj0,hj1,hw⟩ hR2
   simp only at hj0 hj1 hw
   conv=>cbv
   split
   ·rename_i hc
    have hj:j<n.Cuts.length:=ltT' hA rfl (lenI hA hcsl) hc
    have hjs:A.iAdd j 1=j+1:=addI hA _ _
    have hjr:A.inR (A.iAdd j 1):=inR' hA hjs (by unfold inI64;omega)
    obtain ⟨c,hc0⟩:∃c,n.Cuts[j.toNat]?=some c:=⟨_,List.getElem?_eq_getElem (show j.toNat<n.Cuts.length by omega)⟩
    have htk:=take_snoc' hj0 hc0
    have hpre:=lessC_le a i m (n.Cuts.take j.toNat) fun z hz=>hcs z (List.mem_of_mem_take hz)
    have hpl:(n.Cuts.take j.toNat).length≤n.Cuts.length:=by rw [List.length_take];omega
    have hcc:=hcs c (List.mem_of_getElem? hc0)
    have hnx:∀w',w'=w+(if cutHit a i m c then c.Less else 0)→0≤A.iAdd j 1∧A.iAdd j 1≤n.Cuts.length∧w'=y+lessC a i m (n.Cuts.take (A.iAdd j 1).toNat):=fun w' h=>by
     rw [hjs,htk,lessC_snoc,h,hw]
     omega
    have hmu:(n.Cuts.length - A.iAdd j 1).toNat<(n.Cuts.length - j).toNat:=by rw [hjs];omega
    conv=>cbv
    refine idx_Cut hA hv hj0 hj (fun z hz=>?_)
    obtain rfl:=Option.some.inj (hc0.symm.trans hz)
    clear hz
    obtain ⟨c1,c2,⟨c3,c4⟩,c5⟩:=c
    have hH:cutHit a i m ⟨c1,c2,⟨c3,c4⟩,c5⟩=(decide (c1=a)&&decide (c2=i)&&decide (c3≤m)&&decide (m<c4)):=rfl
    rw [hH] at hnx
    simp only at hcc hnx
    conv=>cbv
    split
    ·rename_i hc
     have g1:c1=a:=beqT hA hc
     conv=>cbv
     split
     ·rename_i hc
      have g2:c2=i:=eqT hA hc
      conv=>cbv
      split
      ·rename_i hc
       have g3:c3≤m:=leT hA hc
       conv=>cbv
       split
       ·rename_i hc
        have g4:m<c4:=ltT hA hc
        have hws:A.iAdd w c5=w+c5:=addI hA _ _
        conv=>cbv
        refine ⟨inR' hA hws (by unfold inI64;omega),hjr,hR2 (A.iAdd j 1,A.iAdd w c5) _ ?_ (hnx _ (by rw [decide_eq_true g1,decide_eq_true g2,decide_eq_true g3,decide_eq_true g4,hws];simp)) hmu⟩
        (conv=>cbv)
        exact wk_round (bx:=[_,_,_,_,_]) (bx':=[_]) (mp:=[]) (mp':=[]) (by repeat (first | refine leL_same ?_ | refine leL_any ?_ | exact leL_nil)) (by simp) (by simp) rfl rfl
       ·rename_i hc
        have g4:=ltF hA hc
        conv=>cbv
        refine ⟨hjr,hR2 (A.iAdd j 1,w) _ ?_ (hnx _ (by rw [decide_eq_false (show ¬m<c4 by omega)];simp)) hmu⟩
        (conv=>cbv)
        exact wk_round (bx:=[_,_,_,_,_]) (bx':=[_]) (mp:=[]) (mp':=[]) (by repeat (first | refine leL_same ?_ | refine leL_any ?_ | exact leL_nil)) (by simp) (by simp) rfl rfl
      ·rename_i hc
       have g3:=leF hA hc
       conv=>cbv
       refine ⟨hjr,hR2 (A.iAdd j 1,w) _ ?_ (hnx _ (by rw [decide_eq_false (show ¬c3≤m by omega)];simp)) hmu⟩
       (conv=>cbv)
       exact wk_round (bx:=[_,_,_,_,_]) (bx':=[_]) (mp:=[]) (mp':=[]) (by repeat (first | refine leL_same ?_ | refine leL_any ?_ | exact leL_nil)) (by simp) (by simp) rfl rfl
     ·rename_i hc
      have g2:c2≠i:=eqF hA hc
      conv=>cbv
      refine ⟨hjr,hR2 (A.iAdd j 1,w) _ ?_ (hnx _ (by rw [decide_eq_false g2];simp)) hmu⟩
      (conv=>cbv)
      exact wk_round (bx:=[_,_,_,_,_]) (bx':=[_]) (mp:=[]) (mp':=[]) (by repeat (first | refine leL_same ?_ | refine leL_any ?_ | exact leL_nil)) (by simp) (by simp) rfl rfl
    ·rename_i hc
     have g1:c1≠a:=beqF hA hc
     conv=>cbv
     refine ⟨hjr,hR2 (A.iAdd j 1,w) _ ?_ (hnx _ (by rw [decide_eq_false g1];simp)) hmu⟩
     (conv=>cbv)
     exact wk_round (bx:=[_,_,_,_,_]) (bx':=[_]) (mp:=[]) (mp':=[]) (by repeat (first | refine leL_same ?_ | refine leL_any ?_ | exact leL_nil)) (by simp) (by simp) rfl rfl
   ·rename_i hc
    have hj:(n.Cuts.length:Int)≤j:=ltF' hA rfl (lenI hA hcsl) hc
    rw [List.take_of_length_le (by omega)] at hw
    conv=>cbv
    refine hR w _ ?_ ⟨by rw [hw,hstep],by omega,by omega⟩
    conv=>cbv
    exact wk_sl (by repeat (first | refine leL_same ?_ | refine leL_any ?_ | exact leL_nil))
  ·rintro y ⟨hy,_,_⟩
   rw [List.length_map] at hy
   conv=>cbv
   rw [←hq,hy]
end Go.Abs
namespace Go.Abs
open Go.RowKit Go.Proofs
theorem snoc_ind {α:Type} {P:List α→Prop} (h0:P []) (h1:∀l a,P l→P (l++[a])) (l:List α):P l:=by
 have h:∀l:List α,P l.reverse:=fun l=>by
  induction l with
  | nil=>exact h0
  | cons x r ih=>rw [List.reverse_cons];exact h1 _ _ ih
 have:=h l.reverse
 rwa [List.reverse_reverse] at this
def grpAdd (nd:Int→Int) (s:List Int × List (List Int)) (n:Int):List Int × List (List Int) :=
 if nd n∈s.1 then (s.1,s.2.modify (s.1.idxOf (nd n)) (·++[n])) else (s.1++[nd n],s.2++[[n]])
def grpF (nd:Int→Int) (l:List Int):List Int × List (List Int):=l.foldl (grpAdd nd) ([],[])
theorem grpF_snoc (nd:Int→Int) (l:List Int) (n:Int):grpF nd (l++[n])=grpAdd nd (grpF nd l) n:=by simp [grpF,List.foldl_append]
theorem grpAdd_len {nd:Int→Int} {s:List Int × List (List Int)} {n:Int} (h:s.1.length=s.2.length):(grpAdd nd s n).1.length=(grpAdd nd s n).2.length:=by
 unfold grpAdd
 split
 ·simp [h]
 ·simp [h]
theorem grpF_len (nd:Int→Int) (l:List Int):(grpF nd l).1.length=(grpF nd l).2.length:=by
 unfold grpF
 have:∀(l:List Int) (s:List Int × List (List Int)),s.1.length=s.2.length→(l.foldl (grpAdd nd) s).1.length=(l.foldl (grpAdd nd) s).2.length:=by
  intro l
  induction l with
  | nil=>intro s h;exact h
  | cons x r ih=>intro s h;exact ih _ (grpAdd_len h)
 exact this l _ rfl
theorem grpF_le (nd:Int→Int) (l:List Int):(grpF nd l).2.length≤l.length∧∀g∈(grpF nd l).2,g.length≤l.length:=by
 refine snoc_ind (P:=fun l=>(grpF nd l).2.length≤l.length∧∀g∈(grpF nd l).2,g.length≤l.length) ?_ ?_ l
 ·simp [grpF]
 ·intro l n ih
  rw [grpF_snoc]
  unfold grpAdd
  split
  ·simp only [List.length_modify,List.length_append,List.length_singleton]
   refine ⟨by omega,fun g hg=>?_⟩
   obtain ⟨k,hk⟩:=List.mem_iff_getElem?.1 hg
   rw [List.getElem?_modify,Option.map_eq_map,Option.map_eq_some_iff] at hk
   obtain ⟨x,hx,rfl⟩:=hk
   have:=ih.2 x (List.mem_of_getElem? hx)
   split<;>simp<;>omega
  ·simp only [List.length_append,List.length_singleton]
   refine ⟨by omega,fun g hg=>?_⟩
   rcases List.mem_append.1 hg with h | h
   ·have:=ih.2 g h;omega
   ·rw [List.mem_singleton] at h;subst h;simp
theorem grpF_nodup (nd:Int→Int) (l:List Int):(grpF nd l).1.Nodup:=by
 refine snoc_ind (P:=fun l=>(grpF nd l).1.Nodup) ?_ ?_ l
 ·simp [grpF]
 ·intro l n ih
  rw [grpF_snoc]
  unfold grpAdd
  split
  ·exact ih
  ·rename_i h
   show ((grpF nd l).1++[nd n]).Nodup
   rw [List.nodup_append]
   exact ⟨ih,by simp,fun a ha b hb=>by rw [List.mem_singleton] at hb;subst hb;intro e;subst e;exact h ha⟩
def leavesOk (l:List TNode) (leaves:List Int):Bool:=!leaves.isEmpty&&(leaves.all fun n=>decide (n∈leavesL l))&&decide (leaves.Pairwise (· < ·))
def groupsE (l:List TNode) (leaves:List Int):Int:=if treeB l then (if leavesOk l leaves then 0 else 210) else 180
def decidedF (from_:Int):Int:=if from_<30 then 0 else from_ - 30
def nodeOf (l:List TNode) (d now:Int) (n:Int):Int:=if now<d then (if atE l n d=0 then atL l n d else 0) else 0
def groupsL (l:List TNode) (leaves:List Int) (d now:Int):List (List Int):=(grpF (nodeOf l d now) leaves).2
theorem leavesL_sorted (l:List TNode):(leavesL l).Pairwise (· < ·):=by
 unfold leavesL
 refine List.Pairwise.sublist List.filter_sublist ?_
 rw [List.pairwise_map]
 exact List.pairwise_lt_range.imp fun h=>Int.ofNat_lt.2 h
theorem mem_leavesL {l:List TNode} {n:Int}:n∈leavesL l↔leafB l n=true:=by
 unfold leavesL
 rw [List.mem_filter,List.mem_map]
 constructor
 ·exact fun h=>h.2
 ·intro h
  refine ⟨?_,h⟩
  have h2:=h
  unfold leafB at h2
  simp only [Bool.and_eq_true,inB,decide_eq_true_eq] at h2
  exact ⟨n.toNat,List.mem_range.2 (by omega),by omega⟩
theorem leavesL_len (l:List TNode):(leavesL l).length≤l.length:=by
 unfold leavesL
 refine Nat.le_trans (List.length_filter_le _ _) ?_
 simp
theorem sorted_len:∀{l:List Int} {a b:Int},a≤b→l.Pairwise (· < ·)→(∀x∈l,a≤x∧x<b)→(l.length:Int)≤b - a
 | [],a,b,h,_,_=>by simp;omega
 | x::r,a,b,hab,h,hm=>by
  have h1:=List.pairwise_cons.1 h
  have h3:=hm x (by simp)
  have h2:=sorted_len (a:=x+1) (b:=b) (by omega) h1.2 fun y hy=>⟨by have:=h1.1 y hy;omega,(hm y (by simp [hy])).2⟩
  rw [List.length_cons]
  omega
theorem grpF_same {nd:Int→Int} {l:List Int} (h:l≠[]) (v:Int) (hn:∀n∈l,nd n=v):grpF nd l=([v],[l]):=by
 have:∀(r a:List Int),(∀n∈r,nd n=v)→r.foldl (grpAdd nd) ([v],[a])=([v],[a++r]):=by
  intro r
  induction r with
  | nil=>intro a _;simp
  | cons x r ih =>
   intro a hr
   rw [List.foldl_cons]
   have hx:=hr x (by simp)
   have:grpAdd nd ([v],[a]) x=([v],[a++[x]]):=by
    unfold grpAdd
    rw [hx]
    simp
   rw [this,ih _ fun n hn=>hr n (by simp [hn])]
   simp
 cases l with
 | nil=>exact absurd rfl h
 | cons x r =>
  unfold grpF
  rw [List.foldl_cons]
  have hx:=hn x (by simp)
  have e:grpAdd nd ([],[]) x=([v],[[x]]):=by unfold grpAdd;simp [hx]
  rw [e,this r [x] fun n h=>hn n (by simp [h])]
  rfl
end Go.Abs
namespace Go.Abs
open Go.RowKit Go.Proofs
theorem grpF_mem (nd:Int→Int) (l:List Int) (v:Int):v∈(grpF nd l).1↔∃n∈l,nd n=v:=by
 refine snoc_ind (P:=fun l=>v∈(grpF nd l).1↔∃n∈l,nd n=v) ?_ ?_ l
 ·simp [grpF]
 ·intro l n ih
  rw [grpF_snoc]
  unfold grpAdd
  split
  ·rename_i h
   show v∈(grpF nd l).1↔_
   rw [ih]
   constructor
   ·rintro ⟨m,hm,rfl⟩
    exact ⟨m,by simp [hm],rfl⟩
   ·rintro ⟨m,hm,rfl⟩
    rcases List.mem_append.1 hm with hm | hm
    ·exact ⟨m,hm,rfl⟩
    ·rw [List.mem_singleton] at hm
     subst hm
     exact ih.1 h
  ·show v∈(grpF nd l).1++[nd n]↔_
   rw [List.mem_append,ih,List.mem_singleton]
   constructor
   ·rintro (⟨m,hm,rfl⟩ | rfl)
    ·exact ⟨m,by simp [hm],rfl⟩
    ·exact ⟨n,by simp,rfl⟩
   ·rintro ⟨m,hm,rfl⟩
    rcases List.mem_append.1 hm with hm | hm
    ·exact .inl ⟨m,hm,rfl⟩
    ·rw [List.mem_singleton] at hm
     subst hm
     exact .inr rfl
theorem grpF_get (nd:Int→Int) (l:List Int):(grpF nd l).2=(grpF nd l).1.map fun v=>l.filter fun n=>decide (nd n=v):=by
 refine snoc_ind (P:=fun l=>(grpF nd l).2=(grpF nd l).1.map fun v=>l.filter fun n=>decide (nd n=v)) ?_ ?_ l
 ·simp [grpF]
 ·intro l n ih
  have hnod:=grpF_nodup nd l
  have hmem:=grpF_mem nd l
  rw [grpF_snoc]
  generalize grpF nd l=s at ih hnod hmem
  obtain ⟨N,G⟩:=s
  simp only at ih hnod hmem
  unfold grpAdd
  split
  ·rename_i h
   simp only at h ⊢
   apply List.ext_getElem?
   intro i
   rw [List.getElem?_modify,ih,List.getElem?_map,List.getElem?_map]
   cases hi:N[i]? with
   | none=>rfl
   | some v =>
    simp only [Option.map_some,List.filter_append,Option.some.injEq]
    obtain ⟨hil,hiv⟩:=List.getElem?_eq_some_iff.1 hi
    have hix:N.idxOf (nd n)=i↔nd n=v:=by
     constructor
     ·intro e
      subst e
      rw [←hiv,List.getElem_idxOf]
     ·intro e
      rw [e,←hiv]
      exact hnod.idxOf_getElem i hil
    by_cases e:nd n=v
    ·have h3:=hix.2 e
     simp only [h3,if_true,Option.map_eq_map,Option.map_some]
     simp [e]
    ·have:¬N.idxOf (nd n)=i:=fun h=>e (hix.1 h)
     simp [this,e]
  ·rename_i h
   simp only at h ⊢
   rw [List.map_append,ih]
   congr 1
   ·refine List.map_congr_left fun v hv=>?_
    have:nd n≠v:=fun e=>h (e▸hv)
    simp [List.filter_append,this]
   ·have:l.filter (fun m=>decide (nd m=nd n))=[]:=by
     rw [List.filter_eq_nil_iff]
     intro m hm
     have:nd m≠nd n:=fun e=>h ((hmem (nd n)).2 ⟨m,hm,e⟩)
     simpa using this
    simp [List.filter_append,this]
theorem grpF_at (nd:Int→Int) {l:List Int} (hs:l.Pairwise (· < ·)) {x:Int} (hx:x∈l) :
  ∃(i j:Nat) (g:List Int),i=(grpF nd l).1.idxOf (nd x)∧(grpF nd l).2[i]?=some g∧g[j]?=some x∧∀(a b:Nat) (h:List Int),(grpF nd l).2[a]?=some h→h[b]?=some x→a=i∧b=j:=by
 have hn:=(grpF_mem nd l (nd x)).2 ⟨x,hx,rfl⟩
 have hnod:=grpF_nodup nd l
 have hil:=List.idxOf_lt_length_of_mem hn
 rw [grpF_get]
 have hg:((grpF nd l).1.map fun v=>l.filter fun n=>decide (nd n=v))[(grpF nd l).1.idxOf (nd x)]?=some (l.filter fun n=>decide (nd n=nd x)):=by
  rw [List.getElem?_map,List.getElem?_eq_getElem hil,List.getElem_idxOf]
  rfl
 have hxg:x∈l.filter fun n=>decide (nd n=nd x):=List.mem_filter.2 ⟨hx,by simp⟩
 obtain ⟨j,hj⟩:=List.mem_iff_getElem?.1 hxg
 refine ⟨_,j,_,rfl,hg,hj,fun a b h ha hb=>?_⟩
 have hnl:∀v,(l.filter fun n=>decide (nd n=v)).Pairwise (· < ·):=fun v=>hs.sublist List.filter_sublist
 have hai:a=(grpF nd l).1.idxOf (nd x):=by
  rw [List.getElem?_map,Option.map_eq_some_iff] at ha
  obtain ⟨v,hv,rfl⟩:=ha
  have h2:=(List.mem_filter.1 (List.mem_of_getElem? hb)).2
  rw [decide_eq_true_eq] at h2
  obtain ⟨hal,hav⟩:=List.getElem?_eq_some_iff.1 hv
  rw [h2,←hav]
  exact (hnod.idxOf_getElem a hal).symm
 refine ⟨hai,?_⟩
 rw [hai,hg] at ha
 cases ha
 obtain ⟨b1,b2⟩:=List.getElem?_eq_some_iff.1 hb
 obtain ⟨j1,j2⟩:=List.getElem?_eq_some_iff.1 hj
 have hp:=List.pairwise_iff_getElem.1 (hnl (nd x))
 rcases Nat.lt_trichotomy b j with h1 | h1 | h1
 ·have:=hp b j b1 j1 h1;omega
 ·exact h1
 ·have:=hp j b j1 b1 h1;omega
theorem grpF_sum (nd:Int→Int) (l:List Int):((grpF nd l).2.map List.length).sum=l.length:=by
 have key:∀(G:List (List Int)) (k:Nat) (n:Int),k<G.length→((G.modify k (·++[n])).map List.length).sum=(G.map List.length).sum+1:=by
  intro G
  induction G with
  | nil=>intro k n h;simp at h
  | cons g r ih =>
   intro k n h
   cases k with
   | zero=>simp;omega
   | succ k =>
    simp only [List.modify_succ_cons,List.map_cons,List.sum_cons,ih k n (by simpa using h)]
    omega
 refine snoc_ind (P:=fun l=>((grpF nd l).2.map List.length).sum=l.length) ?_ ?_ l
 ·simp [grpF]
 ·intro l n ih
  have hl:=grpF_len nd l
  rw [grpF_snoc]
  unfold grpAdd
  split
  ·rename_i h
   show (((grpF nd l).2.modify _ (·++[n])).map List.length).sum=_
   rw [key _ _ _ (by rw [←hl];exact List.idxOf_lt_length_of_mem h),ih]
   simp
  ·show (((grpF nd l).2++[[n]]).map List.length).sum=_
   rw [List.map_append,List.sum_append,ih]
   simp
theorem grpF_order (nd:Int→Int) (l:List Int):l.Pairwise (· < ·)→(∀g∈(grpF nd l).2,g≠[]∧∀x∈g,x∈l)∧((grpF nd l).2.map fun g=>g.headD 0).Pairwise (· < ·)∧∀g∈(grpF nd l).2,g.Pairwise (· < ·):=by
 intro hs
 have h0:∀g∈(grpF nd l).2,g≠[]∧∀x∈g,x∈l:=by
  intro g hg
  rw [grpF_get] at hg
  obtain ⟨v,hv,rfl⟩:=List.mem_map.1 hg
  obtain ⟨n,hn,e⟩:=(grpF_mem nd l v).1 hv
  refine ⟨fun h=>?_,fun x hx=>(List.mem_filter.1 hx).1⟩
  rw [List.filter_eq_nil_iff] at h
  exact h n hn (by simp [e])
 refine ⟨h0,?_,?_⟩
 ·have:∀l:List Int,l.Pairwise (· < ·)→(∀g∈(grpF nd l).2,g≠[]∧∀x∈g,x∈l)→((grpF nd l).2.map fun g=>g.headD 0).Pairwise (· < ·):=by
   intro l
   refine snoc_ind (P:=fun l=>l.Pairwise (· < ·)→(∀g∈(grpF nd l).2,g≠[]∧∀x∈g,x∈l)→((grpF nd l).2.map fun g=>g.headD 0).Pairwise (· < ·)) ?_ ?_ l
   ·intro _ _;simp [grpF]
   ·intro l n ih hs _
    have hs2:=List.pairwise_append.1 hs
    have h1:∀g∈(grpF nd l).2,g≠[]∧∀x∈g,x∈l:=by
     intro g hg
     rw [grpF_get] at hg
     obtain ⟨v,hv,rfl⟩:=List.mem_map.1 hg
     obtain ⟨n,hn,e⟩:=(grpF_mem nd l v).1 hv
     refine ⟨fun h=>?_,fun x hx=>(List.mem_filter.1 hx).1⟩
     rw [List.filter_eq_nil_iff] at h
     exact h n hn (by simp [e])
    have ih:=ih hs2.1 h1
    rw [grpF_snoc]
    unfold grpAdd
    split
    ·show (((grpF nd l).2.modify _ (·++[n])).map fun g=>g.headD 0).Pairwise (· < ·)
     have e:((grpF nd l).2.modify ((grpF nd l).1.idxOf (nd n)) (·++[n])).map (fun g=>g.headD 0)=(grpF nd l).2.map fun g=>g.headD 0:=by
      apply List.ext_getElem?
      intro i
      rw [List.getElem?_map,List.getElem?_modify,List.getElem?_map]
      cases hi:(grpF nd l).2[i]? with
      | none=>rfl
      | some g =>
       have:=(h1 g (List.mem_of_getElem? hi)).1
       simp only [Option.map_some,Option.some.injEq]
       cases g with
       | nil=>exact absurd rfl this
       | cons a r=>split<;>rfl
     rw [e]
     exact ih
    ·show (((grpF nd l).2++[[n]]).map fun g=>g.headD 0).Pairwise (· < ·)
     rw [List.map_append,List.pairwise_append]
     refine ⟨ih,by simp,fun a ha b hb=>?_⟩
     obtain ⟨g,hg,rfl⟩:=List.mem_map.1 ha
     simp at hb
     subst hb
     obtain ⟨g1,g2⟩:=h1 g hg
     cases g with
     | nil=>exact absurd rfl g1
     | cons a r=>exact hs2.2.2 a (g2 a (by simp)) b (by simp)
  exact this l hs h0
 ·intro g hg
  rw [grpF_get] at hg
  obtain ⟨v,hv,rfl⟩:=List.mem_map.1 hg
  exact hs.sublist List.filter_sublist
end Go.Abs
namespace Go.Abs
open Go.RowKit Go.Proofs
theorem st_group (G:List (List Int)) (x:Int) (i j:Nat) {g:List Int} (hg:G[i]?=some g) (hx:g[j]?=some x) (hu:∀(a b:Nat) (h:List Int),G[a]?=some h→h[b]?=some x→a=i∧b=j) {xs:List PV} (hxs:xs=encIntLs G) (hG:G.length≤1000000) (hb:∀h∈G,h.length≤1000000) :
  CallsPV Tryz.prog 39 [.int .i64 x,.ptr [.list 1 xs] 0] (.int .i64 i):=by
 refine callsPV_by (clo:=fun _=>false) (rows:=false) env_ok Tryz.func39 rfl (enters_of Tryz.func39 (by kernel_rfl) rfl) (fun A q P Y hr hA hq=>?_)
 have hxl:xs.length=G.length:=by rw [hxs];simp [encIntLs]
 have hiG:=(List.getElem?_eq_some_iff.1 hg).1
 obtain ⟨ii,hii⟩:∃ii:Int,ii=i:=⟨_,rfl⟩
 obtain ⟨jj,hjj⟩:∃jj:Int,jj=j:=⟨_,rfl⟩
 rw [←hii] at hq
 conv=>cbv
 refine loop_set hA (fun (z:Int × Int) s=>(s.put (some 10) (.val (.int .i64 z.1))).put (some 3) (.val (.int .i64 z.2))) (fun z=>0≤z.1∧z.1≤G.length∧z.2=if ii<z.1 then ii else -1) (fun z=>(G.length - z.1).toNat) (0,-1) ?_ ?_ ?_
 ·conv=>cbv
  exact wk_sl (by repeat (first | refine leL_same ?_ | refine leL_any ?_ | exact leL_nil))
 ·exact ⟨Int.le_refl _,by omega,by rw [if_neg (by omega)]⟩
 rintro R ⟨a,at_⟩ ⟨ha0,ha1,hat⟩ hR
 simp only at ha0 ha1 hat
 conv=>cbv
 split
 rotate_left
 ·rename_i hc
  have hge:=ltF' hA rfl (lenI hA hxl) hc
  rw [if_pos (by omega)] at hat
  conv=>cbv
  rw [←hq,hat]
 rename_i hc
 have ha:a<G.length:=ltT' hA rfl (lenI hA hxl) hc
 have has:A.iAdd a 1=a+1:=addI hA _ _
 have har:A.inR (A.iAdd a 1):=inR' hA has (by unfold inI64;omega)
 conv=>cbv
 refine idx_IntL hA hxs ha0 ha (fun h v hh hv=>?_)
 have hvl:v.length=h.length:=by rw [hv];simp [encInts]
 have hhb:=hb h (List.mem_of_getElem? hh)
 conv=>cbv
 refine loop_set hA (fun (z:Int × Int) s=>(s.put (some 17) (.val (.int .i64 z.1))).put (some 3) (.val (.int .i64 z.2))) (fun z=>0≤z.1∧z.1≤h.length∧z.2=if ii<a∨(ii=a∧jj<z.1) then ii else -1) (fun z=>(h.length - z.1).toNat) (0,at_) ?_ ?_ ?_
 ·conv=>cbv
  exact wk_sl (by repeat (first | refine leL_same ?_ | refine leL_any ?_ | exact leL_nil))
 ·refine ⟨Int.le_refl _,by omega,?_⟩
  simp only
  rw [hat]
  by_cases h1:ii<a
  ·rw [if_pos h1,if_pos (.inl h1)]
  ·rw [if_neg h1,if_neg (by omega)]
 rintro R2 ⟨b,at2⟩ ⟨hb0,hb1,hat2⟩ hR2
 simp only at hb0 hb1 hat2
 conv=>cbv
 split
 rotate_left
 ·rename_i hc
  have hge:=ltF' hA rfl (lenI hA hvl) hc
  conv=>cbv
  refine ⟨har,hR (A.iAdd a 1,at2) _ ?_ ⟨by show 0≤A.iAdd a 1;omega,by show A.iAdd a 1≤_;omega,?_⟩ (by show (G.length - A.iAdd a 1).toNat < _;rw [has];omega)⟩
  ·conv=>cbv
   exact wk_sl (by repeat (first | refine leL_same ?_ | refine leL_any ?_ | exact leL_nil))
  ·show at2=if ii<A.iAdd a 1 then ii else -1
   rw [has,hat2]
   by_cases h1:ii=a
   ·have:h=g:=by
     rw [show a.toNat=i by omega,hg] at hh
     exact (Option.some.inj hh).symm
    subst this
    have:=(List.getElem?_eq_some_iff.1 hx).1
    rw [if_pos (.inr ⟨h1,by omega⟩),if_pos (by omega)]
   ·by_cases h2:ii<a
    ·rw [if_pos (.inl h2),if_pos (by omega)]
    ·rw [if_neg (by omega),if_neg (by omega)]
 rename_i hc
 have hbl:b<h.length:=ltT' hA rfl (lenI hA hvl) hc
 have hbs:A.iAdd b 1=b+1:=addI hA _ _
 have hbr:A.inR (A.iAdd b 1):=inR' hA hbs (by unfold inI64;omega)
 have hmu:(h.length - A.iAdd b 1).toNat<(h.length - b).toNat:=by rw [hbs];omega
 conv=>cbv
 refine idx_Int hA hv hb0 hbl (fun y hy=>?_)
 conv=>cbv
 split
 ·rename_i hc
  have hyx:y=x:=eqT hA hc
  rw [hyx] at hy
  obtain ⟨e1,e2⟩:=hu _ _ _ hh hy
  rw [if_neg (by omega)] at hat2
  conv=>cbv
  split
  ·rename_i hc
   cases ((show False by have:=leT hA hc;omega))
  conv=>cbv
  refine ⟨hbr,hR2 (A.iAdd b 1,a) _ ?_ ⟨by show 0≤A.iAdd b 1;omega,by show A.iAdd b 1≤_;omega,?_⟩ hmu⟩
  ·conv=>cbv
   exact wk_sl (by repeat (first | refine leL_same ?_ | refine leL_any ?_ | exact leL_nil))
  ·show a=if ii<a∨(ii=a∧jj<A.iAdd b 1) then ii else -1
   rw [hbs,if_pos (.inr ⟨by omega,by omega⟩)];omega
 ·rename_i hc
  have hyx:y≠x:=eqF hA hc
  have hne:¬(ii=a∧jj=b):=fun ⟨e1,e2⟩=>by
   rw [show a.toNat=i by omega,hg] at hh
   cases hh
   rw [show b.toNat=j by omega,hx] at hy
   exact hyx (Option.some.inj hy).symm
  conv=>cbv
  refine ⟨hbr,hR2 (A.iAdd b 1,at2) _ ?_ ⟨by show 0≤A.iAdd b 1;omega,by show A.iAdd b 1≤_;omega,?_⟩ hmu⟩
  ·conv=>cbv
   exact wk_sl (by repeat (first | refine leL_same ?_ | refine leL_any ?_ | exact leL_nil))
  ·show at2=if ii<a∨(ii=a∧jj<A.iAdd b 1) then ii else -1
   rw [hbs,hat2]
   by_cases h1:ii<a∨(ii=a∧jj<b)
   ·rw [if_pos h1,if_pos (by omega)]
   ·rw [if_neg h1,if_neg (by omega)]
end Go.Abs
namespace Go.Abs
open Go.RowKit Go.Proofs
theorem less_late {l:List TNode} (h:treeB l=true) {n:Nat} {x:TNode} (hx:l[n]?=some x) {d minute:Int} (hd:d<x.From) (hm:minute≤d) (a:Bool) (i:Int):lessC a i minute x.Cuts=0:=by
 have h1:=(tree_node h).2.2.2 n x hx
 unfold nodeB cutsOk at h1
 simp only [Bool.and_eq_true,List.all_eq_true] at h1
 have h2:=h1.1.1
 unfold lessC
 have:∀L:List TCut,(∀c∈L,tcutOk x.From c=true)→(L.map fun c=>if cutHit a i minute c then c.Less else 0).sum=0:=by
  intro L
  induction L with
  | nil=>intro _;rfl
  | cons c r ih =>
   intro hc
   rw [List.map_cons,List.sum_cons,ih fun y hy=>hc y (by simp [hy])]
   have h3:=hc c (by simp)
   unfold tcutOk at h3
   simp only [Bool.and_eq_true,decide_eq_true_eq] at h3
   have:cutHit a i minute c=false:=by
    unfold cutHit
    rw [show decide (c.Minutes.From≤minute)=false by rw [decide_eq_false_iff_not];omega]
    simp
   rw [this]
   simp
 exact this _ h2
theorem lessL_step {l:List TNode} (h:treeB l=true) {n:Int} (h0:0≤n) {x:TNode} (hx:l[n.toNat]?=some x) (a:Bool) (i minute:Int):lessL l n a i minute=lessC a i minute x.Cuts+lessL l x.Parent a i minute:=by
 unfold lessL
 rw [way_step h h0 hx,List.map_cons,List.sum_cons,hx]
theorem told_at {l:List TNode} (h:treeB l=true) {d minute:Int} (hd0:0≤d) (hm:minute≤d) (a:Bool) (i:Int):∀(k:Nat) (n:Int),0≤n→n.toNat<k→n<l.length→lessL l n a i minute=lessL l (atL l n d) a i minute
 | 0,_,_,h,_=>absurd h (Nat.not_lt_zero _)
 | k+1,n,h0,hk,hn=>by
  obtain ⟨x,hx⟩:∃x,l[n.toNat]?=some x:=⟨_,List.getElem?_eq_getElem (show n.toNat<l.length by omega)⟩
  have hp:=tree_parent h hx
  have hfr:fromOf l n=x.From:=by unfold fromOf;rw [hx];rfl
  by_cases hf:x.From≤d
  ·have:atL l n d=n:=by
    unfold atL
    rw [way_step h h0 hx,List.find?_cons,hfr,decide_eq_true hf]
    rfl
   rw [this]
  ·have:atL l n d=atL l x.Parent d:=by
    unfold atL
    rw [way_step h h0 hx,List.find?_cons,hfr,decide_eq_false hf]
   have hn0:n.toNat≠0:=fun e=>by
    have:=(tree_node h).2.2.1 x (by rw [e] at hx;exact hx)
    omega
   have hp2:=hp.2.2 hn0
   rw [this,lessL_step h h0 hx,less_late h hx (by omega) hm,Int.zero_add]
   exact told_at h hd0 hm a i k x.Parent hp2 (by omega) (by omega)
theorem told_alike {l:List TNode} (h:treeB l=true) {d minute x y:Int} (hd0:0≤d) (hm:minute≤d) (hx:leafB l x=true) (hy:leafB l y=true) (e:atL l x d=atL l y d) (a:Bool) (i:Int):lessL l x a i minute=lessL l y a i minute:=by
 have h1:=leaf_in hx
 have h2:=leaf_in hy
 rw [told_at h hd0 hm a i _ x h1.1 (Nat.lt_succ_self _) h1.2,told_at h hd0 hm a i _ y h2.1 (Nat.lt_succ_self _) h2.2,e]
end Go.Abs
namespace Go.Abs
open Go.RowKit Go.Proofs
theorem indexed_cons {n x:Nat} {v:Int} {r:List Int}:indexed n x (v::r)=(decide (0≤v)&&decide (v<n)&&decide (x &&& 2 ^ v.toNat=0)&&indexed n (x ||| 2 ^ v.toNat) r):=rfl
theorem bitsFrom_cons {x:Nat} {v:Int} {r:List Int}:bitsFrom x (v::r)=bitsFrom (x ||| 2 ^ v.toNat) r:=rfl
theorem drop_cons' {α:Type} {l:List α} {i:Int} {x:α} (h0:0≤i) (hx:l[i.toNat]?=some x):l.drop i.toNat=x::l.drop (i+1).toNat:=by
 obtain ⟨h,hv⟩:=List.getElem?_eq_some_iff.1 hx
 rw [show (i+1).toNat=i.toNat+1 by omega,List.drop_eq_getElem_cons h,hv]
theorem take_all' {α:Type} {l:List α} {i:Int} (h:¬i<l.length):l.take i.toNat=l:=List.take_of_length_le (by omega)
theorem drop_all' {α:Type} {l:List α} {i:Int} (h:¬i<l.length):l.drop i.toNat=[]:=List.drop_eq_nil_of_le (by omega)
def encAir (mv:Nat) (vs ss cs:List PV):PV:=.agg [.list mv vs,.list 5 ss,.list 3 cs,.list 0 [],.list 0 [],.list 0 [],.list 0 [],.list 0 []]
set_option maxHeartbeats 2000000 in
theorem configs_sets {vs ss cs:List PV} (mv:Nat) (n:Nat) (hv:vs.length=n) (hn:n≤64) (l:List Sector) (hl:l.length≤64) (hss:ss=encSectors l) :
  CallsPV Tryz.prog 238 [encAir mv vs ss cs] (if l.all (sectorIx n) then .tup [.list 1 (encSets (secBits l)),.bool true] else .tup [.list 0 [],.bool false]):=by
 refine callsPV_by (clo:=fun _=>false) (rows:=false) env_ok Tryz.func238 rfl (enters_of Tryz.func238 (by kernel_rfl) rfl) (fun A q P Y hr hA hq=>?_)
 have hsl:ss.length=l.length:=by rw [hss];simp [encSectors]
 have hbd:∀s∈l,s.Volumes.length≤9223372036854775807:=fun s hs=>by
  have h1:=Real.cell (show Real [.agg _] from hr) (c:=.list 5 ss) (by simp)
  have h2:=h1.elem (x:=encSector s) (by rw [hss];exact List.mem_map_of_mem hs) (c:=.list 1 (encInts s.Volumes)) (by simp [encSector,PV.cells])
  have:=h2.len
  simpa [encInts] using this
 conv=>cbv
 refine loop_set hA (fun (y:Int × List PV) s=>{ s.put (some 12) (.val (.int .i64 y.1)) with sl:=(s.put (some 12) (.val (.int .i64 y.1))).sl.set 2 (.own 0 1 y.2),tk:=[(A.nLen y.2,319)] })
  (fun y=>0≤y.1∧y.1≤l.length∧y.2=encSets (secBits (l.take y.1.toNat))∧(l.take y.1.toNat).all (sectorIx n)=true) (fun y=>(l.length - y.1).toNat) (0,[]) ?_ ?_ ?_
 ·conv=>cbv
  exact wk_own 2 0 1 [] _ rfl (.inr rfl) (by simp [leL,leS]) (by subst hA;rfl)
 ·exact ⟨Int.le_refl _,by simp,by simp [secBits,encSets],by simp⟩
 ·intro R y hi hR
  obtain ⟨i,xs⟩:=y
  obtain ⟨hi0,hi1,hxs,hall⟩:=hi
  simp only at hi0 hi1 hxs hall
  conv=>cbv
  split
  ·rename_i h1
   have h1':i<l.length:=by subst hA;rw [←hsl];simpa [stdOps] using h1
   conv=>cbv
   refine idx_Sector hA hss hi0 h1' (fun s u1 u2 hx hu1 hu2=>?_)
   have hul:u2.length=s.Volumes.length:=by rw [hu2];simp [encInts]
   have htk:=take_snoc' hi0 hx
   have hvb:=hbd s (List.mem_of_getElem? hx)
   have hbad:sectorIx n s=false→l.all (sectorIx n)=false:=fun hb=>by rw [List.all_eq_false];exact ⟨s,List.mem_of_getElem? hx,by simp [hb]⟩
   conv=>cbv
   refine loop_set hA (fun (y:Int × Nat) s=>((s.put (some 19) (.val (.int .i64 y.1))).put (some 6) (.val (.int .u64 (y.2:Int)))).put (some 2) (.own 0 1 xs))
    (fun y=>0≤y.1∧y.1≤s.Volumes.length∧y.2<2 ^ 64∧indexed n 0 s.Volumes=indexed n y.2 (s.Volumes.drop y.1.toNat)∧bitsFrom 0 s.Volumes=bitsFrom y.2 (s.Volumes.drop y.1.toNat)) (fun y=>(s.Volumes.length - y.1).toNat) (0,0) ?_ ?_ ?_
   ·conv=>cbv
    exact wk_sl (by simp [leL,leS])
   ·exact ⟨Int.le_refl _,by simp,by simp,by simp,by simp⟩
   ·intro R2 y hj hR2
    obtain ⟨j,x⟩:=y
    obtain ⟨hj0,hj1,hx64,hj2,hj3⟩:=hj
    simp only at hj0 hj1 hx64 hj2 hj3
    conv=>cbv
    split
    ·rename_i h2
     have h2':j<s.Volumes.length:=by subst hA;rw [←hul];simpa [stdOps] using h2
     conv=>cbv
     refine idx_Int hA hu2 hj0 h2' (fun v hvx=>?_)
     have hdr:=drop_cons' hj0 hvx
     rw [hdr,indexed_cons] at hj2
     rw [hdr,bitsFrom_cons] at hj3
     have bad:∀b:Bool,(decide (0≤v)&&decide (v<n)&&decide (x &&& 2 ^ v.toNat=0))=b→b=false→(if l.all (sectorIx n) then PV.tup [.list 1 (encSets (secBits l)),.bool true] else .tup [.list 0 [],.bool false])=.tup [.list 0 [],.bool false]:=by
      intro b hb hbf
      subst hbf
      rw [hbad (by unfold sectorIx;rw [hj2,hb];rfl)]
      rfl
     conv=>cbv
     split
     ·rename_i h3
      have h3':v<0:=by subst hA;simpa [stdOps] using h3
      conv=>cbv
      rw [←hq]
      exact ((bad _ rfl (by simp;omega))).symm
     ·rename_i h3
      have h3':¬v<0:=by subst hA;simpa [stdOps] using h3
      conv=>cbv
      split
      ·rename_i h4
       have h4':¬v<n:=by subst hA;rw [←hv];simpa [stdOps] using h4
       conv=>cbv
       rw [←hq]
       exact ((bad _ rfl (by simp;omega))).symm
      ·rename_i h4
       have h4':v<n:=by subst hA;rw [←hv];simpa [stdOps] using h4
       have hv0:0≤v:=by omega
       have hv64:v<64:=by omega
       have hp:=pow_lt64 hv64
       conv=>cbv
       refine ⟨by subst hA;exact ⟨hv0,hv64⟩,?_⟩
       have e1:A.wShl .u64 1 v=((2 ^ v.toNat:Nat):Int):=by subst hA;exact u64_shl hv0 hv64
       have e2:A.wOp .and .u64 (x:Int) (A.wShl .u64 1 v)=((x &&& 2 ^ v.toNat:Nat):Int):=by rw [e1];subst hA;exact u64_and hx64
       have e3:A.wOp .or .u64 (x:Int) (A.wShl .u64 1 v)=((x ||| 2 ^ v.toNat:Nat):Int):=by rw [e1];subst hA;exact u64_or hx64 hp
       split
       ·rename_i h5
        have h5':¬(x &&& 2 ^ v.toNat=0):=by
         have:A.bNot (A.iEq (A.wOp .and .u64 (x:Int) (A.wShl .u64 1 v)) 0)=true:=h5
         rw [e2] at this;subst hA;simpa [stdOps] using this
        conv=>cbv
        rw [←hq]
        exact ((bad _ rfl (by simp [h5']))).symm
       ·rename_i h5
        have h5':x &&& 2 ^ v.toNat=0:=by
         have:A.bNot (A.iEq (A.wOp .and .u64 (x:Int) (A.wShl .u64 1 v)) 0)=false:=h5
         rw [e2] at this;subst hA;simpa [stdOps] using this
        conv=>cbv
        refine ⟨by subst hA;exact ⟨hv0,hv64⟩,by subst hA;show inI64 (j+1);unfold inI64;omega,?_⟩
        obtain ⟨x',hx'⟩:∃x',x'=x ||| 2 ^ v.toNat:=⟨_,rfl⟩
        rw [←hx'] at e3 hj2 hj3
        refine hR2 (A.iAdd j 1,x') _ (by (conv=>cbv);exact wk_sl (by simp [leL,leS];exact e3)) ?_ ?_
        ·subst hA
         refine ⟨by show 0≤j+1;omega,by show j+1≤_;omega,by rw [hx'];exact Nat.or_lt_two_pow hx64 hp,?_,hj3⟩
         rw [hj2]
         simp [hv0,h4',h5']
         rfl
        ·subst hA
         show (s.Volumes.length - (j+1)).toNat<(s.Volumes.length - j).toNat
         omega
    ·rename_i h2
     have h2':¬j<s.Volumes.length:=by subst hA;rw [←hul];simpa [stdOps] using h2
     rw [drop_all' h2'] at hj2 hj3
     have hj2':indexed n 0 s.Volumes=true:=hj2
     have hj3':bitsFrom 0 s.Volumes=x:=hj3
     conv=>cbv
     split
     ·rename_i h3
      have h3':x=0:=by subst hA;simpa [stdOps] using h3
      conv=>cbv
      rw [←hq,hbad (by unfold sectorIx;rw [hj3',h3'];simp)]
      rfl
     ·rename_i h3
      have h3':¬x=0:=by subst hA;simpa [stdOps] using h3
      have hlen:xs.length=i.toNat:=by rw [hxs];simp [encSets,secBits];omega
      conv=>cbv
      refine ⟨⟨by subst hA;rfl,by subst hA;show (xs++[_]).length*_≤_;simp;omega⟩,by subst hA;show inI64 (i+1);unfold inI64;omega,?_⟩
      refine hR (A.iAdd i 1,A.lApp xs [.int .u64 (x:Int)]) _ (by (conv=>cbv);exact wk_round (bx:=[_]) (bx':=[_]) (mp:=[]) (mp':=[]) (by simp [leL,leS]) (by simp) (by simp) rfl rfl) ?_ ?_
      ·subst hA
       show 0≤i+1∧i+1≤l.length∧xs++[.int .u64 (x:Int)]=encSets (secBits (l.take (i+1).toNat))∧(l.take (i+1).toNat).all (sectorIx n)=true
       refine ⟨by omega,by omega,?_,?_⟩
       ·rw [htk,hxs];simp [encSets,secBits,encSet,hj3']
       ·rw [htk,List.all_append,hall];simp [sectorIx,hj2',hj3',h3']
      ·subst hA
       show (l.length - (i+1)).toNat<(l.length - i).toNat
       omega
  ·rename_i h1
   have h1':¬i<l.length:=by subst hA;rw [←hsl];simpa [stdOps] using h1
   rw [take_all' h1'] at hxs hall
   conv=>cbv
   rw [←hq,hall,hxs]
   rfl
end Go.Abs
namespace Go.Abs
open Go.RowKit Go.Proofs
theorem apartB_cons {l:List Nat} {x:Nat} {s:Int} {r:List Int}:apartB l x (s::r)=(decide (0≤s)&&decide (s<l.length)&&decide (x &&& l.getD s.toNat 0=0)&&apartB l (x ||| l.getD s.toNat 0) r):=rfl
theorem joined_cons {l:List Nat} {x:Nat} {s:Int} {r:List Int}:joined l x (s::r)=joined l (x ||| l.getD s.toNat 0) r:=rfl
set_option maxHeartbeats 4000000 in
theorem configs_divisions {vs ss cs:List PV} (mv:Nat) (n:Nat) (hv:vs.length=n) (l:List Sector) (hss:ss=encSectors l) (c:List Config) (hcs:cs=encConfigs c) :
  CallsPV Tryz.prog 179 [encAir mv vs ss cs] (if divOk n l c then .tup [.list 1 (List.replicate c.length .ref),.bool true] else .tup [.list 0 [],.bool false]):=by
 refine callsPV_by (clo:=fun _=>false) (rows:=false) env_ok Tryz.func179 rfl (enters_of Tryz.func179 (by kernel_rfl) rfl) (fun A q P Y hr hA hq=>?_)
 have hsl:ss.length=l.length:=by rw [hss];simp [encSectors]
 have hcl:cs.length=c.length:=by rw [hcs];simp [encConfigs]
 have hbd:∀s∈c,s.Sectors.length≤9223372036854775807:=fun s hs=>by
  have h1:=Real.cell (show Real [.agg _] from hr) (c:=.list 3 cs) (by simp)
  have h2:=h1.elem (x:=encConfig s) (by rw [hcs];exact List.mem_map_of_mem hs) (c:=.list 1 (encInts s.Sectors)) (by simp [encConfig,PV.cells])
  have:=h2.len
  simpa [encInts] using this
 have bad:∀b,divOk n l c=b→b=false→PV.tup [.list 0 [],.bool false]=q:=by
  intro b hb hbf
  subst hbf
  rw [←hq,hb];rfl
 conv=>cbv
 split
 ·rename_i h1
  have h1':n<1:=by subst hA;have t:=h1;simp [stdOps] at t;omega
  conv=>cbv
  exact bad _ rfl (by unfold divOk;simp;omega)
 rename_i h1
 have h1':1≤n:=by subst hA;have t:=h1;simp [stdOps] at t;omega
 conv=>cbv
 split
 ·rename_i h2
  have h2':64<n:=by subst hA;have t:=h2;simp [stdOps] at t;omega
  conv=>cbv
  exact bad _ rfl (by unfold divOk;simp;omega)
 rename_i h2
 have h2':n≤64:=by subst hA;have t:=h2;simp [stdOps] at t;omega
 conv=>cbv
 split
 ·rename_i h3
  have h3':64<l.length:=by subst hA;have t:=h3;simp [stdOps] at t;omega
  conv=>cbv
  exact bad _ rfl (by unfold divOk;simp;omega)
 rename_i h3
 have h3':l.length≤64:=by subst hA;have t:=h3;simp [stdOps] at t;omega
 conv=>cbv
 split
 ·rename_i h4
  have h4':c.length<1:=by subst hA;have t:=h4;simp [stdOps] at t;omega
  conv=>cbv
  exact bad _ rfl (by unfold divOk;simp;omega)
 rename_i h4
 have h4':1≤c.length:=by subst hA;have t:=h4;simp [stdOps] at t;omega
 conv=>cbv
 split
 ·rename_i h5
  have h5':32<c.length:=by subst hA;have t:=h5;simp [stdOps] at t;omega
  conv=>cbv
  exact bad _ rfl (by unfold divOk;simp;omega)
 rename_i h5
 have h5':c.length≤32:=by subst hA;have t:=h5;simp [stdOps] at t;omega
 conv=>cbv
 have hsets:=configs_sets (cs:=cs) mv n hv h2' l h3' hss
 by_cases hall:l.all (sectorIx n)=true
 rotate_left
 ·rw [if_neg hall] at hsets
  refine call_intro hA hsets ?_
  conv=>cbv
  split
  ·conv=>cbv
   exact bad _ rfl (by unfold divOk;simp [Bool.eq_false_iff.2 hall])
  ·rename_i hx;exact absurd hx (by subst hA;simp [stdOps])
 rw [if_pos hall] at hsets
 obtain ⟨se,hse⟩:∃se,se=encSets (secBits l):=⟨_,rfl⟩
 rw [←hse] at hsets
 have hsel:se.length=l.length:=by rw [hse];simp [encSets,secBits]
 have hlt:=secBits_lt h2' hall
 have hbl:(secBits l).length=l.length:=by simp [secBits]
 refine call_intro hA hsets ?_
 conv=>cbv
 split
 ·rename_i hx;exact absurd hx (by subst hA;simp [stdOps])
 conv=>cbv
 have eall:A.wShr 18446744073709551615 (A.iSub 64 (A.lLen vs))=((2 ^ n - 1:Nat):Int):=by subst hA;rw [←u64_all (E:=⟨Tryz.prog,tab,fun _=>false,false,YS.none⟩) h1' h2',←hv];rfl
 refine ⟨by subst hA;show inI64 (64 - (vs.length:Int));unfold inI64;omega,by subst hA;show 0≤64 - (vs.length:Int)∧64 - (vs.length:Int)<64;omega,?_⟩
 refine loop_set hA (fun (y:Int × List PV) s=>{ ((s.put (some 55) (.val (.int .i64 y.1))).put (some 2) (.own 0 1 y.2)) with tk:=[(A.nLen y.2,320)] })
  (fun y=>0≤y.1∧y.1≤c.length∧y.2=List.replicate y.1.toNat .ref∧(c.take y.1.toNat).all (configOk n (secBits l))=true) (fun y=>(c.length - y.1).toNat) (0,[]) ?_ ?_ ?_
 ·conv=>cbv
  exact wk_own 2 0 1 [] _ rfl (.inr rfl) (by simp [leL,leS]) (by subst hA;rfl)
 ·exact ⟨Int.le_refl _,by simp,by simp,by simp⟩
 ·intro R y hi hR
  obtain ⟨i,ys⟩:=y
  obtain ⟨hi0,hi1,hys,hcall⟩:=hi
  simp only at hi0 hi1 hys hcall
  conv=>cbv
  split
  ·rename_i h6
   have h6':i<c.length:=by subst hA;rw [←hcl];simpa [stdOps] using h6
   conv=>cbv
   refine idx_Config hA hcs hi0 h6' (fun s u1 u2 hx hu1 hu2=>?_)
   have hul:u2.length=s.Sectors.length:=by rw [hu2];simp [encInts]
   have htk:=take_snoc' hi0 hx
   have hsb:=hbd s (List.mem_of_getElem? hx)
   have hbad:configOk n (secBits l) s=false→PV.tup [.list 0 [],.bool false]=q:=fun hb=>bad _ rfl (by
    have:c.all (configOk n (secBits l))=false:=by rw [List.all_eq_false];exact ⟨s,List.mem_of_getElem? hx,by simp [hb]⟩
    unfold divOk;simp [this])
   conv=>cbv
   refine loop_set hA (fun (y:Int × Nat × Nat) s=>{ (((s.put (some 63) (.val (.int .i64 y.1))).put (some 8) (.val (.int .u64 (y.2.1:Int)))).put (some 2) (.own 0 1 ys)) with ax:={ mp:=[.plain 319 4 y.2.2],yk:=0 } })
    (fun y=>0≤y.1∧y.1≤s.Sectors.length∧y.2.1<2 ^ 64∧(y.2.2:Int)≤y.1∧apartB (secBits l) 0 s.Sectors=apartB (secBits l) y.2.1 (s.Sectors.drop y.1.toNat)∧joined (secBits l) 0 s.Sectors=joined (secBits l) y.2.1 (s.Sectors.drop y.1.toNat)) (fun y=>(s.Sectors.length - y.1).toNat) (0,0,0) ?_ ?_ ?_
   ·conv=>cbv
    exact wk_sl (by simp [leL,leS])
   ·exact ⟨Int.le_refl _,by simp,by simp,by simp,by simp,by simp⟩
   ·intro R2 y hj hR2
    obtain ⟨j,x,m⟩:=y
    obtain ⟨hj0,hj1,hx64,hm,hj2,hj3⟩:=hj
    simp only at hj0 hj1 hx64 hm hj2 hj3
    conv=>cbv
    split
    ·rename_i h7
     have h7':j<s.Sectors.length:=by subst hA;rw [←hul];simpa [stdOps] using h7
     conv=>cbv
     refine idx_Int hA hu2 hj0 h7' (fun v hvx=>?_)
     have hdr:=drop_cons' hj0 hvx
     rw [hdr,apartB_cons] at hj2
     rw [hdr,joined_cons] at hj3
     conv=>cbv
     split
     ·rename_i h8
      have h8':v<0:=by subst hA;simpa [stdOps] using h8
      conv=>cbv
      exact hbad (by unfold configOk;rw [hj2];simp [show ¬(0≤v) by omega])
     rename_i h8
     have h8':0≤v:=by subst hA;have:=h8;simp [stdOps] at this;omega
     conv=>cbv
     split
     ·rename_i h9
      have h9':¬v<l.length:=by subst hA;rw [←hsel];simpa [stdOps] using h9
      conv=>cbv
      exact hbad (by unfold configOk;rw [hj2,hbl];simp [h9'])
     rename_i h9
     have h9':v<l.length:=by subst hA;rw [←hsel];simpa [stdOps] using h9
     conv=>cbv
     refine idx_Set hA hse h8' (by rw [hbl];exact h9') (fun z hz=>?_)
     have hzl:z<2 ^ 64:=hlt z (List.mem_of_getElem? hz)
     have hzd:(secBits l).getD v.toNat 0=z:=by rw [List.getD_eq_getElem?_getD,hz];rfl
     rw [hzd] at hj2 hj3
     have e2:A.wOp .and .u64 (x:Int) (z:Int)=((x &&& z:Nat):Int):=by subst hA;exact u64_and hx64
     have e3:A.wOp .or .u64 (x:Int) (z:Int)=((x ||| z:Nat):Int):=by subst hA;exact u64_or hx64 hzl
     conv=>cbv
     split
     ·rename_i h10
      have h10':¬(x &&& z=0):=by
       have:A.bNot (A.iEq (A.wOp .and .u64 (x:Int) (z:Int)) 0)=true:=h10
       rw [e2] at this;subst hA;simpa [stdOps] using this
      conv=>cbv
      exact hbad (by unfold configOk;rw [hj2];simp [h10'])
     rename_i h10
     have h10':x &&& z=0:=by
      have:A.bNot (A.iEq (A.wOp .and .u64 (x:Int) (z:Int)) 0)=false:=h10
      rw [e2] at this;subst hA;simpa [stdOps] using this
     conv=>cbv
     refine idx_Set hA hse h8' (by rw [hbl];exact h9') (fun z2 hz2=>?_)
     obtain rfl:z=z2:=by rw [hz] at hz2;exact Option.some.inj hz2
     conv=>cbv
     refine idx_Set hA hse h8' (by rw [hbl];exact h9') (fun z2 hz2=>?_)
     obtain rfl:z=z2:=by rw [hz] at hz2;exact Option.some.inj hz2
     conv=>cbv
     refine ⟨by subst hA;show m<9223372036854775807∧inKind .u64 (z:Int);refine ⟨by omega,?_⟩;simp [inKind,IntKind.min,IntKind.max,IntKind.bits,IntKind.signed];omega,by subst hA;show inI64 (j+1);unfold inI64;omega,?_⟩
     obtain ⟨x',hx'⟩:∃x',x'=x ||| z:=⟨_,rfl⟩
     rw [←hx'] at e3 hj2 hj3
     refine hR2 (A.iAdd j 1,x',A.nS m) _ (by (conv=>cbv);exact wk_sl (by simp [leL,leS];exact e3)) ?_ ?_
     ·subst hA
      refine ⟨by show 0≤j+1;omega,by show j+1≤_;omega,by rw [hx'];exact Nat.or_lt_two_pow hx64 hzl,by show ((m+1:Nat):Int)≤j+1;omega,?_,hj3⟩
      rw [hj2,hbl]
      simp [h8',h9',h10']
      rfl
     ·subst hA
      show (s.Sectors.length - (j+1)).toNat<(s.Sectors.length - j).toNat
      omega
    ·rename_i h7
     have h7':¬j<s.Sectors.length:=by subst hA;rw [←hul];simpa [stdOps] using h7
     rw [drop_all' h7'] at hj2 hj3
     have hj2':apartB (secBits l) 0 s.Sectors=true:=hj2
     have hj3':joined (secBits l) 0 s.Sectors=x:=hj3
     conv=>cbv
     split
     ·rename_i h8
      have h8':¬(x=2 ^ n - 1):=by
       have t:A.bNot (A.iEq (x:Int) (A.wShr 18446744073709551615 (A.iSub 64 (A.lLen vs))))=true:=h8
       rw [eall] at t;subst hA
       intro e
       rw [e] at t
       simp [stdOps] at t
      conv=>cbv
      exact hbad (by unfold configOk;rw [hj3'];simp [h8'])
     rename_i h8
     have h8':x=2 ^ n - 1:=by
      have t:A.bNot (A.iEq (x:Int) (A.wShr 18446744073709551615 (A.iSub 64 (A.lLen vs))))=false:=h8
      rw [eall] at t;subst hA
      exact Int.ofNat.inj (by simpa [stdOps] using t)
     have hlen:ys.length=i.toNat:=by rw [hys];simp
     conv=>cbv
     refine ⟨⟨by subst hA;rfl,by subst hA;show (ys++[_]).length*_≤_;simp;omega⟩,by subst hA;show inI64 (i+1);unfold inI64;omega,?_⟩
     refine hR (A.iAdd i 1,A.lApp ys [.ref]) _ (by (conv=>cbv);exact wk_round (bx:=[_]) (bx':=[_]) (mp:=[]) (mp':=[_]) (by simp [leL,leS]) (by simp) (.inr ⟨by simp,rfl⟩) rfl rfl) ?_ ?_
     ·subst hA
      show 0≤i+1∧i+1≤c.length∧ys++[.ref]=List.replicate (i+1).toNat .ref∧(c.take (i+1).toNat).all (configOk n (secBits l))=true
      refine ⟨by omega,by omega,?_,?_⟩
      ·rw [hys,show (i+1).toNat=i.toNat+1 by omega,List.replicate_succ']
      ·rw [htk,List.all_append,hcall];simp [configOk,hj2',hj3',h8']
     ·subst hA
      show (c.length - (i+1)).toNat<(c.length - i).toNat
      omega
  ·rename_i h6
   have h6':¬i<c.length:=by subst hA;rw [←hcl];simpa [stdOps] using h6
   rw [take_all' h6'] at hcall
   have hi2:i.toNat=c.length:=by omega
   conv=>cbv
   have hd:divOk n l c=true:=by unfold divOk;simp [h1',h2',h3',h4',h5',hall,hcall]
   rw [←hq,hd,hys,hi2]
   rfl
end Go.Abs
namespace Go.Abs
open Go.RowKit Go.Proofs
theorem configs_Check {vs ss cs:List PV} (mv:Nat) (n:Nat) (hv:vs.length=n) (l:List Sector) (hss:ss=encSectors l) (c:List Config) (hcs:cs=encConfigs c) :
  CallsPV Tryz.prog 119 [encAir mv vs ss cs] (.int .i64 (if divOk n l c then 0 else 100)):=by
 refine callsPV_by (clo:=fun _=>false) (rows:=false) env_ok Tryz.func119 rfl (enters_of Tryz.func119 (by kernel_rfl) rfl) (fun A q P Y hr hA hq=>?_)
 have h:=configs_divisions mv n hv l hss c hcs
 cases hd:divOk n l c with
 | true =>
  rw [hd] at h hq
  generalize List.replicate c.length PV.ref=rs at h
  conv=>cbv
  refine call_intro hA h ?_
  conv=>cbv
  split
  ·rename_i hx;exact absurd hx (by subst hA;simp [stdOps])
  ·conv=>cbv
   rw [←hq];rfl
 | false =>
  rw [hd] at h hq
  conv=>cbv
  refine call_intro hA h ?_
  conv=>cbv
  split
  ·conv=>cbv
   rw [←hq];rfl
  ·rename_i hx;exact absurd hx (by subst hA;simp [stdOps])
def zeroVolume:PV:=.agg [.str ByteArray.empty,.list 0 []]
theorem air_divided (nv:Int) (h1:1≤nv) (h2:nv≤64) (ss cs ws ms ks:List PV):CallsPV Tryz.prog 120 [.agg [.int .i64 nv,.list 5 ss,.list 3 cs,.list 3 ws,.list 1 ms,.list 6 ks]] (encAir 2 (List.replicate nv.toNat zeroVolume) ss cs):=by
 refine callsPV_by (clo:=fun _=>false) (rows:=false) env_ok Tryz.func120 rfl (enters_of Tryz.func120 (by kernel_rfl) rfl) (fun A q P Y hr hA hq=>?_)
 conv=>cbv
 refine ⟨draw_intro hA (by kernel_rfl),?_⟩
 refine ⟨by subst hA;show (0≤nv∧nv=nv∧nv*_≤_∧nv≤_);omega,?_⟩
 rw [←hq]
 subst hA
 rfl
set_option maxHeartbeats 2000000 in
theorem air_Check (t:Tables):CallsPV Tryz.prog 49 [encTables t] (.int .i64 (if airOk t then 0 else 140)):=by
 refine callsPV_by (clo:=fun _=>false) (rows:=false) env_ok Tryz.func49 rfl (enters_of Tryz.func49 (by kernel_rfl) rfl) (fun A q P Y hr hA hq=>?_)
 have hbd:∀k∈t.Kinds,k.Curfews.length≤9223372036854775807:=fun k hk=>by
  have h1:=Real.cell (show Real [.agg _] from hr) (c:=.list 6 (encKinds t.Kinds)) (by simp)
  have h2:=h1.elem (x:=encKind k) (List.mem_map_of_mem hk) (c:=.list 1 (encSpanLs k.Curfews)) (by simp [encKind,PV.cells])
  have:=h2.len
  simpa [encSpanLs] using this
 have bad:∀b,airOk t=b→b=false→PV.int .i64 140=q:=by
  intro b hb hbf
  subst hbf
  rw [←hq,hb];rfl
 obtain ⟨nv,S,C,W,M,K⟩:=t
 simp only [encTables] at hr ⊢
 simp only at hbd
 obtain ⟨ss,hss⟩:∃ss,ss=encSectors S:=⟨_,rfl⟩
 obtain ⟨cs,hcs⟩:∃cs,cs=encConfigs C:=⟨_,rfl⟩
 obtain ⟨ws,hws⟩:∃ws,ws=encWays W:=⟨_,rfl⟩
 obtain ⟨ms,hms⟩:∃ms,ms=encIntLs M:=⟨_,rfl⟩
 obtain ⟨ks,hks⟩:∃ks,ks=encKinds K:=⟨_,rfl⟩
 have hwl:ws.length=W.length:=by rw [hws];simp [encWays]
 have hml:ms.length=M.length:=by rw [hms];simp [encIntLs]
 have hkl:ks.length=K.length:=by rw [hks];simp [encKinds]
 rw [←hss,←hcs,←hws,←hms,←hks]
 conv=>cbv
 refine callB hA (air_in nv 1 64) rfl (fun r1 hr1=>?_)
 conv=>cbv
 split
 ·rename_i h
  have h1:r1=false:=by subst hA;simpa [stdOps] using h
  conv=>cbv
  exact bad _ rfl (by unfold airOk;rw [←hr1,h1];rfl)
 rename_i h
 have h1:r1=true:=by subst hA;simpa [stdOps] using h
 rw [h1] at hr1
 have hnv:1≤nv∧nv≤64:=by simpa [inB] using hr1.symm
 conv=>cbv
 refine call_intro hA (air_divided nv hnv.1 hnv.2 ss cs ws ms ks) ?_
 obtain ⟨vs,hvs⟩:∃vs,vs=List.replicate nv.toNat zeroVolume:=⟨_,rfl⟩
 rw [←hvs]
 conv=>cbv
 refine callI hA (configs_Check 2 nv.toNat (by rw [hvs];simp) S hss C hcs) rfl (fun r2 hr2=>?_)
 conv=>cbv
 split
 ·rename_i h
  have h2:divOk nv.toNat S C=false:=by
   subst hA
   cases hd:divOk nv.toNat S C with
   | false=>rfl
   | true=>rw [hd] at hr2;subst hr2;simp [stdOps] at h
  conv=>cbv
  exact bad _ rfl (by unfold airOk;simp [h2])
 rename_i h
 have h2:divOk nv.toNat S C=true:=by
  subst hA
  cases hd:divOk nv.toNat S C with
  | true=>rfl
  | false=>rw [hd] at hr2;subst hr2;simp [stdOps] at h
 conv=>cbv
 refine callB hA (all_Sector sectorOk S hss fun x _=>air_sector x) rfl (fun r3 hr3=>?_)
 conv=>cbv
 split
 ·rename_i h
  have h3:r3=false:=by subst hA;simpa [stdOps] using h
  conv=>cbv
  exact bad _ rfl (by unfold airOk;simp [←hr3,h3])
 rename_i h
 have h3:r3=true:=by subst hA;simpa [stdOps] using h
 rw [h3] at hr3
 conv=>cbv
 split
 ·rename_i h
  have h4:¬M.length≤16:=by subst hA;have t:=h;simp [stdOps] at t;omega
  conv=>cbv
  exact bad _ rfl (by unfold airOk;simp [h4])
 rename_i h
 have h4:M.length≤16:=by subst hA;have t:=h;simp [stdOps] at t;omega
 have hmb:ms.length≤1000:=by omega
 conv=>cbv
 refine callB hA (all_ListInt modeOk M hms fun x _=>air_mode x rfl) rfl (fun r5 hr5=>?_)
 conv=>cbv
 split
 ·rename_i h
  have h5:r5=false:=by subst hA;simpa [stdOps] using h
  conv=>cbv
  exact bad _ rfl (by unfold airOk;simp [←hr5,h5])
 rename_i h
 have h5:r5=true:=by subst hA;simpa [stdOps] using h
 rw [h5] at hr5
 conv=>cbv
 split
 ·rename_i h
  have h6:¬W.length≤64:=by subst hA;have t:=h;simp [stdOps] at t;omega
  conv=>cbv
  exact bad _ rfl (by unfold airOk;simp [h6])
 rename_i h
 have h6:W.length≤64:=by subst hA;have t:=h;simp [stdOps] at t;omega
 conv=>cbv
 refine callB hA (all_Way (wayOk nv ms.length) W hws fun x _=>air_way nv hnv ms hmb (.list 5 ss) (.list 3 cs) (.list 3 ws) (.list 6 ks) x) rfl (fun r7 hr7=>?_)
 rw [hml] at hr7
 conv=>cbv
 split
 ·rename_i h
  have h7:r7=false:=by subst hA;simpa [stdOps] using h
  conv=>cbv
  exact bad _ rfl (by unfold airOk;simp [←hr7,h7])
 rename_i h
 have h7:r7=true:=by subst hA;simpa [stdOps] using h
 rw [h7] at hr7
 conv=>cbv
 split
 ·rename_i h
  have h8:¬K.length≤8:=by subst hA;have t:=h;simp [stdOps] at t;omega
  conv=>cbv
  exact bad _ rfl (by unfold airOk;simp [h8])
 rename_i h
 have h8:K.length≤8:=by subst hA;have t:=h;simp [stdOps] at t;omega
 conv=>cbv
 refine callB hA (all_Kind (fun k=>kindOk k&&decide (k.Curfews.length=ms.length)) K hks fun x hx=>air_kind ms hmb _ (.list 5 ss) (.list 3 cs) (.list 3 ws) (.list 6 ks) x (hbd x hx)) rfl (fun r9 hr9=>?_)
 rw [hml] at hr9
 conv=>cbv
 split
 ·rename_i h
  have h9:r9=false:=by subst hA;simpa [stdOps] using h
  conv=>cbv
  exact bad _ rfl (by unfold airOk;simp only [←hr9,h9];simp)
 rename_i h
 have h9:r9=true:=by subst hA;simpa [stdOps] using h
 rw [h9] at hr9
 conv=>cbv
 have hok:airOk ⟨nv,S,C,W,M,K⟩=true:=by unfold airOk;simp only [←hr1,h2,←hr3,←hr5,←hr7,←hr9];simp [h4,h6,h8]
 rw [←hq,hok];rfl
end Go.Abs
