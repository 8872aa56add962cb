/- Contracts of the functions, and what they rest on: part 6. -/
import Derived.Test.YtcafjndjnfdnpaaGreatT5
set_option linter.unusedVariables false
set_option linter.unusedSimpArgs false
namespace Go.Abs
open Go.RowKit Go.Proofs
def Qr:TD:=⟨.func,1,8,false,none,[.any]⟩
def Zax:TD:=⟨.other,0,0,false,none,[]⟩
def Zo8:TD:=⟨.int .u64,1,8,false,none,[.int .u64 0]⟩
def ZtP:TD:=⟨.int .i64,1,8,false,none,[.int .i64 0]⟩
def Zwa:TD:=⟨.int .u8,1,1,false,none,[.int .u8 0]⟩
def Zwb:TD:=⟨.int .i32,1,4,false,none,[.int .i32 0]⟩
def Zwc:TD:=⟨.struct [(0,3),(1,3)],2,16,true,some [.int,.int],[.int .i64 0,.int .i64 0]⟩
def ZwW (t:Nat):TD:=(if t<13 then (if t<5 then (if t<2 then (if t<1 then Zax else Qr) else (if t<4 then ZtP else ⟨.bool,1,1,false,none,[.bool false]⟩)) else (if t<9 then (if t<7 then Zwa else ⟨.struct [(0,2),(1,3),(2,4),(3,6)],4,24,true,some [.int,.int,.bool,.int],[.int .i64 0,.int .i64 0,.bool false,.int .u8 0]⟩) else (if t<12 then ⟨.str,1,16,false,none,[.str ByteArray.empty]⟩ else Zo8))) else (if t<18 then (if t<16 then (if t<15 then ⟨.struct [(0,9),(1,12)],2,24,true,none,[.str ByteArray.empty,.int .u64 0]⟩ else ⟨.ptr 371,1,8,false,none,[.any]⟩) else (if t<17 then ⟨.ptr 374,1,8,false,none,[.any]⟩ else ⟨.ptr 382,1,8,false,none,[.any]⟩)) else (if t<21 then (if t<20 then ⟨.struct [(0,17)],1,8,true,none,[.any]⟩ else ⟨.other,1,16,false,none,[.any]⟩) else (if t<22 then Zwb else ⟨.slice 210,1,24,false,none,[.list 0 []]⟩))))
def ZwX (t:Nat):TD:=(if t<34 then (if t<27 then (if t<25 then (if t<24 then ⟨.slice 212,1,24,false,none,[.list 0 []]⟩ else ⟨.slice 55,1,24,false,none,[.list 0 []]⟩) else (if t<26 then ⟨.slice 29,1,24,false,none,[.list 0 []]⟩ else ⟨.slice 93,1,24,false,none,[.list 0 []]⟩)) else (if t<30 then (if t<29 then ⟨.struct [(0,3),(1,22),(2,23),(3,24),(4,25),(5,26)],6,128,true,none,[.int .i64 0,.list 0 [],.list 0 [],.list 0 [],.list 0 [],.list 0 []]⟩ else ⟨.slice 3,1,24,false,none,[.list 0 []]⟩) else (if t<32 then Zwc else ⟨.struct [(0,3),(1,3),(2,3),(3,9),(4,29),(5,31),(7,4)],8,88,true,none,[.int .i64 0,.int .i64 0,.int .i64 0,.str ByteArray.empty,.list 0 [],.int .i64 0,.int .i64 0,.bool false]⟩))) else (if t<41 then (if t<37 then (if t<36 then ⟨.struct [(0,3),(1,3),(2,3),(3,4)],4,32,true,some [.int,.int,.int,.bool],[.int .i64 0,.int .i64 0,.int .i64 0,.bool false]⟩ else Zo8) else (if t<38 then ⟨.int .i8,1,1,false,none,[.int .i8 0]⟩ else Qr)) else (if t<43 then (if t<42 then ZtP else Qr) else (if t<44 then Zax else Qr))))
def ZwY (t:Nat):TD:=(if t<54 then (if t<50 then (if t<47 then (if t<46 then ⟨.slice 49,1,24,false,none,[.list 0 []]⟩ else Zax) else (if t<48 then Qr else ⟨.struct [(0,3),(1,29)],2,32,true,none,[.int .i64 0,.list 0 []]⟩)) else (if t<52 then (if t<51 then ⟨.slice 85,1,24,false,none,[.list 0 []]⟩ else Zax) else (if t<53 then Qr else ⟨.slice 60,1,24,false,none,[.list 0 []]⟩))) else (if t<59 then (if t<57 then (if t<56 then ⟨.struct [(0,3),(1,3),(2,53)],3,40,true,none,[.int .i64 0,.int .i64 0,.list 0 []]⟩ else Zax) else (if t<58 then Qr else ⟨.slice 31,1,24,false,none,[.list 0 []]⟩)) else (if t<63 then (if t<61 then ⟨.struct [(0,3),(1,3),(2,3),(3,58)],4,48,true,none,[.int .i64 0,.int .i64 0,.int .i64 0,.list 0 []]⟩ else ⟨.struct [(0,3),(1,3),(2,3),(3,3),(4,9),(5,3)],6,56,true,some [.int,.int,.int,.int,.str,.int],[.int .i64 0,.int .i64 0,.int .i64 0,.int .i64 0,.str ByteArray.empty,.int .i64 0]⟩) else (if t<64 then Qr else ⟨.slice 166,1,24,false,none,[.list 0 []]⟩))))
def ZwZ (t:Nat):TD:=(if t<76 then (if t<71 then (if t<67 then (if t<66 then Qr else Zax) else (if t<70 then Qr else ⟨.slice 185,1,24,false,none,[.list 0 []]⟩)) else (if t<74 then (if t<73 then ⟨.struct [(0,70)],1,24,true,none,[.list 0 []]⟩ else Qr) else (if t<75 then ⟨.slice 83,1,24,false,none,[.list 0 []]⟩ else ⟨.slice 35,1,24,false,none,[.list 0 []]⟩))) else (if t<84 then (if t<81 then (if t<77 then Zax else Qr) else (if t<82 then ⟨.slice 100,1,24,false,none,[.list 0 []]⟩ else ⟨.struct [(0,3),(1,3),(2,3),(3,81)],4,48,true,none,[.int .i64 0,.int .i64 0,.int .i64 0,.list 0 []]⟩)) else (if t<88 then (if t<86 then ⟨.struct [(0,4),(1,3),(2,31)],4,32,true,some [.bool,.int,.int,.int],[.bool false,.int .i64 0,.int .i64 0,.int .i64 0]⟩ else ⟨.struct [(0,4),(1,3),(2,3)],3,24,true,some [.bool,.int,.int],[.bool false,.int .i64 0,.int .i64 0]⟩) else (if t<89 then Zax else Qr))))
def Zxa (t:Nat):TD:=(if t<102 then (if t<96 then (if t<94 then (if t<92 then ⟨.slice 58,1,24,false,none,[.list 0 []]⟩ else ⟨.struct [(0,3),(1,3),(2,3),(3,3),(4,3),(5,91)],6,64,true,none,[.int .i64 0,.int .i64 0,.int .i64 0,.int .i64 0,.int .i64 0,.list 0 []]⟩) else (if t<95 then Qr else ⟨.int .u32,1,4,false,none,[.int .u32 0]⟩)) else (if t<99 then (if t<97 then Zax else Qr) else (if t<101 then ⟨.struct [(0,87),(3,3)],4,32,true,some [.bool,.int,.int,.int],[.bool false,.int .i64 0,.int .i64 0,.int .i64 0]⟩ else Qr))) else (if t<106 then (if t<104 then (if t<103 then ⟨.slice 109,1,24,false,none,[.list 0 []]⟩ else Qr) else (if t<105 then ⟨.slice 87,1,24,false,none,[.list 0 []]⟩ else Qr)) else (if t<108 then (if t<107 then ⟨.slice 4,1,24,false,none,[.list 0 []]⟩ else Qr) else (if t<110 then ⟨.struct [(0,3),(1,3),(2,29),(3,74)],4,64,true,none,[.int .i64 0,.int .i64 0,.list 0 [],.list 0 []]⟩ else Qr))))
def Zxb (t:Nat):TD:=(if t<130 then (if t<124 then (if t<122 then (if t<121 then Zax else Qr) else (if t<123 then ⟨.slice 62,1,24,false,none,[.list 0 []]⟩ else Qr)) else (if t<127 then (if t<126 then ⟨.struct [(0,29),(1,3),(2,3)],3,40,true,none,[.list 0 [],.int .i64 0,.int .i64 0]⟩ else ⟨.slice 125,1,24,false,none,[.list 0 []]⟩) else (if t<129 then Qr else ⟨.slice 384,1,24,false,none,[.list 0 []]⟩))) else (if t<134 then (if t<132 then (if t<131 then ⟨.slice 386,1,24,false,none,[.list 0 []]⟩ else ⟨.slice 388,1,24,false,none,[.list 0 []]⟩) else (if t<133 then ⟨.slice 391,1,24,false,none,[.list 0 []]⟩ else ⟨.slice 393,1,24,false,none,[.list 0 []]⟩)) else (if t<137 then (if t<135 then ⟨.slice 395,1,24,false,none,[.list 0 []]⟩ else ⟨.struct [(0,129),(1,22),(2,23),(3,130),(4,131),(5,132),(6,133),(7,134)],8,192,true,none,[.list 0 [],.list 0 [],.list 0 [],.list 0 [],.list 0 [],.list 0 [],.list 0 [],.list 0 []]⟩) else (if t<147 then Qr else Zwc))))
def Zxc (t:Nat):TD:=(if t<167 then (if t<162 then (if t<152 then (if t<150 then ⟨.slice 148,1,24,false,none,[.list 0 []]⟩ else ⟨.struct [(0,3),(1,148),(3,149)],4,48,true,none,[.int .i64 0,.int .i64 0,.int .i64 0,.list 0 []]⟩) else (if t<153 then Zax else Qr)) else (if t<164 then (if t<163 then Zax else Qr) else (if t<165 then ⟨.slice 207,1,24,false,none,[.list 0 []]⟩ else ⟨.struct [(0,3),(1,3),(2,164)],3,40,true,none,[.int .i64 0,.int .i64 0,.list 0 []]⟩))) else (if t<176 then (if t<171 then (if t<170 then Qr else ⟨.map 3 3,1,8,false,none,[.map [] []]⟩) else (if t<175 then Qr else Zax)) else (if t<186 then (if t<184 then Qr else ⟨.struct [(0,3),(1,3),(2,29)],3,40,true,none,[.int .i64 0,.int .i64 0,.list 0 []]⟩) else (if t<187 then Zax else Qr))))
def Zxd (t:Nat):TD:=(if t<209 then (if t<193 then (if t<191 then (if t<190 then Zax else Qr) else (if t<192 then Zax else Qr)) else (if t<206 then (if t<194 then ⟨.map 87 4,1,8,false,none,[.map [] []]⟩ else Qr) else (if t<208 then ⟨.struct [(0,4),(1,3),(2,31),(4,3)],5,40,true,some [.bool,.int,.int,.int,.int],[.bool false,.int .i64 0,.int .i64 0,.int .i64 0,.int .i64 0]⟩ else ⟨.slice 9,1,24,false,none,[.list 0 []]⟩))) else (if t<217 then (if t<213 then (if t<211 then ⟨.struct [(0,9),(1,208),(2,29),(3,3),(4,3)],5,80,true,none,[.str ByteArray.empty,.list 0 [],.list 0 [],.int .i64 0,.int .i64 0]⟩ else ⟨.struct [(0,9),(1,208),(2,29)],3,64,true,none,[.str ByteArray.empty,.list 0 [],.list 0 []]⟩) else (if t<216 then Qr else ⟨.array 4 3,4,32,true,none,[.int .i64 0,.int .i64 0,.int .i64 0,.int .i64 0]⟩)) else (if t<237 then (if t<236 then Qr else Zax) else (if t<264 then Qr else ⟨.struct [(0,93)],6,64,true,none,[.int .i64 0,.int .i64 0,.int .i64 0,.int .i64 0,.int .i64 0,.list 0 []]⟩))))
def Zxe (t:Nat):TD:=(if t<294 then (if t<282 then (if t<268 then (if t<267 then ⟨.slice 320,1,24,false,none,[.list 0 []]⟩ else Zax) else (if t<281 then Qr else Zax)) else (if t<289 then (if t<288 then Qr else ⟨.slice 104,1,24,false,none,[.list 0 []]⟩) else (if t<290 then Zax else Qr))) else (if t<300 then (if t<296 then (if t<295 then ⟨.map 87 3,1,8,false,none,[.map [] []]⟩ else Zax) else (if t<299 then Qr else ZtP)) else (if t<307 then (if t<301 then Zax else Qr) else (if t<308 then Zo8 else Qr))))
def Zxf (t:Nat):TD:=(if t<342 then (if t<320 then (if t<318 then (if t<317 then ⟨.slice 319,1,24,false,none,[.list 0 []]⟩ else Zax) else (if t<319 then Qr else Zo8)) else (if t<334 then (if t<321 then ⟨.map 319 4,1,8,false,none,[.map [] []]⟩ else Qr) else (if t<335 then Zax else Qr))) else (if t<348 then (if t<346 then (if t<343 then Zo8 else Qr) else (if t<347 then ⟨.ptr 3,1,8,false,none,[.any]⟩ else Qr)) else (if t<350 then (if t<349 then ⟨.ptr 351,1,8,false,none,[.any]⟩ else Qr) else (if t<352 then ⟨.array 1440 4,1440,1440,true,none,List.replicate 1440 (.bool false)⟩ else Qr))))
def Zw2 (t:Nat):TD:=(if t<375 then (if t<363 then (if t<361 then (if t<358 then Zax else Qr) else (if t<362 then ⟨.ptr 342,1,8,false,none,[.any]⟩ else Zax)) else (if t<372 then (if t<370 then Qr else ⟨.struct [(0,17),(1,17),(2,17),(3,9)],4,40,true,none,[.any,.any,.any,.str ByteArray.empty]⟩) else (if t<373 then ⟨.array 0 16,0,0,true,none,[]⟩ else ⟨.struct [(0,372)],0,0,true,none,[]⟩))) else (if t<381 then (if t<378 then (if t<377 then Zwa else Qr) else (if t<379 then ⟨.ptr 5,1,8,false,none,[.any]⟩ else Zwb)) else (if t<385 then (if t<383 then ⟨.struct [(0,12),(1,12),(2,95),(3,375),(4,5),(5,5),(6,376),(7,377),(8,378),(9,379),(10,380)],11,48,true,none,[.int .u64 0,.int .u64 0,.int .u32 0,.int .u8 0,.int .u8 0,.int .u8 0,.int .u8 0,.any,.any,.int .i32 0,.int .i32 0]⟩ else ⟨.struct [(0,9),(1,58)],2,40,true,none,[.str ByteArray.empty,.list 0 []]⟩) else (if t<387 then ⟨.struct [(0,9),(1,9),(2,3),(3,3),(4,58)],5,72,true,none,[.str ByteArray.empty,.str ByteArray.empty,.int .i64 0,.int .i64 0,.list 0 []]⟩ else ⟨.struct [(0,9),(1,9),(2,9),(3,3),(4,3),(5,208),(6,29)],7,112,true,none,[.str ByteArray.empty,.str ByteArray.empty,.str ByteArray.empty,.int .i64 0,.int .i64 0,.list 0 [],.list 0 []]⟩))))
def Zw3 (t:Nat):TD:=(if t<394 then (if t<390 then ⟨.slice 398,1,24,false,none,[.list 0 []]⟩ else (if t<392 then ⟨.struct [(0,9),(1,389)],2,40,true,none,[.str ByteArray.empty,.list 0 []]⟩ else ⟨.struct [(0,9),(1,3),(2,3),(3,3)],4,40,true,some [.str,.int,.int,.int],[.str ByteArray.empty,.int .i64 0,.int .i64 0,.int .i64 0]⟩)) else (if t<396 then ⟨.struct [(0,3),(1,9),(2,9),(3,3),(4,3),(5,3),(6,31)],8,80,true,some [.int,.str,.str,.int,.int,.int,.int,.int],[.int .i64 0,.str ByteArray.empty,.str ByteArray.empty,.int .i64 0,.int .i64 0,.int .i64 0,.int .i64 0,.int .i64 0]⟩ else (if t<397 then ⟨.other,1,8,false,none,[.any]⟩ else ⟨.struct [(0,9),(1,3)],2,24,true,some [.str,.int],[.str ByteArray.empty,.int .i64 0]⟩)))
def tab (t:Nat):TD:=if t<399 then (if t<149 then (if t<65 then (if t<23 then ZwW t else (if t<45 then ZwX t else ZwY t)) else (if t<91 then ZwZ t else (if t<120 then Zxa t else Zxb t))) else (if t<316 then (if t<189 then Zxc t else (if t<266 then Zxd t else Zxe t)) else (if t<357 then Zxf t else (if t<389 then Zw2 t else Zw3 t)))) else ⟨.other,0,0,false,none,[]⟩
theorem ZtQ:(List.range 399).map tab=(List.range 399).map (Znb Tryz.prog):=by kernel_rfl
theorem Zg {clo:FuncId->Bool} {rows:Bool}:ZQ ⟨Tryz.prog,tab,clo,rows,YS.none⟩:=Zsm clo rows 399 ZtQ (λ t h=>by unfold tab;rw [if_neg (by omega)];rfl) (by kernel_rfl)
end Go.Abs
namespace Go.Abs
open Go.RowKit
structure Y2 where
 From:Int
 To:Int
deriving DecidableEq
structure Qy where
 Name:ByteArray
 Names:List ByteArray
 Volumes:List Int
 Radar:Int
 Procedural:Int
structure Config where
 Name:ByteArray
 Names:List ByteArray
 Sectors:List Int
structure Leg where
 Segment:Int
 Volume:Int
 Length:Int
 Minutes:List Y2
structure Way where
 From:Int
 To:Int
 Legs:List Leg
structure Y3 where
 Slow:Int
 Fast:Int
 Places:Int
 Weight:Int
 Longest:Int
 Curfews:List (List Y2)
structure Zh where
 Volumes:Int
 Sectors:List Qy
 Configs:List Config
 Ways:List Way
 Modes:List (List Int)
 Kinds:List Y3
structure Flight where
 ID:Int
 Airline:Int
 Class:Int
 Call:ByteArray
 Ways:List Int
 Window:Y2
 Cancel:Bool
structure Opt where
 Delay:Int
 Way:Int
 Hold:Int
 Cancel:Bool
deriving DecidableEq
structure QN where
 Lo:Int
 Hi:Int
deriving DecidableEq
structure Zes where
 Airport:Bool
 Index:Int
 Minutes:Y2
deriving DecidableEq
structure Qo where
 Way:Int
 Times:List Int
def Z7 (n:Int):PV:=.int .i64 n
def Zd (l:List Int):List PV:=l.map Z7
def ZtR (s:ByteArray):PV:=.str s
def ZbW (l:List ByteArray):List PV:=l.map ZtR
def Y8 (s:Y2):PV:=.agg [.int .i64 s.From,.int .i64 s.To]
def Z4 (l:List Y2):List PV:=l.map Y8
def ZdO (l:List Y2):PV:=.list 2 (Z4 l)
def Z3 (l:List (List Y2)):List PV:=l.map ZdO
def ZbX (l:List Int):PV:=.list 1 (Zd l)
def Z0 (l:List (List Int)):List PV:=l.map ZbX
def Ys (s:Qy):PV:=.agg [.str s.Name,.list 1 (ZbW s.Names),.list 1 (Zd s.Volumes),.int .i64 s.Radar,.int .i64 s.Procedural]
def ZI (l:List Qy):List PV:=l.map Ys
def Zao (s:Config):PV:=.agg [.str s.Name,.list 1 (ZbW s.Names),.list 1 (Zd s.Sectors)]
def Qh (l:List Config):List PV:=l.map Zao
def Zac (s:Leg):PV:=.agg [.int .i64 s.Segment,.int .i64 s.Volume,.int .i64 s.Length,.list 2 (Z4 s.Minutes)]
def Qp (l:List Leg):List PV:=l.map Zac
def Zb8 (s:Way):PV:=.agg [.int .i64 s.From,.int .i64 s.To,.list 4 (Qp s.Legs)]
def Q3 (l:List Way):List PV:=l.map Zb8
def ZU (s:Y3):PV:=.agg [.int .i64 s.Slow,.int .i64 s.Fast,.int .i64 s.Places,.int .i64 s.Weight,.int .i64 s.Longest,.list 1 (Z3 s.Curfews)]
def ZY (l:List Y3):List PV:=l.map ZU
def Zn (t:Zh):PV:=.agg [.int .i64 t.Volumes,.list 5 (ZI t.Sectors),.list 3 (Qh t.Configs),.list 3 (Q3 t.Ways),.list 1 (Z0 t.Modes),.list 6 (ZY t.Kinds)]
def Zx (f:Flight):PV:=.agg [.int .i64 f.ID,.int .i64 f.Airline,.int .i64 f.Class,.str f.Call,.list 1 (Zd f.Ways),.int .i64 f.Window.From,.int .i64 f.Window.To,.bool f.Cancel]
def Z2 (o:Opt):PV:=.agg [.int .i64 o.Delay,.int .i64 o.Way,.int .i64 o.Hold,.bool o.Cancel]
def Zq (l:List Opt):List PV:=l.map Z2
def Zap (b:QN):PV:=.agg [.int .i64 b.Lo,.int .i64 b.Hi]
def ZF (l:List QN):List PV:=l.map Zap
def ZfK (s:Zes):PV:=.agg [.bool s.Airport,.int .i64 s.Index,.int .i64 s.Minutes.From,.int .i64 s.Minutes.To]
def ZW (l:List Zes):List PV:=l.map ZfK
def Yl (p:Qo):PV:=.agg [.int .i64 p.Way,.list 1 (Zd p.Times)]
def ZJ (l:List Qo):List PV:=l.map Yl
section
variable {A:Ops} {E:Env}
theorem Zw (hA:A=Ze E) {l:List Int} {xs:List PV} (hx:xs=Zd l) {n:Int} {K:List PV->Prop} (h0:0<=n) (h1:n<l.length) (hk:∀x,l[n.toNat]?=some x->K [.int .i64 x]):A.idx xs n K :=
 Ya hA (l:=l) (enc:=Z7) hx.symm h0 h1 λ x h=>hk x h
theorem Zci (hA:A=Ze E) {l:List Y2} {xs:List PV} (hx:xs=Z4 l) {n:Int} {K:List PV->Prop} (h0:0<=n) (h1:n<l.length) (hk:∀x,l[n.toNat]?=some x->K [.int .i64 x.From,.int .i64 x.To]):A.idx xs n K :=
 Ya hA (l:=l) (enc:=Y8) hx.symm h0 h1 λ x h=>hk x h
theorem ZdP (hA:A=Ze E) {l:List (List Y2)} {xs:List PV} (hx:xs=Z3 l) {n:Int} {K:List PV->Prop} (h0:0<=n) (h1:n<l.length) (hk:∀x v,l[n.toNat]?=some x->v=Z4 x->K [.list 2 v]):A.idx xs n K :=
 Ya hA (l:=l) (enc:=ZdO) hx.symm h0 h1 λ x h=>hk x _ h rfl
theorem Zbh (hA:A=Ze E) {l:List (List Int)} {xs:List PV} (hx:xs=Z0 l) {n:Int} {K:List PV->Prop} (h0:0<=n) (h1:n<l.length) (hk:∀x v,l[n.toNat]?=some x->v=Zd x->K [.list 1 v]):A.idx xs n K :=
 Ya hA (l:=l) (enc:=ZbX) hx.symm h0 h1 λ x h=>hk x _ h rfl
theorem Zad (hA:A=Ze E) {l:List Qy} {xs:List PV} (hx:xs=ZI l) {n:Int} {K:List PV->Prop} (h0:0<=n) (h1:n<l.length)
  (hk:∀x v1 v2,l[n.toNat]?=some x->v1=ZbW x.Names->v2=Zd x.Volumes->K [.str x.Name,.list 1 v1,.list 1 v2,.int .i64 x.Radar,.int .i64 x.Procedural]):A.idx xs n K :=
 Ya hA (l:=l) (enc:=Ys) hx.symm h0 h1 λ x h=>hk x _ _ h rfl rfl
theorem Zet (hA:A=Ze E) {l:List Config} {xs:List PV} (hx:xs=Qh l) {n:Int} {K:List PV->Prop} (h0:0<=n) (h1:n<l.length)
  (hk:∀x v1 v2,l[n.toNat]?=some x->v1=ZbW x.Names->v2=Zd x.Sectors->K [.str x.Name,.list 1 v1,.list 1 v2]):A.idx xs n K :=
 Ya hA (l:=l) (enc:=Zao) hx.symm h0 h1 λ x h=>hk x _ _ h rfl rfl
theorem Zdl (hA:A=Ze E) {l:List Leg} {xs:List PV} (hx:xs=Qp l) {n:Int} {K:List PV->Prop} (h0:0<=n) (h1:n<l.length)
  (hk:∀x v,l[n.toNat]?=some x->v=Z4 x.Minutes->K [.int .i64 x.Segment,.int .i64 x.Volume,.int .i64 x.Length,.list 2 v]):A.idx xs n K :=
 Ya hA (l:=l) (enc:=Zac) hx.symm h0 h1 λ x h=>hk x _ h rfl
theorem Ym (hA:A=Ze E) {l:List Way} {xs:List PV} (hx:xs=Q3 l) {n:Int} {K:List PV->Prop} (h0:0<=n) (h1:n<l.length)
  (hk:∀x v,l[n.toNat]?=some x->v=Qp x.Legs->K [.int .i64 x.From,.int .i64 x.To,.list 4 v]):A.idx xs n K :=
 Ya hA (l:=l) (enc:=Zb8) hx.symm h0 h1 λ x h=>hk x _ h rfl
theorem Q6 (hA:A=Ze E) {l:List Y3} {xs:List PV} (hx:xs=ZY l) {n:Int} {K:List PV->Prop} (h0:0<=n) (h1:n<l.length)
  (hk:∀x v,l[n.toNat]?=some x->v=Z3 x.Curfews->K [.int .i64 x.Slow,.int .i64 x.Fast,.int .i64 x.Places,.int .i64 x.Weight,.int .i64 x.Longest,.list 1 v]):A.idx xs n K :=
 Ya hA (l:=l) (enc:=ZU) hx.symm h0 h1 λ x h=>hk x _ h rfl
theorem Yn (hA:A=Ze E) {l:List Opt} {xs:List PV} (hx:xs=Zq l) {n:Int} {K:List PV->Prop} (h0:0<=n) (h1:n<l.length)
  (hk:∀x,l[n.toNat]?=some x->K [.int .i64 x.Delay,.int .i64 x.Way,.int .i64 x.Hold,.bool x.Cancel]):A.idx xs n K :=
 Ya hA (l:=l) (enc:=Z2) hx.symm h0 h1 λ x h=>hk x h
theorem Zc8 (hA:A=Ze E) {l:List QN} {xs:List PV} (hx:xs=ZF l) {n:Int} {K:List PV->Prop} (h0:0<=n) (h1:n<l.length) (hk:∀x,l[n.toNat]?=some x->K [.int .i64 x.Lo,.int .i64 x.Hi]):A.idx xs n K :=
 Ya hA (l:=l) (enc:=Zap) hx.symm h0 h1 λ x h=>hk x h
theorem ZjX (hA:A=Ze E) {l:List Zes} {xs:List PV} (hx:xs=ZW l) {n:Int} {K:List PV->Prop} (h0:0<=n) (h1:n<l.length)
  (hk:∀x,l[n.toNat]?=some x->K [.bool x.Airport,.int .i64 x.Index,.int .i64 x.Minutes.From,.int .i64 x.Minutes.To]):A.idx xs n K :=
 Ya hA (l:=l) (enc:=ZfK) hx.symm h0 h1 λ x h=>hk x h
theorem ZdQ (hA:A=Ze E) {l:List Qo} {xs:List PV} (hx:xs=ZJ l) {n:Int} {K:List PV->Prop} (h0:0<=n) (h1:n<l.length)
  (hk:∀x v,l[n.toNat]?=some x->v=Zd x.Times->K [.int .i64 x.Way,.list 1 v]):A.idx xs n K :=
 Ya hA (l:=l) (enc:=Yl) hx.symm h0 h1 λ x h=>hk x _ h rfl
def QY {α:Type} (p:α->Bool) (l:List α):Int:=match l.findIdx? p with | some i=>i | none=>-1
theorem YI {α:Type} {p:α->Bool} {l:List α} {i:Int} {x:α} (h0:0<=i) (hx:l[i.toNat]?=some x) (hp:p x=true) (h:∀y∈l.take i.toNat,p y=false):QY p l=i:=by
 have e:l.findIdx? p=some i.toNat:=by
  rw [List.findIdx?_eq_some_iff_getElem]
  have hlt:=(ZxZ.1 hx)
  have hl1:=hlt.1
  refine ⟨hlt.1,by rw [hlt.2];exact hp,λ j hj=>?_⟩
  rw [h _ (List.mem_take_iff_getElem.2 ⟨j,by omega,rfl⟩)]
  simp
 unfold QY
 rw [e]
 simp only [Int.toNat_of_nonneg h0]
theorem Yd {α:Type} {p:α->Bool} {l:List α} (h:∀y∈l,p y=false):QY p l=-1:=by
 have e:l.findIdx? p=none:=by
  rw [List.findIdx?_eq_none_iff]
  exact h
 unfold QY
 rw [e]
theorem YV {α:Type} (p:α->Bool) (l:List α):decide (0<=QY p l)=l.any p:=by
 unfold QY
 cases h:l.findIdx? p with
 | none =>
  rw [List.findIdx?_eq_none_iff] at h
  have:l.any p=false:=by rw [Zz1];intro x hx;simp [h x hx]
  rw [this];rfl
 | some i =>
  have:=List.findIdx?_eq_some_iff_getElem.1 h
  obtain ⟨h1,h2,_⟩:=this
  have:l.any p=true:=Zzy.2 ⟨l[i],Zzg h1,h2⟩
  rw [this]
  simp
theorem Zo {α:Type} {l:List α} {i:Int} {x:α} (h0:0<=i) (hx:l[i.toNat]?=some x):l.take (i+1).toNat=l.take i.toNat++[x]:=by
 rw [show (i+1).toNat=i.toNat+1 by omega,ZyD,hx];rfl
end
theorem Yw (p:Qo) {ts:List PV} (h:ts=Zd p.Times):Yl p=.agg [.int .i64 p.Way,.list 1 ts]:=by rw [h];rfl
theorem Qd (t:Zh):∃ss cs ws ms ks nv,ss=ZI t.Sectors/\cs=Qh t.Configs/\ws=Q3 t.Ways/\ms=Z0 t.Modes/\ks=ZY t.Kinds/\nv=t.Volumes/\Zn t=.agg [.int .i64 nv,.list 5 ss,.list 3 cs,.list 3 ws,.list 1 ms,.list 6 ks]:=⟨_,_,_,_,_,_,rfl,rfl,rfl,rfl,rfl,rfl,rfl⟩
theorem Zeu (t:Zh) {ss cs ws ms ks:List PV} (h1:ss=ZI t.Sectors) (h2:cs=Qh t.Configs) (h3:ws=Q3 t.Ways) (h4:ms=Z0 t.Modes) (h5:ks=ZY t.Kinds) :
  Zn t=.agg [.int .i64 t.Volumes,.list 5 ss,.list 3 cs,.list 3 ws,.list 1 ms,.list 6 ks]:=by rw [h1,h2,h3,h4,h5];rfl
open Go.Proofs Go.Sort
section
variable {E:Env} {B:Nat} {S0:Addr->Prop} {G:Gh} {S:Addr->Prop} {w:World}
theorem Inv.rebox {bx:List (Option (List SV))} {tk:List (Nat × TypeId)} {ax:Ax} (hI:Inv E B S0 bx tk ax G S w) {id b:Nat} {t:TypeId} {arr arr':Array Value} {cs cs':List SV} {w':World} (hb:G.bx[id]?=some b) (hc:bx[id]?=some (some cs)) (hh:w.heap[b]?=some (.cells arr t (0,0)))
  (hg:w.grownBy w' (some b)) (hm:w.drawn<=w'.drawn) (hh':w'.heap[b]?=some (.cells arr' t (0,0)))
  (hl:arr'.size=cs'.length) (hr:∀(j:Nat) (c:SV) (v:Value),cs'[j]?=some c->arr'[j]?=some v->RSV tk G S w c v/\v.oneCell'=true) :
  Inv E B S0 (bx.set id (some cs')) tk ax G S w'/\Ext tk G S w tk G S w'/\∀w0,Below B w0 w->Below B w0 w':=by
 have hSb:∀a,S a->a.block≠b:=(hI.box id b cs hc hb).2
 have hsz:=hg.size
 have hbl:∀k,k<w.heap.size->k≠b->w'.heap[k]?=w.heap[k]?:=λ k hk hne=>hg.block k hk (λ e=>hne (Zyc e))
 have hE:Ext tk G S w tk G S w':=⟨λ _ _ h=>h,λ _ hv le h1 h2=>⟨hv,le,h1,h2,.inl ⟨rfl,rfl⟩⟩,λ _ h=>h,λ a ha=>Qq.of_block (hbl _ (hI.slt a ha) (hSb a ha)),λ _ _ h=>h,⟨hg.os,hg.tape,hg.output,hsz,λ k hk=>absurd hk (ZzB _),hm⟩,λ b' hlt hf=>hbl b' hlt (λ e=>hf (.inl ⟨id,by rw [e];exact hb⟩)),λ _ _ h=>h,λ _ h=>.inl h⟩
 have hBb:=(hI.old id b hb).1
 have hK:∀b',b'<w.heap.size->ZbI w w' b':=λ b' hlt=>by
  by_cases e:b'=b
  ·intro o ho h
   rw [e,hh] at h
   cases h
   cases ho
  ·exact ZbI.of_eq (hbl b' hlt e)
 have hid:id<bx.length:=(ZxZ.1 hc).1
 refine ⟨⟨Zy1 hI.base hsz,hI.s0,λ a ha=>Zy7 (hI.slt a ha) hsz,by simp [hI.lbx],hI.ltk,λ i b' h=>⟨(hI.old i b' h).1,Zy7 (hI.old i b' h).2 hsz⟩,hI.dist,?_,?_,hI.apart,hI.lmp,hI.dmp,λ i b' h=>⟨(hI.mpo i b' h).1,Zy7 (hI.mpo i b' h).2 hsz⟩,λ i b' c h1 h2=>(hI.mpk i b' c h1 h2).mono (hK b' (hI.mpo i b' h2).2) (λ m bm h=>⟨h,hK bm (hI.mpo m bm h).2⟩) (λ _ h=>h) hE.cell (λ _ h=>.inl h),λ b' h=>Zy7 (hI.flt b' h) hsz,hI.fbx,hI.ftk,hI.fmp,
  ⟨E.Y.ok _ _ _ _ _ _ hI.yl.1 ⟨hE.calm,λ b' h=>hbl b' (hI.flt b' h) (λ e=>hI.fbx id b' (by rw [e];exact hb) h),λ _ h=>h,hE.cell,λ _ h=>.inl h,λ a ha=>Zy7 (hI.slt a ha) hsz⟩,hI.yl.2⟩⟩,hE,λ w0 h=>h.grown hg hm hI.base (λ k e=>by cases e;exact hBb)⟩
 ·intro id' b' cs'' h1 h2
  simp only [ZyC] at h1
  split at h1
  ·rename_i he
   subst he
   simp only [Zyu] at h1
   subst h1
   rw [hb] at h2
   cases h2
   exact ⟨⟨t,arr',hh',hl,λ j c v a1 a2=>⟨RSV.mono hE (hr j c v a1 a2).1,(hr j c v a1 a2).2⟩⟩,hSb⟩
  ·rename_i hne
   have hbb:b'≠b:=λ e=>hne (hI.dist id id' b hb (by rw [<-e];exact h2))
   obtain ⟨⟨t',a',k1,k2,k3⟩,k4⟩:=hI.box id' b' cs'' h1 h2
   exact ⟨⟨t',a',by rw [hbl b' (hI.old id' b' h2).2 hbb];exact k1,k2,λ j c v a1 a2=>⟨RSV.mono hE (k3 j c v a1 a2).1,(k3 j c v a1 a2).2⟩⟩,k4⟩
 ·intro t' n e hv h1 h2
  obtain ⟨a,cap,k1,k2,k3,k4⟩:=hI.tok t' n e hv h1 h2
  refine ⟨a,cap,k1,k2,k3,λ hlt=>?_⟩
  obtain ⟨g,cur,c1,c2,c3,c4,c5,c6⟩:=k4 hlt
  have hgb:g≠b:=λ e=>c6 id (by rw [e];exact hb)
  exact ⟨g,cur,c1,c2,by rw [hbl g (Zyv.1 c3).1 hgb];exact c3,c4,c5,c6⟩
theorem Zi6 {f:FuncId} (he:ZaJ E.P f) {bx:List (Option (List SV))} {tk:List (Nat × TypeId)} {ax:Ax} {id n cap:Nat} {zs:List Int} {rest:List SV} (hc:bx[id]?=some (some ((Zd zs).map SV.val++rest)))
  (res:SV) (resv:Nat->Value) (hres:∀tk G S w b,G.bx[id]?=some b->RSV tk G S w res (resv b)) (D:List Int->Prop)
  (h:∀(w:World) (b:Nat),Holds (Value.int .i64) w b 0 zs.toArray->b<w.heap.size->n<=cap->cap<=maxLen ->
   Calls E.P f #[.slice (some ⟨b,0,none⟩) n cap] w λ e w'=>e=.returned (resv b)/\∃k os d,d.length=zs.length/\D d/\w'=grow (putRow (Value.int .i64) (Sort.ahead w k) b 0 d.toArray) os) :
  ZV E f [.row id 0 1 n cap] bx tk ax λ r bx' tk' ax'=>r=res/\(∃d,d.length=zs.length/\D d/\bx'=bx.set id (some ((Zd d).map SV.val++rest)))/\tk'=tk/\ax'=ax:=by
 refine ⟨he,λ B S0 w0 G S w vs hI hw hlen hvs=>?_⟩
 match vs,hlen with
 | [v],_ =>
  obtain ⟨b,hb,rfl,hcap,hmax⟩:=hvs 0 _ v rfl rfl
  obtain ⟨⟨t,arr,hh,hsz,hcells⟩,hS⟩:=hI.box id b _ hc hb
  have hval:∀j,j<zs.length->arr[j]?=some (.int .i64 (zs.getD j 0)):=λ j hj=>by
   have h1:((Zd zs).map SV.val++rest)[j]?=some (.val (.int .i64 (zs.getD j 0))):=by
    rw [Zye (by simpa [Zd] using hj)]
    simp [Zd,Z7,hj]
   have hjs:j<arr.size:=by rw [hsz];simp [Zd];omega
   obtain ⟨h2,_⟩:=hcells j _ arr[j] h1 (by simp [hjs])
   rw [Zyn hjs]
   generalize arr[j]=u at h2
   have h3:RV S w (.int .i64 (zs.getD j 0)) u:=h2
   cases h3
   rfl
  have htake:arr.toList.take zs.length=zs.map (Value.int .i64):=by
   apply ZyS
   intro j
   by_cases hj:j<zs.length
   ·rw [List.getElem?_take_of_lt hj,Zy2,hval j hj]
    simp [hj]
   ·rw [List.getElem?_take_eq_none (by omega),Zyw (by simp;omega)]
  have hlt:b<w.heap.size:=(hI.old id b hb).2
  refine (h w b (holds_of_blockI hh htake) hlt hcap hmax).mono ?_
  rintro e w' ⟨rfl,k,os,d,hd,hD,rfl⟩
  have hg:w.grownBy (grow (putRow (Value.int .i64) (Sort.ahead w k) b 0 d.toArray) os) (some b):=grownBy_sortedI d.toArray
  have hh':=heap_sortedI (n:=k) (os:=os) d.toArray hh
  have harr:∀(j:Nat) (c:SV) (v:Value),((Zd d).map SV.val++rest)[j]?=some c->(putCells (Value.int .i64) 0 d.toArray arr)[j]?=some v->RSV tk G S w c v/\v.oneCell'=true:=by
   intro j c v h1 h2
   by_cases hj:j<d.length
   ·rw [Zye (by simpa [Zd] using hj)] at h1
    have hja:j<arr.size:=by rw [hsz];simp [Zd];omega
    simp [Zd,Z7,hj] at h1
    simp [putCells,hj,hja] at h2
    subst h1;subst h2
    exact ⟨RV.int _ _,rfl⟩
   ·rw [Zyd (by simpa [Zd] using hj)] at h1
    have h3:((Zd zs).map SV.val++rest)[j]?=some c:=by
     rw [Zyd (by simp [Zd];omega)]
     simpa [Zd,hd] using h1
    have h4:arr[j]?=some v:=by
     simp only [putCells,Array.getElem?_mapIdx] at h2
     rw [ZyG] at h2
     obtain ⟨x,h5,h6⟩:=h2
     rw [if_neg (by simp;omega)] at h6
     rw [h5,h6]
    exact hcells j c v h3 h4
  obtain ⟨k1,k2,k3⟩:=hI.rebox hb hc hh hg (by simp [grow,putRow,mapBlock,Sort.ahead]) hh' (by simp [putCells,hsz,Zd,hd]) harr
  exact ⟨_,res,_,tk,ax,G,S,⟨rfl,⟨d,hd,hD,rfl⟩,rfl,rfl⟩,rfl,k1,k3 _ hw,k2,hres _ _ _ _ _ hb⟩
end
theorem ZV.frame {E:Env} {f:FuncId} {svs:List SV} {bx:List (Option (List SV))} {tk:List (Nat × TypeId)} {ax:Ax} {Q:SV->List (Option (List SV))->List (Nat × TypeId)->Ax->Prop} (h:ZV E f svs bx tk ax Q)
  (ex:List (Option (List SV))) (hex:∀o∈ex,∃cs,o=some cs/\∀c∈cs,∃p,c=.val p) (hQ:∀r bx' tk' ax',Q r bx' tk' ax'->bx'.length=bx.length)
  (hs:svs.all (SV.within bx.length ax.mp.length tk.length)=true) (hb:bx.all (λ o=>match o with | none=>true | some cs=>cs.all (SV.within bx.length ax.mp.length tk.length))=true) (hgo:∀c∈ax.mp,c≠.gone) :
  ZV E f svs (bx++ex) tk ax λ r bx' tk' ax'=>∃b0,bx'=b0++ex/\Q r b0 tk' ax':=by
 refine ⟨h.1,λ B S0 w0 G S w vs hI hbel hlen hv=>?_⟩
 have hbl:=hI.lbx
 rw [Zyg] at hbl
 have hmpt:G.mp.take ax.mp.length=G.mp:=Zyl (Z0D hI.lmp)
 have hw:∀(s:SV) (v:Value),s.within bx.length ax.mp.length tk.length=true->RSV tk G S w s v->RSV tk ⟨G.bx.take bx.length,G.tk,G.mp,G.fp⟩ S w s v:=λ s v h1 h2=>by
  have:=RSV.within_ h1 h2
  rw [hmpt] at this
  exact this
 have htake:∀(i b:Nat),(G.bx.take bx.length)[i]?=some b->G.bx[i]?=some b/\i<bx.length:=λ i b h=>by
  rw [Zyx] at h
  split at h
  ·exact ⟨h,‹_›⟩
  ·cases h
 have hIs:Inv E B S0 bx tk ax ⟨G.bx.take bx.length,G.tk,G.mp,G.fp⟩ S w:=by
  refine ⟨hI.base,hI.s0,hI.slt,by simp only [ZyE];omega,hI.ltk,λ i b h1=>hI.old i b (htake i b h1).1,λ i j b h1 h2=>hI.dist i j b (htake i b h1).1 (htake j b h2).1,λ id b cs h1 h2=>?_,λ t n e v h1 h2=>?_,hI.apart,hI.lmp,hI.dmp,hI.mpo,hI.mpk,hI.flt,
   λ i b h1=>hI.fbx i b (htake i b h1).1,hI.ftk,hI.fmp,hI.yl⟩
  ·obtain ⟨h3,h4⟩:=htake id b h2
   obtain ⟨⟨t',arr,a1,a2,a3⟩,a4⟩:=hI.box id b cs (by rw [Zye h4];exact h1) h3
   refine ⟨⟨t',arr,a1,a2,λ j c v b1 b2=>⟨hw c v ?_ (a3 j c v b1 b2).1,(a3 j c v b1 b2).2⟩⟩,a4⟩
   have hcs:=Zym.1 hb (some cs) (Zyb h1)
   exact Zym.1 hcs c (Zyb b1)
  ·obtain ⟨a,cap,a1,a2,a3,a4⟩:=hI.tok t n e v h1 h2
   refine ⟨a,cap,a1,a2,a3,λ hlt=>?_⟩
   obtain ⟨g,cur,c1,c2,c3,c4,c5,c6⟩:=a4 hlt
   exact ⟨g,cur,c1,c2,c3,c4,c5,λ i h=>c6 i (htake i g h).1⟩
 refine (h.2 B S0 w0 _ S w vs hIs hbel hlen λ i s v h1 h2=>hw s v (Zym.1 hs s (Zyb h1)) (hv i s v h1 h2)).mono ?_
 rintro e w' ⟨v,r,bx',tk',ax',G',S',hq,he,hI',hbel',X,hr⟩
 have hl':G'.bx.length=bx.length:=hI'.lbx.trans (hQ _ _ _ _ hq)
 have hfoot:∀(j b:Nat),G.bx[bx.length+j]?=some b->b<w.heap.size/\¬Zag ⟨G.bx.take bx.length,G.tk,G.mp,G.fp⟩ b:=λ j b hj=>by
  refine ⟨(hI.old _ b hj).2,?_⟩
  have hjl:bx.length+j<(bx++ex).length:=by rw [Zyg];have:=(ZxZ.1 hj).1;omega
  obtain ⟨o,ho⟩:∃o,(bx++ex)[bx.length+j]?=some o:=⟨_,Zya hjl⟩
  have ho':ex[j]?=some o:=by rw [Zyd (by omega)] at ho;simpa using ho
  obtain ⟨cs,rfl,_⟩:=hex o (Zyb ho')
  obtain ⟨⟨t',arr,a1,_,_⟩,_⟩:=hI.box _ b cs ho hj
  rintro (⟨i,hi⟩ | ⟨t,n,cap,ht,hlt⟩ | ⟨i,hi⟩ | hf)
  ·obtain ⟨h1,h2⟩:=htake i b hi
   have:=hI.dist _ _ b h1 hj
   omega
  ·have ht':G.tk[t]?=some (.slice (some ⟨b,0,none⟩) n cap):=ht
   have htl:t<tk.length:=by have:=(ZxZ.1 ht').1;have:=hI.ltk;omega
   obtain ⟨a,cp,q1,q2,q3,q4⟩:=hI.tok t _ _ _ (Zya htl) ht
   injection q1 with q1 q1' q1''
   subst q1' q1''
   obtain ⟨g2,cur2,p1,p2,p3,p4,p5,p6⟩:=q4 hlt
   rw [<-q1] at p1
   injection p1 with p1
   injection p1 with p1
   subst p1
   exact p6 _ hj
  ·have hi':G.mp[i]?=some b:=hi
   have hil:i<ax.mp.length:=by have:=(ZxZ.1 hi').1;have:=hI.lmp;omega
   obtain ⟨c,hc⟩:∃c,ax.mp[i]?=some c:=⟨_,Zya hil⟩
   have hk:=hI.mpk i b c hc hi
   have hcg:=hgo c (Zyb hc)
   match c,hk with
   | .plain k e n,hk =>
    obtain ⟨⟨D,es,clock,hm,_⟩,_⟩:=hk
    rw [a1] at hm
    cases hm
   | .ents es mk,hk =>
    obtain ⟨⟨arr',clock,es0,hm,_⟩,_⟩:=hk
    rw [a1] at hm
    cases hm
   | .iter (some m) es left cur,hk =>
    obtain ⟨⟨bm,_,arr',clock,since,seen,last,_,hm,_⟩,_⟩:=hk
    rw [a1] at hm
    cases hm
   | .iter none es left cur,hk =>
    obtain ⟨⟨hm,_⟩ | ⟨bm,_,_,arr',clock,since,seen,last,_,hm,_⟩,_⟩:=hk
    ·rw [a1] at hm
     cases hm
    ·rw [a1] at hm
     cases hm
   | .gone,_=>exact hcg rfl
  ·exact hI.fbx _ b hj hf
 have hGb:∀(i b:Nat),(G'.bx++G.bx.drop bx.length)[i]?=some b->(G'.bx[i]?=some b/\i<bx.length)\/(∃j,i=bx.length+j/\G.bx[bx.length+j]?=some b):=λ i b hi=>by
  rcases Zy6 i bx.length with h1 | h1
  ·rw [Zye (by omega)] at hi
   exact .inl ⟨hi,h1⟩
  ·rw [Zyd (by omega),Zy8,hl'] at hi
   exact .inr ⟨i - bx.length,by omega,hi⟩
 have hG'lt:∀(i b:Nat),G'.bx[i]?=some b->G.bx[i]?=some b:=λ i b hi=>by
  have hil:i<bx.length:=by have:=(ZxZ.1 hi).1;omega
  obtain ⟨c,hc⟩:∃c,G.bx[i]?=some c:=⟨_,Zya (by omega)⟩
  have:=X.bx i c (by rw [Zyx,if_pos hil];exact hc)
  rw [hi] at this
  rw [hc];exact this.symm
 have hnf:∀(j b:Nat),G.bx[bx.length+j]?=some b->¬Zag G' b:=λ j b hj hf=>(hfoot j b hj).2 (X.foot b (hfoot j b hj).1 hf)
 have hX0:ZgT tk' G' S' w' tk' ⟨G'.bx++G.bx.drop bx.length,G'.tk,G'.mp,G'.fp⟩ S' w' :=
  ⟨λ i b hi=>by
   show (G'.bx++G.bx.drop bx.length)[i]?=_
   rw [Zye (ZxZ.1 hi).1];exact hi,λ t hv' le h1 h2=>⟨hv',le,h1,h2,.inl ⟨rfl,rfl⟩⟩,λ _ h=>h,λ _ _=>Qq.refl _ _,λ _ _ h=>h⟩
 have hsame:∀(j b:Nat),G.bx[bx.length+j]?=some b->w'.heap[b]?=w.heap[b]?:=λ j b hj=>X.same b (hfoot j b hj).1 (hfoot j b hj).2
 refine ⟨v,r,bx'++ex,tk',ax',⟨G'.bx++G.bx.drop bx.length,G'.tk,G'.mp,G'.fp⟩,S',⟨bx',rfl,hq⟩,he,?_,hbel',?_,RSV.mono0 hX0 hr⟩
 ·have hbxl:=hQ _ _ _ _ hq
  refine ⟨hI'.base,hI'.s0,hI'.slt,?_,hI'.ltk,λ i b h1=>?_,λ i j b h1 h2=>?_,λ id b cs h1 h2=>?_,λ t n e' v' h1 h2=>?_,hI'.apart,hI'.lmp,hI'.dmp,hI'.mpo,hI'.mpk,hI'.flt,λ i b h1=>?_,hI'.ftk,hI'.fmp,hI'.yl⟩
  ·simp only [Zyg,ZzS];omega
  ·rcases hGb i b h1 with ⟨h2,_⟩ | ⟨j,rfl,h2⟩
   ·exact hI'.old i b h2
   ·exact ⟨(hI.old _ b h2).1,Zy7 (hI.old _ b h2).2 X.calm.size⟩
  ·rcases hGb i b h1 with ⟨h3,h3'⟩ | ⟨k,rfl,h3⟩<;>rcases hGb j b h2 with ⟨h4,h4'⟩ | ⟨l,rfl,h4⟩
   ·exact hI'.dist i j b h3 h4
   ·exact hI.dist _ _ b (hG'lt i b h3) h4
   ·exact hI.dist _ _ b h3 (hG'lt j b h4)
   ·exact hI.dist _ _ b h3 h4
  ·rcases hGb id b h2 with ⟨h3,h3'⟩ | ⟨j,rfl,h3⟩
   ·rw [Zye (by omega)] at h1
    obtain ⟨⟨t',arr,a1,a2,a3⟩,a4⟩:=hI'.box id b cs h1 h3
    exact ⟨⟨t',arr,a1,a2,λ j c v b1 b2=>⟨RSV.mono0 hX0 (a3 j c v b1 b2).1,(a3 j c v b1 b2).2⟩⟩,a4⟩
   ·rw [Zyd (by omega),show bx.length+j - bx'.length=j by omega] at h1
    obtain ⟨⟨t',arr,a1,a2,a3⟩,a4⟩:=hI.box _ b cs (by rw [Zyd (by omega),show bx.length+j - bx.length=j by omega];exact h1) h3
    obtain ⟨cs',e1,hcs⟩:=hex _ (Zyb h1)
    cases e1
    refine ⟨⟨t',arr,(hsame j b h3).trans a1,a2,λ j' c v b1 b2=>⟨?_,(a3 j' c v b1 b2).2⟩⟩,λ a ha hab=>?_⟩
    ·obtain ⟨p,rfl⟩:=hcs c (Zyb b1)
     exact RV.mono X.sub X.cell (a3 j' _ v b1 b2).1
    ·rcases X.new a ha with h | h | h
     ·exact a4 a h hab
     ·rw [hab] at h;exact (hfoot j b h3).2 h
     ·have:=(hfoot j b h3).1;omega
  ·obtain ⟨a,cap,a1,a2,a3,a4⟩:=hI'.tok t n e' v' h1 h2
   refine ⟨a,cap,a1,a2,a3,λ hlt=>?_⟩
   obtain ⟨g,cur,c1,c2,c3,c4,c5,c6⟩:=a4 hlt
   refine ⟨g,cur,c1,c2,c3,c4,c5,λ i h=>?_⟩
   rcases hGb i g h with ⟨h3,_⟩ | ⟨j,rfl,h3⟩
   ·exact c6 i h3
   ·refine hnf j g h3 (.inr (.inl ⟨t,n,cap,?_,hlt⟩))
    rw [h2,a1,c1]
  ·rcases hGb i b h1 with ⟨h2,_⟩ | ⟨j,rfl,h2⟩
   ·exact hI'.fbx i b h2
   ·exact λ hf=>hnf j b h2 (.inr (.inr (.inr hf)))
 ·refine ⟨λ i b h1=>?_,X.tk,X.sub,X.cell,X.mp,X.calm,λ b h1 h2=>X.same b h1 (λ hf=>h2 ?_),λ b h1 hf=>?_,λ a ha=>?_⟩
  ·show (G'.bx++G.bx.drop bx.length)[i]?=some b
   rcases Zy6 i bx.length with h2 | h2
   ·rw [Zye (by omega)]
    exact X.bx i b (by rw [Zyx,if_pos h2];exact h1)
   ·rw [Zyd (by omega),Zy8,hl',Nat.add_sub_cancel' h2];exact h1
  ·rcases hf with ⟨i,hi⟩ | hf
   ·exact .inl ⟨i,(htake i b hi).1⟩
   ·exact .inr hf
  ·rcases hf with ⟨i,hi⟩ | hf
   ·rcases hGb i b hi with ⟨h2,_⟩ | ⟨j,rfl,h2⟩
    ·exact .inl ⟨i,hG'lt i b h2⟩
    ·exact .inl ⟨_,h2⟩
   ·rcases X.foot b h1 (.inr hf) with ⟨i,hi⟩ | h3
    ·exact .inl ⟨i,(htake i b hi).1⟩
    ·exact .inr h3
  ·rcases X.new a ha with h1 | h1 | h1
   ·exact .inl h1
   ·rcases h1 with ⟨i,hi⟩ | h1
    ·exact .inr (.inl (.inl ⟨i,(htake i _ hi).1⟩))
    ·exact .inr (.inl (.inr h1))
   ·exact .inr (.inr h1)
theorem ZV.wk {E:Env} {f:FuncId} {svs svs2:List SV} {bx bx2:List (Option (List SV))} {tk tk2:List (Nat × TypeId)} {ax ax2:Ax} {Q:SV->List (Option (List SV))->List (Nat × TypeId)->Ax->Prop}
  (hnt:(bx.length,ax.mp.length)=(0,0)->tk=[]) (hw:Wk (bx.length,ax.mp.length) ⟨svs,bx,tk,ax⟩ ⟨svs2,bx2,tk2,ax2⟩) (h:ZV E f svs2 bx2 tk2 ax2 Q):ZV E f svs bx tk ax Q:=by
 refine ⟨h.1,λ B S0 w0 G S w vs hI hb hl hv=>?_⟩
 have R:Rel E B S0 w0 ⟨svs,bx,tk,ax⟩ G S w vs.toArray:=⟨hI,hb,by simp [hl],λ i s v h1 h2=>hv i s v h1 (by simpa using h2)⟩
 obtain ⟨G',R',X',_⟩:=R.wk (Z0D hI.lbx) ⟨Z0D hI.lmp,hnt⟩ hw (Ext.refl tk G S w)
 have hc:=h.2 B S0 w0 G' S w vs R'.inv R'.below (by simpa using R'.len) (λ i s v h1 h2=>R'.sl i s v h1 (by simpa using h2))
 refine hc.mono ?_
 rintro e w' ⟨v,r,bx',tk',ax',G2,S2,hq,he,hi,hb2,hx,hr⟩
 exact ⟨v,r,bx',tk',ax',G2,S2,hq,he,hi,hb2,X'.trans hx,hr⟩
def Zsw (L:Nat->Bool) (sl0 vs:List SV):List Oper->Nat->List SV->List SV
 | [],_,sl=>sl
 | o::r,i,sl=>Zsw L sl0 vs r (i+1) (match o.dst with | some t=>sl.set t (cond (L i) (vs.getD i .undef) (sl0.getD t .undef)) | none=>sl)
def ZfX (st:St) (ops:Array Oper) (vs:List SV) (bxf:(Nat->Bool)->List (Option (List SV))) (L:Nat->Bool):St:=⟨Zsw L st.sl vs ops.toList 0 st.sl,bxf L,st.tk,st.ax⟩
def QX (L:Nat->Bool) (i:Nat):Nat->Bool:=λ j=>match decide (j=i) with | true=>true | false=>L j
theorem Zev {L L':Nat->Bool} {sl0 vs:List SV}:∀{l:List Oper} {i:Nat} {sl:List SV},(∀j,i<=j->j<i+l.length->L j=L' j)->Zsw L sl0 vs l i sl=Zsw L' sl0 vs l i sl
 | [],_,_,_=>rfl
 | o::r,i,sl,h=>by
  unfold Zsw
  rw [h i (Zyp _) (by simp)]
  exact Zev λ j h1 h2=>h j (by omega) (by simp only [ZyM];omega)
theorem Zsx {A:Ops} {E:Env} {ops:Array Oper} {J:(Nat->Bool)->St} {K:St->Prop}
  (hlt:∀(i:Nat) (o:Oper),ops[i]?=some o->∀e∈o.after,Region.binds .any e=true->e.on<i)
  (hJ:∀L L',(∀i,i<ops.size->L i=L' i)->J L=J L')
  (hstep:∀(L:Nat->Bool) (i:Nat) (o:Oper),ops[i]?=some o->(∀e∈o.after,Region.binds .any e=true->L e.on=true)->∀K':St->Prop,K' (J (QX L i))->QT A E false ops.toList [o] (J L) K')
  (hend:K (J λ _=>true)):∀(fuel:Nat) (listed:Array Bool),listed.size=ops.size->listed.toList.count false<=fuel->Za5 A E ops fuel listed (J λ i=>listed.getD i true) K:=by
 have hall:∀(listed:Array Bool),listed.size=ops.size->(∀i,i<ops.size->listed.getD i true=true)->K (J λ i=>listed.getD i true):=λ listed h1 h2=>by
  rw [hJ _ (λ _=>true) h2];exact hend
 have hnone:∀(listed:Array Bool),listed.size=ops.size->Region.ready .any ops listed=[]->∀i,i<ops.size->listed.getD i true=true:=λ listed hs h i=>by
  induction i using Nat.strongRecOn with
  | ind i ih =>
   intro hi
   cases hq:listed.getD i true with
   | true=>rfl
   | false =>
    have hmem:i∈Region.ready .any ops listed:=mem_ready.2 ⟨hq,ops[i],Zyn hi,λ e he hb=>by
     have h3:=hlt i ops[i] (Zyn hi) e he hb
     have h4:=ih e.on h3 (by omega)
     simp only [Zyo,Zyn (show e.on<listed.size by omega),Zy0] at h4 ⊢
     exact h4⟩
    rw [h] at hmem
    cases hmem
 intro fuel
 induction fuel with
 | zero =>
  intro listed h1 h2
  have h3:∀i,i<ops.size->listed.getD i true=true:=λ i hi=>by
   have hm:false∉listed.toList:=List.count_eq_zero.1 (by omega)
   have hl:i<listed.size:=by omega
   simp only [Zyo,Zyn hl,Zy0]
   cases hb:listed[i]
   ·exact absurd (by rw [<-hb];simp) hm
   ·rfl
  unfold Za5
  cases hr:Region.ready .any ops listed with
  | nil=>exact hall listed h1 h3
  | cons i r =>
   have hmem:i∈Region.ready .any ops listed:=by rw [hr];simp
   obtain ⟨h4,o,ho,_⟩:=mem_ready.1 hmem
   have h5:=h3 i (Zyv.1 ho).1
   rw [h5] at h4
   cases h4
 | succ fuel ih =>
  intro listed h1 h2
  unfold Za5
  cases hr:Region.ready .any ops listed with
  | nil=>exact hall listed h1 (hnone listed h1 hr)
  | cons i r =>
   have hone:∀j∈i::r,(match ops[j]? with | none=>False | some o=>QT A E false ops.toList [o] (J λ i=>listed.getD i true) λ st'=>Za5 A E ops fuel (listed.setIfInBounds j true) st' K):=λ j hj=>by
    obtain ⟨h4,o,ho,h5⟩:=mem_ready.1 (by rw [hr];exact hj)
    rw [ho]
    have hjl:j<ops.size:=(Zyv.1 ho).1
    refine hstep _ j o ho (λ e he hb=>?_) _ ?_
    ·have h6:=h5 e he hb
     have h7:=hlt j o ho e he hb
     simp only [Zyo,Zyn (show e.on<listed.size by omega),Zy0] at h6 ⊢
     exact h6
    ·have hup:J (QX (λ i=>listed.getD i true) j)=J λ i=>(listed.setIfInBounds j true).getD i true:=hJ _ _ λ k hk=>by
      unfold QX
      simp only [Zyo,ZyV]
      by_cases hkj:k=j
      ·subst hkj
       simp [show k<listed.size by omega]
      ·simp [hkj,Z0B hkj]
     rw [hup]
     refine ih _ (by simp [h1]) ?_
     have hcnt:(listed.setIfInBounds j true).toList.count false+1<=listed.toList.count false:=by
      have hl2:j<listed.toList.length:=by rw [Zzk];omega
      have hb:listed.toList[j]=false:=by
       simp only [Zyo,Zyn (show j<listed.size by omega),Zy0] at h4
       simpa using h4
      rw [Zz7,List.count_set hl2,hb]
      have:0<listed.toList.count false:=Z0k.2 (by rw [<-hb];exact Zzg hl2)
      show listed.toList.count false - 1+0+1<=_
      omega
     omega
   have hL:∀(l:List Nat) (f:Nat->Prop),(∀j∈l,f j)->ZmJ l f:=by
    intro l f h
    induction l with
    | nil=>trivial
    | cons a t iht =>
     cases t with
     | nil=>exact h a (by simp)
     | cons b u=>exact ⟨h a (by simp),iht λ j hj=>h j (ZyN _ hj)⟩
   exact hL _ _ hone
def ZtS (ops:Array Oper):Bool:=(List.range ops.size).all λ i=>match ops[i]? with | none=>true | some o=>o.after.toList.all λ e=>!Region.binds .any e || decide (e.on<i)
theorem ZhX {ops:Array Oper} (h:ZtS ops=true):∀(i:Nat) (o:Oper),ops[i]?=some o->∀e∈o.after,Region.binds .any e=true->e.on<i:=λ i o hi e he hb=>by
 unfold ZtS at h
 have h1:=Zym.1 h i (ZyP.2 (Zyv.1 hi).1)
 rw [hi] at h1
 have h2:=Zym.1 h1 e (by simpa using he)
 rw [hb] at h2
 simpa using h2
theorem Zq9 {A:Ops} {E:Env} {id:Nat} {ops:Array Oper} {nb:Nat × Nat} {st:St} {Q:AX->St->Prop} (hm:Zbf E true id ops.size=.each) (vs:List SV) (bxf:(Nat->Bool)->List (Option (List SV)))
  (h0:ZfX st ops vs bxf (λ _=>false)=st) (hbx:∀L L',(∀i,i<ops.size->L i=L' i)->bxf L=bxf L')
  (hlt':ZtS ops=true)
  (hstep:∀(L:Nat->Bool) (i:Nat) (o:Oper),ops[i]?=some o->(∀e∈o.after,Region.binds .any e=true->L e.on=true)->∀K':St->Prop,K' (ZfX st ops vs bxf (QX L i))->QT A E false ops.toList [o] (ZfX st ops vs bxf L) K')
  (hend:Q .normal (ZfX st ops vs bxf λ _=>true)):QD A E (.region id ops true) nb st Q:=by
 have hlt:=ZhX hlt'
 unfold QD
 rw [hm]
 have hJ:∀L L',(∀i,i<ops.size->L i=L' i)->ZfX st ops vs bxf L=ZfX st ops vs bxf L':=λ L L' h=>by
  unfold ZfX
  rw [hbx L L' h,Zev (L:=L) (L':=L') λ j _ h2=>h j (by simpa using h2)]
 have h:=Zsx (A:=A) (E:=E) (K:=Q .normal) hlt hJ hstep hend ops.size (Array.replicate ops.size false) (by simp) (by simp [List.count_replicate])
 have e:ZfX st ops vs bxf (λ i=>(Array.replicate ops.size false).getD i true)=st:=by
  refine (hJ _ (λ _=>false) λ i hi=>?_).trans h0
  simp [Zyo,hi]
 rw [e] at h
 exact h
theorem ZqA {A:Ops} {E:Env} {ops:Array Oper} {J:(Nat->Bool)->St} {K:St->Prop}
  (hlt:∀(i:Nat) (o:Oper),ops[i]?=some o->∀e∈o.after,Region.binds .any e=true->e.on<i)
  (hJ:∀L L',(∀i,i<ops.size->L i=L' i)->J L=J L')
  (hstep:∀(L:Nat->Bool) (i:Nat) (o:Oper),ops[i]?=some o->L i=false->(∀(j:Nat) (o':Oper),ops[j]?=some o'->L j=true->∀e∈o'.after,Region.binds .any e=true->L e.on=true)->(∀e∈o.after,Region.binds .any e=true->L e.on=true)->∀K':St->Prop,K' (J (QX L i))->QT A E false ops.toList [o] (J L) K')
  (hend:K (J λ _=>true)):∀(fuel:Nat) (listed:Array Bool),listed.size=ops.size->listed.toList.count false<=fuel->(∀(j:Nat) (o':Oper),ops[j]?=some o'->listed.getD j true=true->∀e∈o'.after,Region.binds .any e=true->listed.getD e.on true=true)->Za5 A E ops fuel listed (J λ i=>listed.getD i true) K:=by
 have hall:∀(listed:Array Bool),listed.size=ops.size->(∀i,i<ops.size->listed.getD i true=true)->K (J λ i=>listed.getD i true):=λ listed h1 h2=>by
  rw [hJ _ (λ _=>true) h2];exact hend
 have hnone:∀(listed:Array Bool),listed.size=ops.size->Region.ready .any ops listed=[]->∀i,i<ops.size->listed.getD i true=true:=λ listed hs h i=>by
  induction i using Nat.strongRecOn with
  | ind i ih =>
   intro hi
   cases hq:listed.getD i true with
   | true=>rfl
   | false =>
    have hmem:i∈Region.ready .any ops listed:=mem_ready.2 ⟨hq,ops[i],Zyn hi,λ e he hb=>by
     have h3:=hlt i ops[i] (Zyn hi) e he hb
     have h4:=ih e.on h3 (by omega)
     simp only [Zyo,Zyn (show e.on<listed.size by omega),Zy0] at h4 ⊢
     exact h4⟩
    rw [h] at hmem
    cases hmem
 intro fuel
 induction fuel with
 | zero =>
  intro listed h1 h2 _
  have h3:∀i,i<ops.size->listed.getD i true=true:=λ i hi=>by
   have hm:false∉listed.toList:=List.count_eq_zero.1 (by omega)
   have hl:i<listed.size:=by omega
   simp only [Zyo,Zyn hl,Zy0]
   cases hb:listed[i]
   ·exact absurd (by rw [<-hb];simp) hm
   ·rfl
  unfold Za5
  cases hr:Region.ready .any ops listed with
  | nil=>exact hall listed h1 h3
  | cons i r =>
   have hmem:i∈Region.ready .any ops listed:=by rw [hr];simp
   obtain ⟨h4,o,ho,_⟩:=mem_ready.1 hmem
   have h5:=h3 i (Zyv.1 ho).1
   rw [h5] at h4
   cases h4
 | succ fuel ih =>
  intro listed h1 h2 hC
  unfold Za5
  cases hr:Region.ready .any ops listed with
  | nil=>exact hall listed h1 (hnone listed h1 hr)
  | cons i r =>
   have hone:∀j∈i::r,(match ops[j]? with | none=>False | some o=>QT A E false ops.toList [o] (J λ i=>listed.getD i true) λ st'=>Za5 A E ops fuel (listed.setIfInBounds j true) st' K):=λ j hj=>by
    obtain ⟨h4,o,ho,h5⟩:=mem_ready.1 (by rw [hr];exact hj)
    rw [ho]
    have hjl:j<ops.size:=(Zyv.1 ho).1
    refine hstep _ j o ho h4 hC (λ e he hb=>?_) _ ?_
    ·have h6:=h5 e he hb
     have h7:=hlt j o ho e he hb
     simp only [Zyo,Zyn (show e.on<listed.size by omega),Zy0] at h6 ⊢
     exact h6
    ·have hup:J (QX (λ i=>listed.getD i true) j)=J λ i=>(listed.setIfInBounds j true).getD i true:=hJ _ _ λ k hk=>by
      unfold QX
      simp only [Zyo,ZyV]
      by_cases hkj:k=j
      ·subst hkj
       simp [show k<listed.size by omega]
      ·simp [hkj,Z0B hkj]
     rw [hup]
     refine ih _ (by simp [h1]) ?_ ?_
     rotate_left
     ·intro k o' ho' hk e he hb
      have hkl:k<ops.size:=(Zyv.1 ho').1
      have hek:=hlt k o' ho' e he hb
      have key:listed.getD e.on true=true:=by
       by_cases hkj:k=j
       ·subst hkj
        rw [ho] at ho'
        cases ho'
        have h6:=h5 e he hb
        simp only [Zyo,Zyn (show e.on<listed.size by omega),Zy0] at h6 ⊢
        exact h6
       ·refine hC k o' ho' ?_ e he hb
        simp only [Zyo,ZyV] at hk ⊢
        simpa [Z0B hkj] using hk
      simp only [Zyo,ZyV] at key ⊢
      by_cases hej:j=e.on
      ·simp [hej,show e.on<listed.size by omega]
      ·simpa [hej] using key
     have hcnt:(listed.setIfInBounds j true).toList.count false+1<=listed.toList.count false:=by
      have hl2:j<listed.toList.length:=by rw [Zzk];omega
      have hb:listed.toList[j]=false:=by
       simp only [Zyo,Zyn (show j<listed.size by omega),Zy0] at h4
       simpa using h4
      rw [Zz7,List.count_set hl2,hb]
      have:0<listed.toList.count false:=Z0k.2 (by rw [<-hb];exact Zzg hl2)
      show listed.toList.count false - 1+0+1<=_
      omega
     omega
   have hL:∀(l:List Nat) (f:Nat->Prop),(∀j∈l,f j)->ZmJ l f:=by
    intro l f h
    induction l with
    | nil=>trivial
    | cons a t iht =>
     cases t with
     | nil=>exact h a (by simp)
     | cons b u=>exact ⟨h a (by simp),iht λ j hj=>h j (ZyN _ hj)⟩
   exact hL _ _ hone
theorem Zdm {A:Ops} {E:Env} {id:Nat} {ops:Array Oper} {nb:Nat × Nat} {st:St} {Q:AX->St->Prop} (hm:Zbf E true id ops.size=.each) (vs:List SV) (bxf:(Nat->Bool)->List (Option (List SV)))
  (h0:ZfX st ops vs bxf (λ _=>false)=st) (hbx:∀L L',(∀i,i<ops.size->L i=L' i)->bxf L=bxf L')
  (hlt':ZtS ops=true)
  (hstep:∀(L:Nat->Bool) (i:Nat) (o:Oper),ops[i]?=some o->L i=false->(∀(j:Nat) (o':Oper),ops[j]?=some o'->L j=true->∀e∈o'.after,Region.binds .any e=true->L e.on=true)->(∀e∈o.after,Region.binds .any e=true->L e.on=true)->∀K':St->Prop,K' (ZfX st ops vs bxf (QX L i))->QT A E false ops.toList [o] (ZfX st ops vs bxf L) K')
  (hend:Q .normal (ZfX st ops vs bxf λ _=>true)):QD A E (.region id ops true) nb st Q:=by
 have hlt:=ZhX hlt'
 unfold QD
 rw [hm]
 have hJ:∀L L',(∀i,i<ops.size->L i=L' i)->ZfX st ops vs bxf L=ZfX st ops vs bxf L':=λ L L' h=>by
  unfold ZfX
  rw [hbx L L' h,Zev (L:=L) (L':=L') λ j _ h2=>h j (by simpa using h2)]
 have h:=ZqA (A:=A) (E:=E) (K:=Q .normal) hlt hJ hstep hend ops.size (Array.replicate ops.size false) (by simp) (by simp [List.count_replicate]) (λ j o' ho' hj=>by
  have:=(Zyv.1 ho').1
  simp [Zyo,this] at hj)
 have e:ZfX st ops vs bxf (λ i=>(Array.replicate ops.size false).getD i true)=st:=by
  refine (hJ _ (λ _=>false) λ i hi=>?_).trans h0
  simp [Zyo,hi]
 rw [e] at h
 exact h
theorem ZqB {A:Ops} {E:Env} {id b:Nat} {ops:Array Oper} {c d:Code} {nb:Nat × Nat} {st:St} {Q Q0:AX->St->Prop} (hQ:∀s,Q .normal s=QD A E (.seq (.block b (.seq (.region id ops true) c)) d) nb s Q0)
  (h:QD A E (.region id ops true) nb st λ e st'=>match e with
   | .normal=>QD A E c nb st' λ e st'=>match e with | .normal=>QD A E d nb st' Q0 | .exit i=>if i=b then QD A E d nb st' Q0 else Q0 (.exit i) st' | .ret=>Q0 .ret st'
   | .exit i=>if i=b then QD A E d nb st' Q0 else Q0 (.exit i) st'
   | .ret=>Q0 .ret st'):QD A E .skip nb st Q:=by
 unfold QD
 rw [hQ]
 unfold QD
 unfold QD
 unfold QD
 exact h
open Go.Proofs
theorem Zln {g:FuncId} {caps xs:List PV} (p:Int->Bool) (l:List Int) (hxs:xs=Zd l) (hg:∀x∈l,Zc Tryz.prog g (Z7 x::caps) (.bool (p x))) :
  Zc Tryz.prog 130 [.list 1 xs,.fn g caps] (.int .i64 (QY p l)):=by
 refine Zb (clo:=λ _=>false) (rows:=false) Zg Tryz.func130 rfl (enters_of Tryz.func130 (by kernel_rfl) rfl) (λ A q P Y hr hA hq=>?_)
 have hlen:=(hr.mem (p:=.list 1 xs) (by simp)).len
 have hll:xs.length=l.length:=by rw [hxs];simp [Zd]
 conv=>cbv
 refine Zi hA (λ (i:Int) s=>s.put (some 8) (.val (.int .i64 i))) (λ i=>0<=i/\i<=l.length/\∀x∈l.take i.toNat,p x=false) (λ i=>(l.length - i).toNat) 0 ?_ ?_ ?_
 ·conv=>cbv
  exact Zk (by simp [leL,leS])
 ·exact ⟨Zyk _,by omega,by simp⟩
 ·intro R i hi hR
  conv=>cbv
  split
  ·rename_i h1
   have h1':i<l.length:=by subst hA;rw [<-hll];simpa [Ze] using h1
   conv=>cbv
   refine Zw hA hxs hi.1 h1' (λ x hx =>?_)
   conv=>cbv
   refine YC hA (hg x (Zyb hx)) (by simp [Z7]) ?_
   have htake:=Zo hi.1 hx
   conv=>cbv
   split
   ·rename_i h2
    conv=>cbv
    rw [<-hq,YI hi.1 hx h2 hi.2.2]
   ·rename_i h2
    conv=>cbv
    refine ⟨by subst hA;show Zj (i+1);unfold Zj;omega,hR (A.iAdd i 1) _ (by (conv=>cbv);exact Zk (by simp [leL,leS])) ?_ ?_⟩
    ·subst hA
     show 0<=i+1/\i+1<=l.length/\∀x∈l.take (i+1).toNat,p x=false
     refine ⟨by omega,by omega,λ y hy=>?_⟩
     rw [htake,Zy4] at hy
     rcases hy with hy | hy
     ·exact hi.2.2 y hy
     ·rw [Zy3.1 hy];exact h2
    ·subst hA
     show (l.length - (i+1)).toNat<(l.length - i).toNat
     omega
  ·rename_i h1
   have h1':¬i<l.length:=by subst hA;rw [<-hll];simpa [Ze] using h1
   conv=>cbv
   rw [<-hq,Yd]
   intro y hy
   refine hi.2.2 y ?_
   rw [Zyl (by omega)]
   exact hy
theorem ZbS {g:FuncId} {caps xs:List PV} (p:Int->Bool) (l:List Int) (hxs:xs=Zd l) (hg:∀x∈l,Zc Tryz.prog g (Z7 x::caps) (.bool (p x))) :
  Zc Tryz.prog 56 [.list 1 xs,.fn g caps] (.bool (l.any p)):=by
 refine Zb (clo:=λ _=>false) (rows:=false) Zg Tryz.func56 rfl (enters_of Tryz.func56 (by kernel_rfl) rfl) (λ A q P Y hr hA hq=>?_)
 conv=>cbv
 refine Za hA (Zln p l hxs hg) ?_
 obtain ⟨r,hr⟩:∃r,r=QY p l:=⟨_,rfl⟩
 rw [<-hr]
 conv=>cbv
 rw [<-hq,<-YV,<-hr]
 subst hA
 rfl
theorem ZtT {g:FuncId} {caps:List PV} (p:Int->Bool) (x:Int) (hg:Zc Tryz.prog g (Z7 x::caps) (.bool (p x))) :
  Zc Tryz.prog 173 [Z7 x,.ptr [.fn g caps] 0] (.bool (!p x)):=by
 refine Zb (clo:=λ _=>false) (rows:=false) Zg Tryz.func173 rfl (enters_of Tryz.func173 (by kernel_rfl) rfl) (λ A q P Y hr hA hq=>?_)
 rw [show Z7 x=.int .i64 x from rfl] at hg ⊢
 conv=>cbv
 refine Za hA hg ?_
 conv=>cbv
 rw [<-hq]
 subst hA
 rfl
theorem Zvu {g:FuncId} {caps xs:List PV} (p:Int->Bool) (l:List Int) (hxs:xs=Zd l) (hg:∀x∈l,Zc Tryz.prog g (Z7 x::caps) (.bool (p x))) :
  Zc Tryz.prog 110 [.list 1 xs,.fn g caps] (.bool (l.all p)):=by
 refine Zb (clo:=λ _=>false) (rows:=false) Zg Tryz.func110 rfl (enters_of Tryz.func110 (by kernel_rfl) rfl) (λ A q P Y hr hA hq=>?_)
 conv=>cbv
 refine Za hA (ZbS (λ x=>!p x) l hxs (λ x hx=>ZtT p x (hg x hx))) ?_
 obtain ⟨r,hr⟩:∃r,r=l.any (λ x=>!p x):=⟨_,rfl⟩
 rw [<-hr]
 conv=>cbv
 rw [<-hq]
 subst hA
 show PV.bool (!r)=_
 rw [hr]
 simp [ZzK]
theorem ZjY {g:FuncId} {caps xs:List PV} (p:Y2->Bool) (l:List Y2) (hxs:xs=Z4 l) (hg:∀x∈l,Zc Tryz.prog g (Y8 x::caps) (.bool (p x))) :
  Zc Tryz.prog 233 [.list 2 xs,.fn g caps] (.int .i64 (QY p l)):=by
 refine Zb (clo:=λ _=>false) (rows:=false) Zg Tryz.func233 rfl (enters_of Tryz.func233 (by kernel_rfl) rfl) (λ A q P Y hr hA hq=>?_)
 have hlen:=(hr.mem (p:=.list 2 xs) (by simp)).len
 have hll:xs.length=l.length:=by rw [hxs];simp [Z4]
 conv=>cbv
 refine Zi hA (λ (i:Int) s=>s.put (some 8) (.val (.int .i64 i))) (λ i=>0<=i/\i<=l.length/\∀x∈l.take i.toNat,p x=false) (λ i=>(l.length - i).toNat) 0 ?_ ?_ ?_
 ·conv=>cbv
  exact Zk (by simp [leL,leS])
 ·exact ⟨Zyk _,by omega,by simp⟩
 ·intro R i hi hR
  conv=>cbv
  split
  ·rename_i h1
   have h1':i<l.length:=by subst hA;rw [<-hll];simpa [Ze] using h1
   conv=>cbv
   refine Zci hA hxs hi.1 h1' (λ x hx =>?_)
   conv=>cbv
   refine YC hA (hg x (Zyb hx)) (by simp [Y8]) ?_
   have htake:=Zo hi.1 hx
   conv=>cbv
   split
   ·rename_i h2
    conv=>cbv
    rw [<-hq,YI hi.1 hx h2 hi.2.2]
   ·rename_i h2
    conv=>cbv
    refine ⟨by subst hA;show Zj (i+1);unfold Zj;omega,hR (A.iAdd i 1) _ (by (conv=>cbv);exact Zk (by simp [leL,leS])) ?_ ?_⟩
    ·subst hA
     show 0<=i+1/\i+1<=l.length/\∀x∈l.take (i+1).toNat,p x=false
     refine ⟨by omega,by omega,λ y hy=>?_⟩
     rw [htake,Zy4] at hy
     rcases hy with hy | hy
     ·exact hi.2.2 y hy
     ·rw [Zy3.1 hy];exact h2
    ·subst hA
     show (l.length - (i+1)).toNat<(l.length - i).toNat
     omega
  ·rename_i h1
   have h1':¬i<l.length:=by subst hA;rw [<-hll];simpa [Ze] using h1
   conv=>cbv
   rw [<-hq,Yd]
   intro y hy
   refine hi.2.2 y ?_
   rw [Zyl (by omega)]
   exact hy
theorem Zdn {g:FuncId} {caps xs:List PV} (p:Y2->Bool) (l:List Y2) (hxs:xs=Z4 l) (hg:∀x∈l,Zc Tryz.prog g (Y8 x::caps) (.bool (p x))) :
  Zc Tryz.prog 174 [.list 2 xs,.fn g caps] (.bool (l.any p)):=by
 refine Zb (clo:=λ _=>false) (rows:=false) Zg Tryz.func174 rfl (enters_of Tryz.func174 (by kernel_rfl) rfl) (λ A q P Y hr hA hq=>?_)
 conv=>cbv
 refine Za hA (ZjY p l hxs hg) ?_
 obtain ⟨r,hr⟩:∃r,r=QY p l:=⟨_,rfl⟩
 rw [<-hr]
 conv=>cbv
 rw [<-hq,<-YV,<-hr]
 subst hA
 rfl
theorem Zhm {g:FuncId} {caps xs:List PV} (p:(List Int)->Bool) (l:List (List Int)) (hxs:xs=Z0 l) (hg:∀x∈l,Zc Tryz.prog g (ZbX x::caps) (.bool (p x))) :
  Zc Tryz.prog 240 [.list 1 xs,.fn g caps] (.int .i64 (QY p l)):=by
 refine Zb (clo:=λ _=>false) (rows:=false) Zg Tryz.func240 rfl (enters_of Tryz.func240 (by kernel_rfl) rfl) (λ A q P Y hr hA hq=>?_)
 have hlen:=(hr.mem (p:=.list 1 xs) (by simp)).len
 have hll:xs.length=l.length:=by rw [hxs];simp [Z0]
 conv=>cbv
 refine Zi hA (λ (i:Int) s=>s.put (some 8) (.val (.int .i64 i))) (λ i=>0<=i/\i<=l.length/\∀x∈l.take i.toNat,p x=false) (λ i=>(l.length - i).toNat) 0 ?_ ?_ ?_
 ·conv=>cbv
  exact Zk (by simp [leL,leS])
 ·exact ⟨Zyk _,by omega,by simp⟩
 ·intro R i hi hR
  conv=>cbv
  split
  ·rename_i h1
   have h1':i<l.length:=by subst hA;rw [<-hll];simpa [Ze] using h1
   conv=>cbv
   refine Zbh hA hxs hi.1 h1' (λ x v0 hx hv0=>?_)
   conv=>cbv
   refine YC hA (hg x (Zyb hx)) (by simp [ZbX,hv0]) ?_
   have htake:=Zo hi.1 hx
   conv=>cbv
   split
   ·rename_i h2
    conv=>cbv
    rw [<-hq,YI hi.1 hx h2 hi.2.2]
   ·rename_i h2
    conv=>cbv
    refine ⟨by subst hA;show Zj (i+1);unfold Zj;omega,hR (A.iAdd i 1) _ (by (conv=>cbv);exact Zk (by simp [leL,leS])) ?_ ?_⟩
    ·subst hA
     show 0<=i+1/\i+1<=l.length/\∀x∈l.take (i+1).toNat,p x=false
     refine ⟨by omega,by omega,λ y hy=>?_⟩
     rw [htake,Zy4] at hy
     rcases hy with hy | hy
     ·exact hi.2.2 y hy
     ·rw [Zy3.1 hy];exact h2
    ·subst hA
     show (l.length - (i+1)).toNat<(l.length - i).toNat
     omega
  ·rename_i h1
   have h1':¬i<l.length:=by subst hA;rw [<-hll];simpa [Ze] using h1
   conv=>cbv
   rw [<-hq,Yd]
   intro y hy
   refine hi.2.2 y ?_
   rw [Zyl (by omega)]
   exact hy
theorem Zfg {g:FuncId} {caps xs:List PV} (p:(List Int)->Bool) (l:List (List Int)) (hxs:xs=Z0 l) (hg:∀x∈l,Zc Tryz.prog g (ZbX x::caps) (.bool (p x))) :
  Zc Tryz.prog 182 [.list 1 xs,.fn g caps] (.bool (l.any p)):=by
 refine Zb (clo:=λ _=>false) (rows:=false) Zg Tryz.func182 rfl (enters_of Tryz.func182 (by kernel_rfl) rfl) (λ A q P Y hr hA hq=>?_)
 conv=>cbv
 refine Za hA (Zhm p l hxs hg) ?_
 obtain ⟨r,hr⟩:∃r,r=QY p l:=⟨_,rfl⟩
 rw [<-hr]
 conv=>cbv
 rw [<-hq,<-YV,<-hr]
 subst hA
 rfl
theorem Znf {g:FuncId} {caps:List PV} (p:(List Int)->Bool) (x:(List Int)) (hg:Zc Tryz.prog g (ZbX x::caps) (.bool (p x))) :
  Zc Tryz.prog 183 [ZbX x,.ptr [.fn g caps] 0] (.bool (!p x)):=by
 refine Zb (clo:=λ _=>false) (rows:=false) Zg Tryz.func183 rfl (enters_of Tryz.func183 (by kernel_rfl) rfl) (λ A q P Y hr hA hq=>?_)
 rw [show ZbX x=.list 1 (Zd x) from rfl] at hg ⊢
 generalize Zd x=u0 at hg ⊢
 conv=>cbv
 refine Za hA hg ?_
 conv=>cbv
 rw [<-hq]
 subst hA
 rfl
theorem Zo9 {g:FuncId} {caps xs:List PV} (p:(List Int)->Bool) (l:List (List Int)) (hxs:xs=Z0 l) (hg:∀x∈l,Zc Tryz.prog g (ZbX x::caps) (.bool (p x))) :
  Zc Tryz.prog 122 [.list 1 xs,.fn g caps] (.bool (l.all p)):=by
 refine Zb (clo:=λ _=>false) (rows:=false) Zg Tryz.func122 rfl (enters_of Tryz.func122 (by kernel_rfl) rfl) (λ A q P Y hr hA hq=>?_)
 conv=>cbv
 refine Za hA (Zfg (λ x=>!p x) l hxs (λ x hx=>Znf p x (hg x hx))) ?_
 obtain ⟨r,hr⟩:∃r,r=l.any (λ x=>!p x):=⟨_,rfl⟩
 rw [<-hr]
 conv=>cbv
 rw [<-hq]
 subst hA
 show PV.bool (!r)=_
 rw [hr]
 simp [ZzK]
theorem ZgB {g:FuncId} {caps xs:List PV} (p:(List Y2)->Bool) (l:List (List Y2)) (hxs:xs=Z3 l) (hg:∀x∈l,Zc Tryz.prog g (ZdO x::caps) (.bool (p x))) :
  Zc Tryz.prog 279 [.list 1 xs,.fn g caps] (.int .i64 (QY p l)):=by
 refine Zb (clo:=λ _=>false) (rows:=false) Zg Tryz.func279 rfl (enters_of Tryz.func279 (by kernel_rfl) rfl) (λ A q P Y hr hA hq=>?_)
 have hlen:=(hr.mem (p:=.list 1 xs) (by simp)).len
 have hll:xs.length=l.length:=by rw [hxs];simp [Z3]
 conv=>cbv
 refine Zi hA (λ (i:Int) s=>s.put (some 8) (.val (.int .i64 i))) (λ i=>0<=i/\i<=l.length/\∀x∈l.take i.toNat,p x=false) (λ i=>(l.length - i).toNat) 0 ?_ ?_ ?_
 ·conv=>cbv
  exact Zk (by simp [leL,leS])
 ·exact ⟨Zyk _,by omega,by simp⟩
 ·intro R i hi hR
  conv=>cbv
  split
  ·rename_i h1
   have h1':i<l.length:=by subst hA;rw [<-hll];simpa [Ze] using h1
   conv=>cbv
   refine ZdP hA hxs hi.1 h1' (λ x v0 hx hv0=>?_)
   conv=>cbv
   refine YC hA (hg x (Zyb hx)) (by simp [ZdO,hv0]) ?_
   have htake:=Zo hi.1 hx
   conv=>cbv
   split
   ·rename_i h2
    conv=>cbv
    rw [<-hq,YI hi.1 hx h2 hi.2.2]
   ·rename_i h2
    conv=>cbv
    refine ⟨by subst hA;show Zj (i+1);unfold Zj;omega,hR (A.iAdd i 1) _ (by (conv=>cbv);exact Zk (by simp [leL,leS])) ?_ ?_⟩
    ·subst hA
     show 0<=i+1/\i+1<=l.length/\∀x∈l.take (i+1).toNat,p x=false
     refine ⟨by omega,by omega,λ y hy=>?_⟩
     rw [htake,Zy4] at hy
     rcases hy with hy | hy
     ·exact hi.2.2 y hy
     ·rw [Zy3.1 hy];exact h2
    ·subst hA
     show (l.length - (i+1)).toNat<(l.length - i).toNat
     omega
  ·rename_i h1
   have h1':¬i<l.length:=by subst hA;rw [<-hll];simpa [Ze] using h1
   conv=>cbv
   rw [<-hq,Yd]
   intro y hy
   refine hi.2.2 y ?_
   rw [Zyl (by omega)]
   exact hy
theorem ZeM {g:FuncId} {caps xs:List PV} (p:(List Y2)->Bool) (l:List (List Y2)) (hxs:xs=Z3 l) (hg:∀x∈l,Zc Tryz.prog g (ZdO x::caps) (.bool (p x))) :
  Zc Tryz.prog 236 [.list 1 xs,.fn g caps] (.bool (l.any p)):=by
 refine Zb (clo:=λ _=>false) (rows:=false) Zg Tryz.func236 rfl (enters_of Tryz.func236 (by kernel_rfl) rfl) (λ A q P Y hr hA hq=>?_)
 conv=>cbv
 refine Za hA (ZgB p l hxs hg) ?_
 obtain ⟨r,hr⟩:∃r,r=QY p l:=⟨_,rfl⟩
 rw [<-hr]
 conv=>cbv
 rw [<-hq,<-YV,<-hr]
 subst hA
 rfl
theorem ZhY {g:FuncId} {caps xs:List PV} (p:Qy->Bool) (l:List Qy) (hxs:xs=ZI l) (hg:∀x∈l,Zc Tryz.prog g (Ys x::caps) (.bool (p x))) :
  Zc Tryz.prog 239 [.list 5 xs,.fn g caps] (.int .i64 (QY p l)):=by
 refine Zb (clo:=λ _=>false) (rows:=false) Zg Tryz.func239 rfl (enters_of Tryz.func239 (by kernel_rfl) rfl) (λ A q P Y hr hA hq=>?_)
 have hlen:=(hr.mem (p:=.list 5 xs) (by simp)).len
 have hll:xs.length=l.length:=by rw [hxs];simp [ZI]
 conv=>cbv
 refine Zi hA (λ (i:Int) s=>s.put (some 8) (.val (.int .i64 i))) (λ i=>0<=i/\i<=l.length/\∀x∈l.take i.toNat,p x=false) (λ i=>(l.length - i).toNat) 0 ?_ ?_ ?_
 ·conv=>cbv
  exact Zk (by simp [leL,leS])
 ·exact ⟨Zyk _,by omega,by simp⟩
 ·intro R i hi hR
  conv=>cbv
  split
  ·rename_i h1
   have h1':i<l.length:=by subst hA;rw [<-hll];simpa [Ze] using h1
   conv=>cbv
   refine Zad hA hxs hi.1 h1' (λ x v0 v1 hx hv0 hv1=>?_)
   conv=>cbv
   refine YC hA (hg x (Zyb hx)) (by simp [Ys,hv0,hv1]) ?_
   have htake:=Zo hi.1 hx
   conv=>cbv
   split
   ·rename_i h2
    conv=>cbv
    rw [<-hq,YI hi.1 hx h2 hi.2.2]
   ·rename_i h2
    conv=>cbv
    refine ⟨by subst hA;show Zj (i+1);unfold Zj;omega,hR (A.iAdd i 1) _ (by (conv=>cbv);exact Zk (by simp [leL,leS])) ?_ ?_⟩
    ·subst hA
     show 0<=i+1/\i+1<=l.length/\∀x∈l.take (i+1).toNat,p x=false
     refine ⟨by omega,by omega,λ y hy=>?_⟩
     rw [htake,Zy4] at hy
     rcases hy with hy | hy
     ·exact hi.2.2 y hy
     ·rw [Zy3.1 hy];exact h2
    ·subst hA
     show (l.length - (i+1)).toNat<(l.length - i).toNat
     omega
  ·rename_i h1
   have h1':¬i<l.length:=by subst hA;rw [<-hll];simpa [Ze] using h1
   conv=>cbv
   rw [<-hq,Yd]
   intro y hy
   refine hi.2.2 y ?_
   rw [Zyl (by omega)]
   exact hy
theorem ZfY {g:FuncId} {caps xs:List PV} (p:Qy->Bool) (l:List Qy) (hxs:xs=ZI l) (hg:∀x∈l,Zc Tryz.prog g (Ys x::caps) (.bool (p x))) :
  Zc Tryz.prog 180 [.list 5 xs,.fn g caps] (.bool (l.any p)):=by
 refine Zb (clo:=λ _=>false) (rows:=false) Zg Tryz.func180 rfl (enters_of Tryz.func180 (by kernel_rfl) rfl) (λ A q P Y hr hA hq=>?_)
 conv=>cbv
 refine Za hA (ZhY p l hxs hg) ?_
 obtain ⟨r,hr⟩:∃r,r=QY p l:=⟨_,rfl⟩
 rw [<-hr]
 conv=>cbv
 rw [<-hq,<-YV,<-hr]
 subst hA
 rfl
theorem ZoA {g:FuncId} {caps:List PV} (p:Qy->Bool) (x:Qy) (hg:Zc Tryz.prog g (Ys x::caps) (.bool (p x))) :
  Zc Tryz.prog 181 [Ys x,.ptr [.fn g caps] 0] (.bool (!p x)):=by
 refine Zb (clo:=λ _=>false) (rows:=false) Zg Tryz.func181 rfl (enters_of Tryz.func181 (by kernel_rfl) rfl) (λ A q P Y hr hA hq=>?_)
 rw [show Ys x=.agg [.str x.Name,.list 1 (ZbW x.Names),.list 1 (Zd x.Volumes),.int .i64 x.Radar,.int .i64 x.Procedural] from rfl] at hg ⊢
 generalize ZbW x.Names=u0 at hg ⊢
 generalize Zd x.Volumes=u1 at hg ⊢
 conv=>cbv
 refine Za hA hg ?_
 conv=>cbv
 rw [<-hq]
 subst hA
 rfl
theorem ZqC {g:FuncId} {caps xs:List PV} (p:Qy->Bool) (l:List Qy) (hxs:xs=ZI l) (hg:∀x∈l,Zc Tryz.prog g (Ys x::caps) (.bool (p x))) :
  Zc Tryz.prog 121 [.list 5 xs,.fn g caps] (.bool (l.all p)):=by
 refine Zb (clo:=λ _=>false) (rows:=false) Zg Tryz.func121 rfl (enters_of Tryz.func121 (by kernel_rfl) rfl) (λ A q P Y hr hA hq=>?_)
 conv=>cbv
 refine Za hA (ZfY (λ x=>!p x) l hxs (λ x hx=>ZoA p x (hg x hx))) ?_
 obtain ⟨r,hr⟩:∃r,r=l.any (λ x=>!p x):=⟨_,rfl⟩
 rw [<-hr]
 conv=>cbv
 rw [<-hq]
 subst hA
 show PV.bool (!r)=_
 rw [hr]
 simp [ZzK]
theorem Zlo {g:FuncId} {caps xs:List PV} (p:Leg->Bool) (l:List Leg) (hxs:xs=Qp l) (hg:∀x∈l,Zc Tryz.prog g (Zac x::caps) (.bool (p x))) :
  Zc Tryz.prog 234 [.list 4 xs,.fn g caps] (.int .i64 (QY p l)):=by
 refine Zb (clo:=λ _=>false) (rows:=false) Zg Tryz.func234 rfl (enters_of Tryz.func234 (by kernel_rfl) rfl) (λ A q P Y hr hA hq=>?_)
 have hlen:=(hr.mem (p:=.list 4 xs) (by simp)).len
 have hll:xs.length=l.length:=by rw [hxs];simp [Qp]
 conv=>cbv
 refine Zi hA (λ (i:Int) s=>s.put (some 8) (.val (.int .i64 i))) (λ i=>0<=i/\i<=l.length/\∀x∈l.take i.toNat,p x=false) (λ i=>(l.length - i).toNat) 0 ?_ ?_ ?_
 ·conv=>cbv
  exact Zk (by simp [leL,leS])
 ·exact ⟨Zyk _,by omega,by simp⟩
 ·intro R i hi hR
  conv=>cbv
  split
  ·rename_i h1
   have h1':i<l.length:=by subst hA;rw [<-hll];simpa [Ze] using h1
   conv=>cbv
   refine Zdl hA hxs hi.1 h1' (λ x v0 hx hv0=>?_)
   conv=>cbv
   refine YC hA (hg x (Zyb hx)) (by simp [Zac,hv0]) ?_
   have htake:=Zo hi.1 hx
   conv=>cbv
   split
   ·rename_i h2
    conv=>cbv
    rw [<-hq,YI hi.1 hx h2 hi.2.2]
   ·rename_i h2
    conv=>cbv
    refine ⟨by subst hA;show Zj (i+1);unfold Zj;omega,hR (A.iAdd i 1) _ (by (conv=>cbv);exact Zk (by simp [leL,leS])) ?_ ?_⟩
    ·subst hA
     show 0<=i+1/\i+1<=l.length/\∀x∈l.take (i+1).toNat,p x=false
     refine ⟨by omega,by omega,λ y hy=>?_⟩
     rw [htake,Zy4] at hy
     rcases hy with hy | hy
     ·exact hi.2.2 y hy
     ·rw [Zy3.1 hy];exact h2
    ·subst hA
     show (l.length - (i+1)).toNat<(l.length - i).toNat
     omega
  ·rename_i h1
   have h1':¬i<l.length:=by subst hA;rw [<-hll];simpa [Ze] using h1
   conv=>cbv
   rw [<-hq,Yd]
   intro y hy
   refine hi.2.2 y ?_
   rw [Zyl (by omega)]
   exact hy
theorem ZdR {g:FuncId} {caps xs:List PV} (p:Leg->Bool) (l:List Leg) (hxs:xs=Qp l) (hg:∀x∈l,Zc Tryz.prog g (Zac x::caps) (.bool (p x))) :
  Zc Tryz.prog 176 [.list 4 xs,.fn g caps] (.bool (l.any p)):=by
 refine Zb (clo:=λ _=>false) (rows:=false) Zg Tryz.func176 rfl (enters_of Tryz.func176 (by kernel_rfl) rfl) (λ A q P Y hr hA hq=>?_)
 conv=>cbv
 refine Za hA (Zlo p l hxs hg) ?_
 obtain ⟨r,hr⟩:∃r,r=QY p l:=⟨_,rfl⟩
 rw [<-hr]
 conv=>cbv
 rw [<-hq,<-YV,<-hr]
 subst hA
 rfl
theorem ZtU {g:FuncId} {caps:List PV} (p:Leg->Bool) (x:Leg) (hg:Zc Tryz.prog g (Zac x::caps) (.bool (p x))) :
  Zc Tryz.prog 177 [Zac x,.ptr [.fn g caps] 0] (.bool (!p x)):=by
 refine Zb (clo:=λ _=>false) (rows:=false) Zg Tryz.func177 rfl (enters_of Tryz.func177 (by kernel_rfl) rfl) (λ A q P Y hr hA hq=>?_)
 rw [show Zac x=.agg [.int .i64 x.Segment,.int .i64 x.Volume,.int .i64 x.Length,.list 2 (Z4 x.Minutes)] from rfl] at hg ⊢
 generalize Z4 x.Minutes=u0 at hg ⊢
 conv=>cbv
 refine Za hA hg ?_
 conv=>cbv
 rw [<-hq]
 subst hA
 rfl
theorem Zvv {g:FuncId} {caps xs:List PV} (p:Leg->Bool) (l:List Leg) (hxs:xs=Qp l) (hg:∀x∈l,Zc Tryz.prog g (Zac x::caps) (.bool (p x))) :
  Zc Tryz.prog 116 [.list 4 xs,.fn g caps] (.bool (l.all p)):=by
 refine Zb (clo:=λ _=>false) (rows:=false) Zg Tryz.func116 rfl (enters_of Tryz.func116 (by kernel_rfl) rfl) (λ A q P Y hr hA hq=>?_)
 conv=>cbv
 refine Za hA (ZdR (λ x=>!p x) l hxs (λ x hx=>ZtU p x (hg x hx))) ?_
 obtain ⟨r,hr⟩:∃r,r=l.any (λ x=>!p x):=⟨_,rfl⟩
 rw [<-hr]
 conv=>cbv
 rw [<-hq]
 subst hA
 show PV.bool (!r)=_
 rw [hr]
 simp [ZzK]
theorem Zlp {g:FuncId} {caps xs:List PV} (p:Way->Bool) (l:List Way) (hxs:xs=Q3 l) (hg:∀x∈l,Zc Tryz.prog g (Zb8 x::caps) (.bool (p x))) :
  Zc Tryz.prog 241 [.list 3 xs,.fn g caps] (.int .i64 (QY p l)):=by
 refine Zb (clo:=λ _=>false) (rows:=false) Zg Tryz.func241 rfl (enters_of Tryz.func241 (by kernel_rfl) rfl) (λ A q P Y hr hA hq=>?_)
 have hlen:=(hr.mem (p:=.list 3 xs) (by simp)).len
 have hll:xs.length=l.length:=by rw [hxs];simp [Q3]
 conv=>cbv
 refine Zi hA (λ (i:Int) s=>s.put (some 8) (.val (.int .i64 i))) (λ i=>0<=i/\i<=l.length/\∀x∈l.take i.toNat,p x=false) (λ i=>(l.length - i).toNat) 0 ?_ ?_ ?_
 ·conv=>cbv
  exact Zk (by simp [leL,leS])
 ·exact ⟨Zyk _,by omega,by simp⟩
 ·intro R i hi hR
  conv=>cbv
  split
  ·rename_i h1
   have h1':i<l.length:=by subst hA;rw [<-hll];simpa [Ze] using h1
   conv=>cbv
   refine Ym hA hxs hi.1 h1' (λ x v0 hx hv0=>?_)
   conv=>cbv
   refine YC hA (hg x (Zyb hx)) (by simp [Zb8,hv0]) ?_
   have htake:=Zo hi.1 hx
   conv=>cbv
   split
   ·rename_i h2
    conv=>cbv
    rw [<-hq,YI hi.1 hx h2 hi.2.2]
   ·rename_i h2
    conv=>cbv
    refine ⟨by subst hA;show Zj (i+1);unfold Zj;omega,hR (A.iAdd i 1) _ (by (conv=>cbv);exact Zk (by simp [leL,leS])) ?_ ?_⟩
    ·subst hA
     show 0<=i+1/\i+1<=l.length/\∀x∈l.take (i+1).toNat,p x=false
     refine ⟨by omega,by omega,λ y hy=>?_⟩
     rw [htake,Zy4] at hy
     rcases hy with hy | hy
     ·exact hi.2.2 y hy
     ·rw [Zy3.1 hy];exact h2
    ·subst hA
     show (l.length - (i+1)).toNat<(l.length - i).toNat
     omega
  ·rename_i h1
   have h1':¬i<l.length:=by subst hA;rw [<-hll];simpa [Ze] using h1
   conv=>cbv
   rw [<-hq,Yd]
   intro y hy
   refine hi.2.2 y ?_
   rw [Zyl (by omega)]
   exact hy
theorem ZhZ {g:FuncId} {caps xs:List PV} (p:Way->Bool) (l:List Way) (hxs:xs=Q3 l) (hg:∀x∈l,Zc Tryz.prog g (Zb8 x::caps) (.bool (p x))) :
  Zc Tryz.prog 184 [.list 3 xs,.fn g caps] (.bool (l.any p)):=by
 refine Zb (clo:=λ _=>false) (rows:=false) Zg Tryz.func184 rfl (enters_of Tryz.func184 (by kernel_rfl) rfl) (λ A q P Y hr hA hq=>?_)
 conv=>cbv
 refine Za hA (Zlp p l hxs hg) ?_
 obtain ⟨r,hr⟩:∃r,r=QY p l:=⟨_,rfl⟩
 rw [<-hr]
 conv=>cbv
 rw [<-hq,<-YV,<-hr]
 subst hA
 rfl
theorem ZtV {g:FuncId} {caps:List PV} (p:Way->Bool) (x:Way) (hg:Zc Tryz.prog g (Zb8 x::caps) (.bool (p x))) :
  Zc Tryz.prog 185 [Zb8 x,.ptr [.fn g caps] 0] (.bool (!p x)):=by
 refine Zb (clo:=λ _=>false) (rows:=false) Zg Tryz.func185 rfl (enters_of Tryz.func185 (by kernel_rfl) rfl) (λ A q P Y hr hA hq=>?_)
 rw [show Zb8 x=.agg [.int .i64 x.From,.int .i64 x.To,.list 4 (Qp x.Legs)] from rfl] at hg ⊢
 generalize Qp x.Legs=u0 at hg ⊢
 conv=>cbv
 refine Za hA hg ?_
 conv=>cbv
 rw [<-hq]
 subst hA
 rfl
theorem Zvw {g:FuncId} {caps xs:List PV} (p:Way->Bool) (l:List Way) (hxs:xs=Q3 l) (hg:∀x∈l,Zc Tryz.prog g (Zb8 x::caps) (.bool (p x))) :
  Zc Tryz.prog 123 [.list 3 xs,.fn g caps] (.bool (l.all p)):=by
 refine Zb (clo:=λ _=>false) (rows:=false) Zg Tryz.func123 rfl (enters_of Tryz.func123 (by kernel_rfl) rfl) (λ A q P Y hr hA hq=>?_)
 conv=>cbv
 refine Za hA (ZhZ (λ x=>!p x) l hxs (λ x hx=>ZtV p x (hg x hx))) ?_
 obtain ⟨r,hr⟩:∃r,r=l.any (λ x=>!p x):=⟨_,rfl⟩
 rw [<-hr]
 conv=>cbv
 rw [<-hq]
 subst hA
 show PV.bool (!r)=_
 rw [hr]
 simp [ZzK]
theorem ZjZ {g:FuncId} {caps xs:List PV} (p:Y3->Bool) (l:List Y3) (hxs:xs=ZY l) (hg:∀x∈l,Zc Tryz.prog g (ZU x::caps) (.bool (p x))) :
  Zc Tryz.prog 242 [.list 6 xs,.fn g caps] (.int .i64 (QY p l)):=by
 refine Zb (clo:=λ _=>false) (rows:=false) Zg Tryz.func242 rfl (enters_of Tryz.func242 (by kernel_rfl) rfl) (λ A q P Y hr hA hq=>?_)
 have hlen:=(hr.mem (p:=.list 6 xs) (by simp)).len
 have hll:xs.length=l.length:=by rw [hxs];simp [ZY]
 conv=>cbv
 refine Zi hA (λ (i:Int) s=>s.put (some 8) (.val (.int .i64 i))) (λ i=>0<=i/\i<=l.length/\∀x∈l.take i.toNat,p x=false) (λ i=>(l.length - i).toNat) 0 ?_ ?_ ?_
 ·conv=>cbv
  exact Zk (by simp [leL,leS])
 ·exact ⟨Zyk _,by omega,by simp⟩
 ·intro R i hi hR
  conv=>cbv
  split
  ·rename_i h1
   have h1':i<l.length:=by subst hA;rw [<-hll];simpa [Ze] using h1
   conv=>cbv
   refine Q6 hA hxs hi.1 h1' (λ x v0 hx hv0=>?_)
   conv=>cbv
   refine YC hA (hg x (Zyb hx)) (by simp [ZU,hv0]) ?_
   have htake:=Zo hi.1 hx
   conv=>cbv
   split
   ·rename_i h2
    conv=>cbv
    rw [<-hq,YI hi.1 hx h2 hi.2.2]
   ·rename_i h2
    conv=>cbv
    refine ⟨by subst hA;show Zj (i+1);unfold Zj;omega,hR (A.iAdd i 1) _ (by (conv=>cbv);exact Zk (by simp [leL,leS])) ?_ ?_⟩
    ·subst hA
     show 0<=i+1/\i+1<=l.length/\∀x∈l.take (i+1).toNat,p x=false
     refine ⟨by omega,by omega,λ y hy=>?_⟩
     rw [htake,Zy4] at hy
     rcases hy with hy | hy
     ·exact hi.2.2 y hy
     ·rw [Zy3.1 hy];exact h2
    ·subst hA
     show (l.length - (i+1)).toNat<(l.length - i).toNat
     omega
  ·rename_i h1
   have h1':¬i<l.length:=by subst hA;rw [<-hll];simpa [Ze] using h1
   conv=>cbv
   rw [<-hq,Yd]
   intro y hy
   refine hi.2.2 y ?_
   rw [Zyl (by omega)]
   exact hy
theorem Zhn {g:FuncId} {caps xs:List PV} (p:Y3->Bool) (l:List Y3) (hxs:xs=ZY l) (hg:∀x∈l,Zc Tryz.prog g (ZU x::caps) (.bool (p x))) :
  Zc Tryz.prog 186 [.list 6 xs,.fn g caps] (.bool (l.any p)):=by
 refine Zb (clo:=λ _=>false) (rows:=false) Zg Tryz.func186 rfl (enters_of Tryz.func186 (by kernel_rfl) rfl) (λ A q P Y hr hA hq=>?_)
 conv=>cbv
 refine Za hA (ZjZ p l hxs hg) ?_
 obtain ⟨r,hr⟩:∃r,r=QY p l:=⟨_,rfl⟩
 rw [<-hr]
 conv=>cbv
 rw [<-hq,<-YV,<-hr]
 subst hA
 rfl
theorem Zsy {g:FuncId} {caps:List PV} (p:Y3->Bool) (x:Y3) (hg:Zc Tryz.prog g (ZU x::caps) (.bool (p x))) :
  Zc Tryz.prog 187 [ZU x,.ptr [.fn g caps] 0] (.bool (!p x)):=by
 refine Zb (clo:=λ _=>false) (rows:=false) Zg Tryz.func187 rfl (enters_of Tryz.func187 (by kernel_rfl) rfl) (λ A q P Y hr hA hq=>?_)
 rw [show ZU x=.agg [.int .i64 x.Slow,.int .i64 x.Fast,.int .i64 x.Places,.int .i64 x.Weight,.int .i64 x.Longest,.list 1 (Z3 x.Curfews)] from rfl] at hg ⊢
 generalize Z3 x.Curfews=u0 at hg ⊢
 conv=>cbv
 refine Za hA hg ?_
 conv=>cbv
 rw [<-hq]
 subst hA
 rfl
theorem ZtW {g:FuncId} {caps xs:List PV} (p:Y3->Bool) (l:List Y3) (hxs:xs=ZY l) (hg:∀x∈l,Zc Tryz.prog g (ZU x::caps) (.bool (p x))) :
  Zc Tryz.prog 124 [.list 6 xs,.fn g caps] (.bool (l.all p)):=by
 refine Zb (clo:=λ _=>false) (rows:=false) Zg Tryz.func124 rfl (enters_of Tryz.func124 (by kernel_rfl) rfl) (λ A q P Y hr hA hq=>?_)
 conv=>cbv
 refine Za hA (Zhn (λ x=>!p x) l hxs (λ x hx=>Zsy p x (hg x hx))) ?_
 obtain ⟨r,hr⟩:∃r,r=l.any (λ x=>!p x):=⟨_,rfl⟩
 rw [<-hr]
 conv=>cbv
 rw [<-hq]
 subst hA
 show PV.bool (!r)=_
 rw [hr]
 simp [ZzK]
end Go.Abs
namespace Go.Abs
def inB (n lo hi:Int):Bool:=decide (lo<=n)&&decide (n<=hi)
def ZaE (s:Y2):Bool:=decide (s.From<0) || decide (s.To<=s.From) || decide (1440<s.To)
def Yt (l:List Y2):Bool:=!l.any ZaE
def QU:List Int->Bool
 | a::b::c::r=>!(decide (a<b) || decide (c<a))&&QU r
 | _=>true
def Y9 (k:Y3):Bool :=
 QU [k.Slow,1,64,k.Fast,k.Slow,64,k.Places,1,8,k.Weight,1,8,k.Longest,0,60,(k.Curfews.length:Int),0,16]&&decide (k.Longest.tmod 10=0)&&!k.Curfews.any (λ l=>!Yt l)
def Zaq (x:Nat) (l:List Int):Nat:=l.foldl (λ x v=>x ||| 2 ^ v.toNat) x
def ZaU (n:Nat):Nat->List Int->Bool
 | _,[]=>true
 | x,v::r=>decide (0<=v)&&decide (v<n)&&decide (x &&& 2 ^ v.toNat=0)&&ZaU n (x ||| 2 ^ v.toNat) r
def Yb (n:Nat) (s:Qy):Bool:=ZaU n 0 s.Volumes&&decide (Zaq 0 s.Volumes≠0)
def Zd4 (l:List Nat):Nat->List Int->Bool
 | _,[]=>true
 | x,s::r=>decide (0<=s)&&decide (s<l.length)&&decide (x &&& l.getD s.toNat 0=0)&&Zd4 l (x ||| l.getD s.toNat 0) r
def Zd5 (l:List Nat) (x:Nat) (c:List Int):Nat:=c.foldl (λ x s=>x ||| l.getD s.toNat 0) x
def Qn (l:List Qy):List Nat:=l.map λ s=>Zaq 0 s.Volumes
def Za8 (n:Nat) (l:List Nat) (c:Config):Bool:=Zd4 l 0 c.Sectors&&decide (Zd5 l 0 c.Sectors=2 ^ n - 1)
def Zar (n:Nat) (ss:List Qy) (cs:List Config):Bool :=
 decide (1<=n)&&decide (n<=64)&&decide (ss.length<=64)&&decide (1<=cs.length)&&decide (cs.length<=32)&&ss.all (Yb n)&&cs.all (Za8 n (Qn ss))
def Zb9 (s:Qy):Bool:=inB s.Radar 0 64&&inB s.Procedural 0 s.Radar
def Zd6 (l:List Int):Bool:=inB l.length 1 16&&l.all λ n=>inB n 0 64
def ZcE (nv:Int) (x:Leg):Bool:=inB x.Segment 0 127&&inB x.Volume 0 (nv - 1)&&inB x.Length 1 4096&&decide (0<x.Minutes.length)&&Yt x.Minutes
def Zcj (nv nm:Int) (w:Way):Bool:=inB w.From 0 (nm - 1)&&inB w.To 0 (nm - 1)&&inB w.Legs.length 1 8&&w.Legs.all (ZcE nv)
def Qe (t:Zh):Bool :=
 inB t.Volumes 1 64&&Zar t.Volumes.toNat t.Sectors t.Configs&&t.Sectors.all Zb9&&decide (t.Modes.length<=16)&&t.Modes.all Zd6&&decide (t.Ways.length<=64)&&t.Ways.all (Zcj t.Volumes t.Modes.length) &&
  decide (t.Kinds.length<=8)&&t.Kinds.all λ k=>Y9 k&&decide (k.Curfews.length=t.Modes.length)
def Qc:Int->List Int->Bool
 | _,[]=>true
 | p,t::r=>decide (0<=t)&&decide (t<=65535)&&decide (p<t)&&Qc t r
def Yx (ws:List Way) (p:Qo):Bool :=
 match (if 0<=p.Way then ws[p.Way.toNat]? else none) with
 | none=>false
 | some w=>decide (p.Times.length=w.Legs.length+1)&&Qc (-1) p.Times
def Qf:List Leg->List Int->List Zes
 | x::r,a::b::ts=>⟨false,x.Volume,⟨a,b⟩⟩::Qf r (b::ts)
 | _,_=>[]
def Zbm (w:Way) (ts:List Int):List Zes :=
 ⟨true,w.From,⟨ts.headD 0,ts.headD 0+1⟩⟩::Qf w.Legs ts++[⟨true,w.To,⟨ts.getLastD 0,ts.getLastD 0+1⟩⟩]
theorem Zfh {t:Zh} (h:Qe t=true) {w:Way} (hw:w∈t.Ways):w.Legs.length<=8/\1<=w.Legs.length:=by
 unfold Qe at h
 simp only [Zyi,Zym] at h
 have:=h.1.1.2 w hw
 simp only [Zcj,inB,Zyi,Zyf] at this
 omega
open Go.RowKit
def ZqD (n:Nat):PV:=.int .u64 (n:Int)
def ZbY (l:List Nat):List PV:=l.map ZqD
section
variable {A:Ops} {E:Env}
theorem Zho {n:Nat} (h:n<2 ^ 64):IntKind.u64.wrap (n:Int)=(n:Int):=by
 unfold IntKind.wrap
 simp [IntKind.bits,IntKind.signed]
 omega
theorem Zvx {v:Int} (h0:0<=v) (h1:v<64):(Ze E).wShl .u64 1 v=((2 ^ v.toNat:Nat):Int):=by
 show IntKind.u64.wrap (1*2 ^ v.toNat)=_
 rw [Int.one_mul,show ((2:Int) ^ v.toNat)=((2 ^ v.toNat:Nat):Int) by simp]
 exact Zho (Z0v (by omega) (by omega))
theorem Zw4 {x y:Nat} (hx:x<2 ^ 64):(BitVec.ofInt 64 (x:Int) &&& BitVec.ofInt 64 (y:Int)).toNat=x &&& y:=by
 rw [BitVec.ofInt_natCast,BitVec.ofInt_natCast,BitVec.toNat_and,BitVec.toNat_ofNat,BitVec.toNat_ofNat,ZzF hx]
 apply Z0x
 intro i
 rw [Z02,Z02,Nat.testBit_mod_two_pow]
 by_cases hi:i<64
 ·simp [hi]
 ·have:x.testBit i=false:=Nat.testBit_lt_two_pow (Zy7 hx (Nat.pow_le_pow_right (by omega) (by omega)))
  simp [this]
theorem Zxg {x y:Nat} (hx:x<2 ^ 64) (hy:y<2 ^ 64):(BitVec.ofInt 64 (x:Int) ||| BitVec.ofInt 64 (y:Int)).toNat=x ||| y:=by
 rw [BitVec.ofInt_natCast,BitVec.ofInt_natCast,BitVec.toNat_or,BitVec.toNat_ofNat,BitVec.toNat_ofNat,ZzF hx,ZzF hy]
theorem ZrL {x y:Nat} (hx:x<2 ^ 64):(Ze E).wOp .and .u64 x y=((x &&& y:Nat):Int):=by
 show IntKind.u64.wrap (((BitVec.ofInt 64 (x:Int) &&& BitVec.ofInt 64 (y:Int)).toNat:Nat):Int)=_
 rw [Zw4 hx]
 exact Zho (Nat.lt_of_le_of_lt Nat.and_le_left hx)
theorem ZtX {x y:Nat} (hx:x<2 ^ 64) (hy:y<2 ^ 64):(Ze E).wOp .or .u64 x y=((x ||| y:Nat):Int):=by
 show IntKind.u64.wrap (((BitVec.ofInt 64 (x:Int) ||| BitVec.ofInt 64 (y:Int)).toNat:Nat):Int)=_
 rw [Zxg hx hy]
 exact Zho (ZzX hx hy)
theorem ZoB {v:Int} (h1:v<64):2 ^ v.toNat<2 ^ 64:=Z0v (by omega) (by omega)
theorem Zng (hA:A=Ze E) {l:List Nat} {xs:List PV} (hx:xs=ZbY l) {n:Int} {K:List PV->Prop} (h0:0<=n) (h1:n<l.length) (hk:∀x,l[n.toNat]?=some x->K [.int .u64 (x:Int)]):A.idx xs n K :=
 Ya hA (l:=l) (enc:=ZqD) hx.symm h0 h1 λ x h=>hk x h
theorem Zvy {n:Nat} (h1:1<=n) (h2:n<=64):(Ze E).wShr 18446744073709551615 (64 - (n:Int))=((2 ^ n - 1:Nat):Int):=by
 show (18446744073709551615:Int).fdiv (2 ^ (64 - (n:Int)).toNat)=_
 have e:(64 - (n:Int)).toNat=64 - n:=by omega
 rw [e]
 have:∀m:Fin 65,1<=m.val->(18446744073709551615:Int).fdiv (2 ^ (64 - m.val))=((2 ^ m.val - 1:Nat):Int):=by decide +kernel
 exact this ⟨n,by omega⟩ h1
theorem ZqE {ss:List Qy} {n:Nat} (hn:n<=64) (h:ss.all (Yb n)=true):∀x∈Qn ss,x<2 ^ 64:=by
 have key:∀(vs:List Int) (x:Nat),x<2 ^ 64->ZaU n x vs=true->Zaq x vs<2 ^ 64:=by
  intro vs
  induction vs with
  | nil=>intro x hx _;exact hx
  | cons v r ih =>
   intro x hx hi
   simp only [ZaU,Zyi,Zyf] at hi
   exact ih _ (ZzX hx (ZoB (by omega))) hi.2
 intro x hx
 simp only [Qn,Zyz] at hx
 obtain ⟨s,hs,rfl⟩:=hx
 have:=Zym.1 h s hs
 simp only [Yb,Zyi] at this
 exact key _ 0 (by omega) this.1
end
open Go.RowKit
section
variable {A:Ops} {E:Env}
theorem nT (hA:A=Ze E) (h:A.bNot true=true):False:=by subst hA;cases h
theorem nF (hA:A=Ze E) (h:A.bNot false=false):False:=by subst hA;cases h
theorem Yy (hA:A=Ze E) {b:Bool} (h:A.bNot b=true):b=false:=by subst hA;simpa [Ze] using h
theorem YP (hA:A=Ze E) {b:Bool} (h:A.bNot b=false):b=true:=by subst hA;simpa [Ze] using h
theorem ltT (hA:A=Ze E) {a b:Int} (h:A.iLt a b=true):a<b:=by subst hA;simpa [Ze] using h
theorem ltF (hA:A=Ze E) {a b:Int} (h:A.iLt a b=false):b<=a:=by subst hA;simp [Ze] at h;omega
theorem leT (hA:A=Ze E) {a b:Int} (h:A.iLe a b=true):a<=b:=by subst hA;simpa [Ze] using h
theorem leF (hA:A=Ze E) {a b:Int} (h:A.iLe a b=false):b<a:=by subst hA;simp [Ze] at h;omega
theorem eqT (hA:A=Ze E) {a b:Int} (h:A.iEq a b=true):a=b:=by subst hA;simpa [Ze] using h
theorem eqF (hA:A=Ze E) {a b:Int} (h:A.iEq a b=false):a≠b:=by subst hA;simpa [Ze] using h
theorem neT (hA:A=Ze E) {a b:Int} (h:A.bNot (A.iEq a b)=true):a≠b:=eqF hA (Yy hA h)
theorem neF (hA:A=Ze E) {a b:Int} (h:A.bNot (A.iEq a b)=false):a=b:=eqT hA (YP hA h)
theorem ZE (hA:A=Ze E) {a b a' b':Int} (ha:a=a') (hb:b=b') (h:A.iLt a b=true):a'<b':=by subst ha hb;exact ltT hA h
theorem ZK (hA:A=Ze E) {a b a' b':Int} (ha:a=a') (hb:b=b') (h:A.iLt a b=false):b'<=a':=by subst ha hb;exact ltF hA h
theorem Zhp (hA:A=Ze E) {a b a' b':Int} (ha:a=a') (hb:b=b') (h:A.iLe a b=true):a'<=b':=by subst ha hb;exact leT hA h
theorem Zia (hA:A=Ze E) {a b a' b':Int} (ha:a=a') (hb:b=b') (h:A.iLe a b=false):b'<a':=by subst ha hb;exact leF hA h
theorem ZdS (hA:A=Ze E) {a b a' b':Int} (ha:a=a') (hb:b=b') (h:A.iEq a b=true):a'=b':=by subst ha hb;exact eqT hA h
theorem ZeN (hA:A=Ze E) {a b a' b':Int} (ha:a=a') (hb:b=b') (h:A.iEq a b=false):a'≠b':=by subst ha hb;exact eqF hA h
theorem Zew (hA:A=Ze E) {a b a' b':Int} (ha:a=a') (hb:b=b') (h:A.bNot (A.iEq a b)=true):a'≠b':=by subst ha hb;exact neT hA h
theorem Zka (hA:A=Ze E) {a b a' b':Int} (ha:a=a') (hb:b=b') (h:A.bNot (A.iEq a b)=false):a'=b':=by subst ha hb;exact neF hA h
theorem ZxA (hA:A=Ze E) (a b:Int):A.iEq a b=decide (a=b):=by subst hA;rfl
theorem Z5 (hA:A=Ze E) (a b:Int):A.iAdd a b=a+b:=by subst hA;rfl
theorem ZbJ (hA:A=Ze E) (a b:Int):A.iSub a b=a - b:=by subst hA;rfl
theorem Zkb (hA:A=Ze E) (a b:Int):A.iMul a b=a*b:=by subst hA;rfl
theorem Zvz (hA:A=Ze E) (a b:Int):A.iMod a b=a.tmod b:=by subst hA;rfl
theorem ZxB (hA:A=Ze E) (a b:Int):A.iDiv a b=a.tdiv b:=by subst hA;rfl
theorem Zl (hA:A=Ze E) {xs:List PV} {n:Nat} (h:xs.length=n):A.lLen xs=(n:Int):=by subst hA;subst h;rfl
theorem Zhq (hA:A=Ze E) (n:Nat):A.iNat n=(n:Int):=by subst hA;rfl
theorem Zib (hA:A=Ze E) (n:Int):A.nNat n=n.toNat:=by subst hA;rfl
theorem Zy (hA:A=Ze E) {a b:Int} (e:a=b) (h:Zj b):A.inR a:=by subst hA;subst e;exact h
theorem Zdo (hA:A=Ze E) {a b c:Int} (e:b=c) (h0:0<=a) (h:a<c):A.within a b:=by subst hA;subst e;exact ⟨h0,h⟩
end
theorem ZS {α:Type} {p:α->Prop} {l l':List α} {y:α} (e:l'=l++[y]) (h:∀x∈l,p x) (hy:p y):∀x∈l',p x:=by
 subst e
 intro x hx
 rcases Zy4.1 hx with h1 | h1
 ·exact h x h1
 ·rw [Zy3.1 h1];exact hy
theorem Q7 {α:Type} {p:α->Prop} {l:List α} {i:Int} (hi:i=(l.length:Int)) (h:∀x∈l.take i.toNat,p x):∀x∈l,p x:=by
 rw [Zyl (by omega)] at h
 exact h
theorem Zwd {α:Type} {p:α->Bool} {l:List α} (h:∀x∈l,p x=false):l.any p=false:=by rw [Zz1];intro x hx;simp [h x hx]
theorem Zxh {α:Type} {p:α->Bool} {l:List α} (h:∀x∈l,p x=true):l.all p=true:=by rw [Zym];exact h
theorem ZcF (s:SV):leS s s:=(ZdJ [s]).1
theorem Zv {s:SV} {l l':List SV} (h:leL l l'):leL (s::l) (s::l'):=⟨ZcF s,h⟩
theorem ZH {s:SV} {l l':List SV} (h:leL l l'):leL (s::l) (SV.val .any::l'):=⟨trivial,h⟩
theorem Za6 {t m:Nat} {xs:List PV} {l l':List SV} (h:leL l l'):leL (.own t m xs::l) (SV.val (.list m xs)::l'):=⟨.inr (.inl rfl),h⟩
theorem Zbn {m:Nat} {xs:List PV} {l l':List SV} (h:leL l l'):leL (.lit m xs::l) (SV.val (.list m xs)::l'):=⟨.inr (.inl rfl),h⟩
theorem Z9:leL [] []:=trivial
open Go.RowKit
inductive LeP:PV->PV->Prop
 | refl (p:PV):LeP p p
 | nil (m m':Nat) (h0:m'=0->m=0:=by first | decide | (intro h;cases h) | exact λ h=>h):LeP (.list m []) (.list m' [])
 | list (m:Nat) (xs ys:List PV) (hl:xs.length=ys.length) (h:∀(i:Nat) (x y:PV),xs[i]?=some x->ys[i]?=some y->LeP x y):LeP (.list m xs) (.list m ys)
 | agg (xs ys:List PV) (hl:xs.length=ys.length) (h:∀(i:Nat) (x y:PV),xs[i]?=some x->ys[i]?=some y->LeP x y):LeP (.agg xs) (.agg ys)
 | tup (xs ys:List PV) (hl:xs.length=ys.length) (h:∀(i:Nat) (x y:PV),xs[i]?=some x->ys[i]?=some y->LeP x y):LeP (.tup xs) (.tup ys)
 | map (ks vs ks' vs':List PV) (hl:ks'.length=vs'.length) (hp:(ks.zip vs).Perm (ks'.zip vs')):LeP (.map ks vs) (.map ks' vs')
theorem ZdT {α β:Type} {xs:List α} {ys:List β} (hl:xs.length=ys.length) {i:Nat} {y:β} (h:ys[i]?=some y):∃x,xs[i]?=some x :=
 ⟨xs[i]'(by rw [hl];exact (ZxZ.1 h).1),Zya _⟩
theorem LeP.cells {p q:PV} (h:LeP p q):p.cells.length=q.cells.length/\∀(j:Nat) (c d:PV),p.cells[j]?=some c->q.cells[j]?=some d->LeP c d:=by
 cases h with
 | refl p=>exact ⟨rfl,λ j c d h1 h2=>by rw [h1] at h2;cases h2;exact .refl _⟩
 | agg xs ys hl h=>exact ⟨hl,h⟩
 | nil m m' h0 =>
  refine ⟨rfl,λ j c d h1 h2=>?_⟩
  cases j with
  | zero=>simp [PV.cells] at h1 h2;subst h1 h2;exact .nil m m' h0
  | succ j=>simp [PV.cells] at h1
 | list m xs ys hl h =>
  refine ⟨rfl,λ j c d h1 h2=>?_⟩
  cases j with
  | zero=>simp [PV.cells] at h1 h2;subst h1 h2;exact .list m xs ys hl h
  | succ j=>simp [PV.cells] at h1
 | tup xs ys hl h =>
  refine ⟨rfl,λ j c d h1 h2=>?_⟩
  cases j with
  | zero=>simp [PV.cells] at h1 h2;subst h1 h2;exact .tup xs ys hl h
  | succ j=>simp [PV.cells] at h1
 | map ks vs ks' vs' hl hp =>
  refine ⟨rfl,λ j c d h1 h2=>?_⟩
  cases j with
  | zero=>simp [PV.cells] at h1 h2;subst h1 h2;exact .map ks vs ks' vs' hl hp
  | succ j=>simp [PV.cells] at h1
theorem RV.le {S:Addr->Prop} {w:World} {p:PV} {v:Value} (h:RV S w p v):∀{q:PV},LeP p q->RV S w q v:=by
 induction h with
 | any v=>intro q hq;cases hq;exact .any v
 | int k n=>intro q hq;cases hq;exact .int k n
 | bool b=>intro q hq;cases hq;exact .bool b
 | str s=>intro q hq;cases hq;exact .str s
 | agg cs vs hl h ih =>
  intro q hq
  cases hq with
  | refl=>exact .agg cs vs hl h
  | agg xs ys hl' h' =>
   refine .agg ys vs (by omega) λ i c v hc hv=>?_
   obtain ⟨x,hx⟩:=ZdT hl' hc
   exact ih i x v hx hv (h' i x c hx hc)
 | tup cs vs hl h ih =>
  intro q hq
  cases hq with
  | refl=>exact .tup cs vs hl h
  | tup xs ys hl' h' =>
   refine .tup ys vs (by omega) λ i c v hc hv=>?_
   obtain ⟨x,hx⟩:=ZdT hl' hc
   exact ih i x v hx hv (h' i x c hx hc)
 | list m xs a ad cap g ha hcap hmax hm hc hr hz ih =>
  intro q hq
  cases hq with
  | refl=>exact .list m xs a ad cap g ha hcap hmax hm hc hr hz
  | nil m m' h0=>exact RV.list_nil m' a cap hmax (λ e=>hz (h0 e))
  | list m xs ys hl' h' =>
   rw [hl']
   have hcell:∀(i:Nat) (y:PV) (j:Nat) (d:PV),ys[i]?=some y->y.cells[j]?=some d->∃x c,xs[i]?=some x/\x.cells[j]?=some c/\LeP c d:=λ i y j d hy hd=>by
    obtain ⟨x,hx⟩:=ZdT hl' hy
    obtain ⟨k1,k2⟩:=(h' i x y hx hy).cells
    obtain ⟨c,hc⟩:=ZdT k1 hd
    exact ⟨x,c,hx,hc,k2 j c d hc hd⟩
   refine .list m ys a ad cap g (λ hne=>ha (λ e=>hne ?_)) (by omega) hmax (λ i y hy=>?_) (λ i y j d hy hd=>?_) (λ i y j d hy hd=>?_) hz
   ·subst e;exact Zyy hl'.symm
   ·obtain ⟨x,hx⟩:=ZdT hl' hy
    rw [<-(h' i x y hx hy).cells.1];exact hm i x hx
   ·obtain ⟨x,c,h1,h2,_⟩:=hcell i y j d hy hd
    exact hc i x j c h1 h2
   ·obtain ⟨x,c,h1,h2,h3⟩:=hcell i y j d hy hd
    exact ih i x j c h1 h2 h3
 | ptr cs off ad g hc hr ih=>intro q hq;cases hq;exact .ptr cs off ad g hc hr
 | fn f caps vs hl h ih=>intro q hq;cases hq;exact .fn f caps vs hl h
 | yld l=>intro q hq;cases hq;exact .yld l
 | ref v h=>intro q hq;cases hq;exact .ref v h
 | mapNil =>
  intro q hq
  cases hq with
  | refl=>exact .mapNil
  | map ks vs ks' vs' hl hp =>
   have h1:=hp.length_eq
   simp [List.length_zip] at h1
   cases ks' with
   | nil=>cases vs' with
    | nil=>exact .mapNil
    | cons _ _=>cases hl
   | cons _ _=>cases vs' with
    | nil=>cases hl
    | cons _ _=>simp at h1
 | map ks vs es b arr clock hp hl hS hb he hv ih =>
  intro q hq
  cases hq with
  | refl=>exact .map ks vs es b arr clock hp hl hS hb he hv
  | map ks vs ks' vs' hl' hp'=>exact .map ks' vs' es b arr clock (hp.trans hp') hl' hS hb he hv
inductive LeL:List PV->List PV->Prop
 | nil:LeL [] []
 | cons {x y:PV} {xs ys:List PV} (h:LeP x y) (hs:LeL xs ys):LeL (x::xs) (y::ys)
theorem LeL.refl:∀(l:List PV),LeL l l
 | []=>.nil
 | x::r=>.cons (.refl x) (LeL.refl r)
theorem RVs.le {S:Addr->Prop} {w:World}:∀{ps qs:List PV} {vs:List Value},LeL ps qs->RVs S w ps vs->RVs S w qs vs
 | _,_,vs,.nil,h=>h
 | _,_,[],.cons _ _,h=>by have:=h.1;simp at this
 | _,_,v::vs,.cons hp hs,h=>RVs.cons (RV.le (h.2 0 _ v rfl rfl) hp) (RVs.le hs ⟨by have:=h.1;simpa using this,λ i p u h1 h2=>h.2 (i+1) p u (by simpa using h1) (by simpa using h2)⟩)
theorem Zc.le {P:Program} {f:FuncId} {args args':List PV} {p p':PV} (h:Zc P f args' p) (ha:LeL args args') (hp:LeP p p'):Zc P f args p':=by
 refine ⟨h.1,λ S w vs hS hv=>(h.2 S w vs hS (hv.le ha)).mono ?_⟩
 rintro e w' ⟨v,he,hb,hr⟩
 exact ⟨v,he,hb,hr.le hp⟩
def Zsz:Nat->PV->PV->Bool
 | 0,_,_=>false
 | n+1,.list m xs,.list m' ys=>(xs.isEmpty&&ys.isEmpty&&(decide (m'≠0) || decide (m=0))) || (decide (m=m')&&decide (xs.length=ys.length)&&(xs.zip ys).all λ p=>Zsz n p.1 p.2)
 | n+1,.agg xs,.agg ys=>decide (xs.length=ys.length)&&(xs.zip ys).all λ p=>Zsz n p.1 p.2
 | n+1,.tup xs,.tup ys=>decide (xs.length=ys.length)&&(xs.zip ys).all λ p=>Zsz n p.1 p.2
 | _+1,.int k a,.int k' b=>decide (k=k')&&decide (a=b)
 | _+1,.bool a,.bool b=>decide (a=b)
 | _+1,.str a,.str b=>decide (a=b)
 | _+1,_,_=>false
theorem Zjp:∀(n:Nat) (p q:PV),Zsz n p q=true->LeP p q:=by
 intro n
 induction n with
 | zero=>intro p q h;cases h
 | succ n ih =>
  intro p q h
  have hz:∀{xs ys:List PV},((xs.zip ys).all λ p=>Zsz n p.1 p.2)=true->∀(i:Nat) (x y:PV),xs[i]?=some x->ys[i]?=some y->LeP x y:=by
   intro xs ys h i x y hx hy
   refine ih x y (Zym.1 h (x,y) (Zyb (i:=i) ?_))
   rw [List.getElem?_zip_eq_some];exact ⟨hx,hy⟩
  unfold Zsz at h
  split at h
  ·cases h
  ·rename_i n' m xs m' ys he
   cases he
   rw [Zzd] at h
   rcases h with h | h
   ·simp only [Zyi,List.isEmpty_iff,Zzd,Zyf] at h
    obtain ⟨⟨rfl,rfl⟩,h0⟩:=h
    exact .nil _ _ (λ e=>by rcases h0 with h0 | h0;exact absurd e h0;exact h0)
   ·simp only [Zyi,Zyf] at h
    obtain ⟨⟨rfl,h2⟩,h3⟩:=h
    exact .list _ _ _ h2 (hz h3)
  ·rename_i n' xs ys he
   cases he
   simp only [Zyi,Zyf] at h;exact .agg _ _ h.1 (hz h.2)
  ·rename_i n' xs ys he
   cases he
   simp only [Zyi,Zyf] at h;exact .tup _ _ h.1 (hz h.2)
  ·simp only [Zyi,Zyf] at h;obtain ⟨rfl,rfl⟩:=h;exact .refl _
  ·simp only [Zyf] at h;subst h;exact .refl _
  ·simp only [Zyf] at h;subst h;exact .refl _
  ·cases h
def ZT (lo hi:Int):List Int:=(List.range (hi - lo+1).toNat).map λ (i:Nat)=>lo+(i:Int)
theorem ZgC {lo hi x:Int}:x∈ZT lo hi↔lo<=x/\x<=hi:=by
 unfold ZT
 simp only [Zyz,ZyP]
 constructor
 ·rintro ⟨i,h,rfl⟩;omega
 ·rintro ⟨h1,h2⟩;exact ⟨(x - lo).toNat,by omega,by omega⟩
theorem Zae (lo hi:Int):(ZT lo hi).length=(hi - lo+1).toNat:=by simp [ZT]
theorem Zkc {lo hi:Int} {i:Nat} (h:lo+i<=hi):(ZT lo hi)[i]?=some (lo+i):=by
 unfold ZT
 rw [Zyh,ZzN (by omega)];rfl
theorem Zdp {lo hi x:Int} (h0:lo<=x) (h1:x<=hi):(ZT lo hi).take (x+1 - lo).toNat=(ZT lo hi).take (x - lo).toNat++[x]:=by
 rw [show (x+1 - lo).toNat=(x - lo).toNat+1 by omega,ZyD,Zkc (by omega)]
 simp;omega
def ZeO:Int->List QN->List (List Int)
 | _,[]=>[[]]
 | last,b::r=>(ZT (last+b.Lo) (last+b.Hi)).flatMap λ t=>(ZeO t r).map (t::·)
def ZbT:Int->List QN->List Int->Prop
 | _,[],ts=>ts=[]
 | _,_::_,[]=>False
 | last,b::r,t::ts=>(last+b.Lo<=t/\t<=last+b.Hi)/\ZbT t r ts
theorem Zhr:∀{bs:List QN} {last:Int} {ts:List Int},ts∈ZeO last bs↔ZbT last bs ts
 | [],last,ts=>by simp [ZeO,ZbT]
 | b::r,last,ts=>by
  simp only [ZeO,List.mem_flatMap,Zyz,ZgC]
  cases ts with
  | nil=>simp [ZbT]
  | cons t ts =>
   simp only [ZbT,List.cons.injEq]
   constructor
   ·rintro ⟨t',h,ts',h2,rfl,rfl⟩;exact ⟨h,Zhr.1 h2⟩
   ·rintro ⟨h1,h2⟩;exact ⟨t,h1,ts,Zhr.2 h2,rfl,rfl⟩
def ZcG (b:QN):Nat:=(b.Hi - b.Lo+1).toNat
def QH:List QN->Nat
 | []=>1
 | b::r=>ZcG b*QH r
theorem Zkd:∀(bs:List QN) (last:Int),(ZeO last bs).length=QH bs
 | [],_=>rfl
 | b::r,last=>by
  simp only [ZeO,List.length_flatMap,Zys,QH]
  rw [show (λ t=>(ZeO t r).length)=λ _=>QH r from funext λ t=>Zkd r t]
  rw [List.map_const',List.sum_replicate_nat,Zae]
  congr 1
  unfold ZcG
  congr 1;omega
theorem Zic:∀{bs:List QN},(∀b∈bs,b.Lo<=b.Hi)->0<QH bs
 | [],_=>by simp [QH]
 | b::r,h=>by
  have hb:=h b (by simp)
  exact Nat.mul_pos (by unfold ZcG;omega) (Zic λ c hc=>h c (by simp [hc]))
theorem Zex:∀(a b:List QN),QH (a++b)=QH a*QH b
 | [],b=>by simp [QH]
 | x::a,b=>by rw [Zzq,QH,Zex a b,QH,Nat.mul_assoc]
theorem Zke:∀{bs:List QN} {last:Int} {ts:List Int},ZbT last bs ts↔ts.length=bs.length/\∀(k:Nat) (b:QN) (t p:Int),bs[k]?=some b->ts[k]?=some t->(last::ts)[k]?=some p->p+b.Lo<=t/\t<=p+b.Hi
 | [],last,ts=>by
  simp only [ZbT,Zz3,List.length_eq_zero_iff]
  exact ⟨λ h=>⟨h,λ k b t p h1=>by simp at h1⟩,λ h=>h.1⟩
 | c::r,last,[]=>by simp [ZbT]
 | c::r,last,t0::ts=>by
  simp only [ZbT]
  rw [Zke (bs:=r)]
  constructor
  ·rintro ⟨h1,h2,h3⟩
   refine ⟨by simp [h2],λ k b t p hb ht hp=>?_⟩
   cases k with
   | zero=>simp at hb ht hp;subst hb ht hp;exact h1
   | succ k=>exact h3 k b t p (by simpa using hb) (by simpa using ht) (by simpa using hp)
  ·rintro ⟨h1,h2⟩
   refine ⟨h2 0 c t0 last rfl rfl rfl,by simpa using h1,λ k b t p hb ht hp=>h2 (k+1) b t p (by simpa using hb) (by simpa using ht) (by simpa using hp)⟩
open Go.Proofs Go.RowKit
theorem Zd7 (n lo hi:Int):Zc Tryz.prog 108 [.int .i64 n,.int .i64 lo,.int .i64 hi] (.bool (inB n lo hi)):=by
 refine Zb (clo:=λ _=>false) (rows:=false) Zg Tryz.func108 rfl (enters_of Tryz.func108 (by kernel_rfl) rfl) (λ A q P Y hr hA hq=>?_)
 conv=>cbv
 split<;>(rename_i h;conv=>cbv)<;>(subst hA;subst hq;simp_all [Ze,inB];try omega)
theorem Znh (s:Y2):Zc Tryz.prog 175 [Y8 s] (.bool (ZaE s)):=by
 refine Zb (clo:=λ _=>false) (rows:=false) Zg Tryz.func175 rfl (enters_of Tryz.func175 (by kernel_rfl) rfl) (λ A q P Y hr hA hq=>?_)
 obtain ⟨a,b⟩:=s
 conv=>cbv
 split<;>(rename_i h;conv=>cbv)
 ·subst hA;subst hq;simp_all [Ze,ZaE]
 ·split<;>(rename_i h2;conv=>cbv)<;>(subst hA;subst hq;simp_all [Ze,ZaE];try omega)
theorem Zi7 {xs:List PV} (l:List Y2) (hx:xs=Z4 l):Zc Tryz.prog 113 [.list 2 xs] (.int .i64 (if Yt l then 0 else 50)):=by
 refine Zb (clo:=λ _=>false) (rows:=false) Zg Tryz.func113 rfl (enters_of Tryz.func113 (by kernel_rfl) rfl) (λ A q P Y hr hA hq=>?_)
 conv=>cbv
 refine Za hA (Zdn ZaE l hx λ x _=>Znh x) ?_
 obtain ⟨r,hr⟩:∃r,r=l.any ZaE:=⟨_,rfl⟩
 rw [<-hr]
 conv=>cbv
 split<;>(conv=>cbv)<;>(rw [<-hq];simp [Yt,<-hr])
theorem Zni (l:List Int) (i:Nat) (h:i+2<l.length):QU (l.drop i)=(!(decide (l[i]<l[i+1]) || decide (l[i+2]<l[i]))&&QU (l.drop (i+3))):=by
 rw [ZyZ (by omega),ZyZ (by omega),ZyZ (by omega),QU]
theorem Zlq (l:List Int) (h:l.length<=2):QU l=true:=by
 match l,h with
 | [],_=>rfl
 | [_],_=>rfl
 | [_,_],_=>rfl
theorem Zey {xs:List PV} (l:List Int) (hx:xs=Zd l) (hl:l.length<=1000):Zc Tryz.prog 235 [.list 1 xs] (.bool (QU l)):=by
 refine Zb (clo:=λ _=>false) (rows:=false) Zg Tryz.func235 rfl (enters_of Tryz.func235 (by kernel_rfl) rfl) (λ A q P Y hr hA hq=>?_)
 have hll:xs.length=l.length:=by rw [hx];simp [Zd]
 conv=>cbv
 refine Zi hA (λ (i:Int) s=>s.put (some 3) (.val (.int .i64 i))) (λ i=>0<=i/\i<=l.length+3/\QU l=QU (l.drop i.toNat)) (λ i=>(l.length+3 - i).toNat) 0 ?_ ?_ ?_
 ·conv=>cbv
  exact Zk (by simp [leL,leS])
 ·exact ⟨Zyk _,by omega,by simp⟩
 ·intro R i hi hR
  have r2:Zj (i+2):=by unfold Zj;omega
  have r1:Zj (i+1):=by unfold Zj;omega
  have r3:Zj (i+3):=by unfold Zj;omega
  conv=>cbv
  refine ⟨by subst hA;exact r2,?_⟩
  split
  ·rename_i h1
   have h1':i+2<l.length:=by subst hA;rw [<-hll];simpa [Ze] using h1
   have hn:i.toNat+2<l.length:=by omega
   have hw:=Zni l i.toNat hn
   have e1:(i+1).toNat=i.toNat+1:=by omega
   have e2:(i+2).toNat=i.toNat+2:=by omega
   have e3:(i+3).toNat=i.toNat+3:=by omega
   conv=>cbv
   refine ⟨Zm hA (by kernel_rfl),?_⟩
   refine Zw hA hx hi.1 (by omega) (λ x hxx=>?_)
   conv=>cbv
   refine ⟨by subst hA;exact r1,?_⟩
   refine Zw hA hx (n:=A.iAdd i 1) (by subst hA;show 0<=i+1;omega) (by subst hA;show i+1<l.length;omega) (λ y hy=>?_)
   have hxv:l[i.toNat]=x:=(ZxZ.1 hxx).2
   have hyv:l[i.toNat+1]=y:=by subst hA;have:l[(i+1).toNat]?=some y:=hy;rw [e1] at this;exact (ZxZ.1 this).2
   conv=>cbv
   have fin:∀b:Bool,QU l=(b&&QU (l.drop (i.toNat+3)))->b=true->(0<=i+3/\i+3<=l.length+3/\QU l=QU (l.drop (i+3).toNat))/\(l.length+3 - (i+3)).toNat<(l.length+3 - i).toNat:=by
    intro b hb hbt
    subst hbt
    exact ⟨⟨by omega,by omega,by rw [e3,hb];simp⟩,by omega⟩
   split
   ·rename_i h2
    conv=>cbv
    rw [<-hq,hi.2.2,hw,hxv,hyv]
    have h2':x<y:=by subst hA;simpa [Ze] using h2
    simp [h2']
   ·rename_i h2
    have h2':¬x<y:=by subst hA;simpa [Ze] using h2
    conv=>cbv
    refine Zw hA hx hi.1 (by omega) (λ x' hx'=>?_)
    obtain rfl:x=x':=by rw [hxx] at hx';exact Zyc hx'
    conv=>cbv
    refine ⟨by subst hA;exact r2,?_⟩
    refine Zw hA hx (n:=A.iAdd i 2) (by subst hA;show 0<=i+2;omega) (by subst hA;show i+2<l.length;omega) (λ z hz=>?_)
    have hzv:l[i.toNat+2]=z:=by subst hA;have:l[(i+2).toNat]?=some z:=hz;rw [e2] at this;exact (ZxZ.1 this).2
    conv=>cbv
    split
    ·rename_i h3
     conv=>cbv
     rw [<-hq,hi.2.2,hw,hxv,hyv,hzv]
     have h3':z<x:=by subst hA;simpa [Ze] using h3
     simp [h3']
    ·rename_i h3
     have h3':¬z<x:=by subst hA;simpa [Ze] using h3
     conv=>cbv
     refine ⟨by subst hA;exact r3,hR (A.iAdd i 3) _ (by (conv=>cbv);exact Zk (by simp [leL,leS])) ?_ ?_⟩
     ·subst hA
      exact (fin _ (hi.2.2.trans hw) (by rw [hxv,hyv,hzv];simp [h2',h3'])).1
     ·subst hA
      exact (fin _ (hi.2.2.trans hw) (by rw [hxv,hyv,hzv];simp [h2',h3'])).2
  ·rename_i h1
   have h1':¬i+2<l.length:=by subst hA;rw [<-hll];simpa [Ze] using h1
   conv=>cbv
   rw [<-hq,hi.2.2,Zlq]
   simp;omega
open Go.Proofs Go.RowKit
theorem ZoC {xs:List PV} (l:List Y2) (hx:xs=Z4 l):Zc Tryz.prog 237 [.list 2 xs] (.bool (!Yt l)):=by
 refine Zb (clo:=λ _=>false) (rows:=false) Zg Tryz.func237 rfl (enters_of Tryz.func237 (by kernel_rfl) rfl) (λ A q P Y hr hA hq=>?_)
 conv=>cbv
 refine Zhl hA (Zi7 l hx) rfl (λ r hr=>?_)
 conv=>cbv
 subst hA;subst hq;subst hr
 cases Yt l<;>simp [Ze]
theorem ZqF (k:Y3) (hk:k.Curfews.length<=9223372036854775807):Zc Tryz.prog 178 [ZU k] (.bool (Y9 k)):=by
 refine Zb (clo:=λ _=>false) (rows:=false) Zg Tryz.func178 rfl (enters_of Tryz.func178 (by kernel_rfl) rfl) (λ A q P Y hr hA hq=>?_)
 obtain ⟨a,b,c,d,e,cu⟩:=k
 simp only [ZU,Y9] at hq ⊢
 obtain ⟨cs,hcs⟩:∃cs,cs=Z3 cu:=⟨_,rfl⟩
 have hcl:cs.length=cu.length:=by rw [hcs];simp [Z3]
 rw [<-hcs]
 conv=>cbv
 refine Qk hA (Zey [a,1,64,b,a,64,c,1,8,d,1,8,e,0,60,A.lLen cs,0,16] rfl (by simp)) rfl (λ r hr=>?_)
 have hr':r=QU [a,1,64,b,a,64,c,1,8,d,1,8,e,0,60,(cu.length:Int),0,16]:=by rw [hr];subst hA;simp [Ze,hcl]
 rw [<-hr'] at hq
 conv=>cbv
 split
 ·rename_i h1
  have h1':r=false:=by subst hA;simpa [Ze] using h1
  conv=>cbv
  rw [<-hq,h1'];rfl
 ·rename_i h1
  have h1':r=true:=by subst hA;simpa [Ze] using h1
  conv=>cbv
  refine ⟨by subst hA;simp [Ze],?_⟩
  split
  ·rename_i h2
   have h2':¬e.tmod 10=0:=by subst hA;simpa [Ze] using h2
   conv=>cbv
   rw [<-hq,h1'];simp [h2']
  ·rename_i h2
   have h2':e.tmod 10=0:=by subst hA;simpa [Ze] using h2
   conv=>cbv
   refine Qk hA (ZeM (λ l=>!Yt l) cu hcs λ x _=>ZoC x rfl) rfl (λ r2 hr2=>?_)
   conv=>cbv
   rw [<-hq,h1',<-hr2]
   subst hA
   simp [Ze,h2']
theorem Zi8 (k:Y3) (hk:k.Curfews.length<=9223372036854775807):Zc Tryz.prog 118 [ZU k] (.int .i64 (if Y9 k then 0 else 120)):=by
 refine Zb (clo:=λ _=>false) (rows:=false) Zg Tryz.func118 rfl (enters_of Tryz.func118 (by kernel_rfl) rfl) (λ A q P Y hr hA hq=>?_)
 have hv:=ZqF k hk
 simp only [ZU] at hv ⊢
 generalize Y9 k=kk at hv hq
 generalize Z3 k.Curfews=cs at hv ⊢
 conv=>cbv
 refine Qk hA hv rfl (λ r hr=>?_)
 conv=>cbv
 split
 ·rename_i h1
  have h1':r=false:=by subst hA;simpa [Ze] using h1
  conv=>cbv
  rw [<-hq,<-hr,h1'];rfl
 ·rename_i h1
  have h1':r=true:=by subst hA;simpa [Ze] using h1
  conv=>cbv
  rw [<-hq,<-hr,h1'];rfl
theorem ZqG (s:Qy):Zc Tryz.prog 107 [Ys s] (.bool (Zb9 s)):=by
 refine Zb (clo:=λ _=>false) (rows:=false) Zg Tryz.func107 rfl (enters_of Tryz.func107 (by kernel_rfl) rfl) (λ A q P Y hr hA hq=>?_)
 obtain ⟨nm,nms,vs,a,b⟩:=s
 simp only [Ys,Zb9] at hq ⊢
 generalize ZbW nms=u1
 generalize Zd vs=u2
 conv=>cbv
 refine Qk hA (Zd7 a 0 64) rfl (λ r hr=>?_)
 conv=>cbv
 split
 ·conv=>cbv
  refine Qk hA (Zd7 b 0 a) rfl (λ r2 hr2=>?_)
  conv=>cbv
  rw [<-hq,<-hr,<-hr2];rfl
 ·conv=>cbv
  rw [<-hq,<-hr];rfl
theorem Zs0 (n:Int):Zc Tryz.prog 111 [Z7 n] (.bool (inB n 0 64)):=by
 refine Zb (clo:=λ _=>false) (rows:=false) Zg Tryz.func111 rfl (enters_of Tryz.func111 (by kernel_rfl) rfl) (λ A q P Y hr hA hq=>?_)
 conv=>cbv
 refine Qk hA (Zd7 n 0 64) rfl (λ r hr=>?_)
 conv=>cbv
 rw [<-hq,hr]
theorem ZtY {xs:List PV} (l:List Int) (hx:xs=Zd l):Zc Tryz.prog 109 [.list 1 xs] (.bool (Zd6 l)):=by
 refine Zb (clo:=λ _=>false) (rows:=false) Zg Tryz.func109 rfl (enters_of Tryz.func109 (by kernel_rfl) rfl) (λ A q P Y hr hA hq=>?_)
 have hll:xs.length=l.length:=by rw [hx];simp [Zd]
 unfold Zd6 at hq
 conv=>cbv
 refine Qk hA (Zd7 (A.lLen xs) 1 16) rfl (λ r hr=>?_)
 have hr':r=inB l.length 1 16:=by rw [hr];subst hA;simp [Ze,hll]
 rw [<-hr'] at hq
 conv=>cbv
 split
 ·conv=>cbv
  refine Qk hA (Zvu (λ n=>inB n 0 64) l hx λ x _=>Zs0 x) rfl (λ r2 hr2=>?_)
  conv=>cbv
  rw [<-hq,<-hr2];rfl
 ·conv=>cbv
  rw [<-hq];rfl
theorem Zv0 (nv:Int) (hnv:1<=nv/\nv<=64) (c1 c2 c3 c4 c5:PV) (x:Leg):Zc Tryz.prog 112 [Zac x,.ptr [.int .i64 nv,c1,c2,c3,c4,c5] 0] (.bool (ZcE nv x)):=by
 refine Zb (clo:=λ _=>false) (rows:=false) Zg Tryz.func112 rfl (enters_of Tryz.func112 (by kernel_rfl) rfl) (λ A q P Y hr hA hq=>?_)
 obtain ⟨a,b,c,m⟩:=x
 simp only [Zac,ZcE] at hq ⊢
 obtain ⟨ms,hms⟩:∃ms,ms=Z4 m:=⟨_,rfl⟩
 have hml:ms.length=m.length:=by rw [hms];simp [Z4]
 rw [<-hms]
 conv=>cbv
 refine Qk hA (Zd7 a 0 127) rfl (λ r1 hr1=>?_)
 rw [<-hr1] at hq
 conv=>cbv
 split
 ·conv=>cbv
  refine ⟨by subst hA;show Zj (nv - 1);unfold Zj;omega,?_⟩
  refine Qk hA (Zd7 b 0 (A.iSub nv 1)) rfl (λ r2 hr2=>?_)
  have hr2':r2=inB b 0 (nv - 1):=by rw [hr2];subst hA;rfl
  rw [<-hr2'] at hq
  conv=>cbv
  split
  ·conv=>cbv
   refine Qk hA (Zd7 c 1 4096) rfl (λ r3 hr3=>?_)
   rw [<-hr3] at hq
   conv=>cbv
   split
   ·conv=>cbv
    split
    ·rename_i h4
     have h4':0<m.length:=by subst hA;rw [<-hml];simpa [Ze] using h4
     conv=>cbv
     refine Zhl hA (Zi7 m hms) rfl (λ r5 hr5=>?_)
     conv=>cbv
     rw [<-hq]
     subst hA;subst hr5
     cases Yt m<;>simp [Ze,h4']
    ·rename_i h4
     have h4':¬0<m.length:=by subst hA;rw [<-hml];simpa [Ze] using h4
     conv=>cbv
     rw [<-hq];simp [h4']
   ·conv=>cbv
    rw [<-hq];simp
  ·conv=>cbv
   rw [<-hq];simp
 ·conv=>cbv
  rw [<-hq];simp
theorem Zi9 (ms:List PV) (hms:ms.length<=1000) (n:Int) (c0 c1 c2 c3 c5:PV):Zc Tryz.prog 114 [.int .i64 n,.ptr [c0,c1,c2,c3,.list 1 ms,c5] 0] (.bool (inB n 0 (ms.length - 1))):=by
 refine Zb (clo:=λ _=>false) (rows:=false) Zg Tryz.func114 rfl (enters_of Tryz.func114 (by kernel_rfl) rfl) (λ A q P Y hr hA hq=>?_)
 conv=>cbv
 refine ⟨by subst hA;show Zj (ms.length - 1);unfold Zj;omega,?_⟩
 refine Qk hA (Zd7 n 0 (A.iSub (A.lLen ms) 1)) rfl (λ r hr=>?_)
 conv=>cbv
 rw [<-hq,hr];subst hA;rfl
theorem Zv1 (nv:Int) (hnv:1<=nv/\nv<=64) (ms:List PV) (hms:ms.length<=1000) (c1 c2 c3 c5:PV) (w:Way):Zc Tryz.prog 115
  [Zb8 w,.ptr [.fn 114 [.ptr [.int .i64 nv,c1,c2,c3,.list 1 ms,c5] 0]] 0,.ptr [.fn 112 [.ptr [.int .i64 nv,c1,c2,c3,.list 1 ms,c5] 0]] 0] (.bool (Zcj nv ms.length w)):=by
 refine Zb (clo:=λ _=>false) (rows:=false) Zg Tryz.func115 rfl (enters_of Tryz.func115 (by kernel_rfl) rfl) (λ A q P Y hr hA hq=>?_)
 obtain ⟨a,b,lg⟩:=w
 simp only [Zb8,Zcj] at hq ⊢
 obtain ⟨ls,hls⟩:∃ls,ls=Qp lg:=⟨_,rfl⟩
 have hll:ls.length=lg.length:=by rw [hls];simp [Qp]
 rw [<-hls]
 conv=>cbv
 refine Qk hA (Zi9 ms hms a _ c1 c2 c3 c5) rfl (λ r1 hr1=>?_)
 rw [<-hr1] at hq
 conv=>cbv
 split
 ·conv=>cbv
  refine Qk hA (Zi9 ms hms b _ c1 c2 c3 c5) rfl (λ r2 hr2=>?_)
  rw [<-hr2] at hq
  conv=>cbv
  split
  ·conv=>cbv
   refine Qk hA (Zd7 (A.lLen ls) 1 8) rfl (λ r3 hr3=>?_)
   have hr3':r3=inB lg.length 1 8:=by rw [hr3];subst hA;simp [Ze,hll]
   rw [<-hr3'] at hq
   conv=>cbv
   split
   ·conv=>cbv
    refine Qk hA (Zvv (ZcE nv) lg hls λ x _=>Zv0 nv hnv c1 c2 c3 (.list 1 ms) c5 x) rfl (λ r4 hr4=>?_)
    conv=>cbv
    rw [<-hq,hr4];rfl
   ·conv=>cbv
    rw [<-hq];simp
  ·conv=>cbv
   rw [<-hq];simp
 ·conv=>cbv
  rw [<-hq];simp
theorem ZtZ (ms:List PV) (hms:ms.length<=1000) (c0 c1 c2 c3 c5:PV) (k:Y3) (hk:k.Curfews.length<=9223372036854775807):Zc Tryz.prog 117 [ZU k,.ptr [c0,c1,c2,c3,.list 1 ms,c5] 0] (.bool (Y9 k&&decide (k.Curfews.length=ms.length))):=by
 refine Zb (clo:=λ _=>false) (rows:=false) Zg Tryz.func117 rfl (enters_of Tryz.func117 (by kernel_rfl) rfl) (λ A q P Y hr hA hq=>?_)
 have hv:=Zi8 k hk
 have hcl:(Z3 k.Curfews).length=k.Curfews.length:=by simp [Z3]
 simp only [ZU] at hv ⊢
 generalize Y9 k=kk at hv hq
 generalize Z3 k.Curfews=cs at hv hcl ⊢
 conv=>cbv
 refine Zhl hA hv rfl (λ r hr=>?_)
 conv=>cbv
 split
 ·rename_i h1
  have h1':kk=true:=by subst hA;subst hr;cases kk<;>simp_all [Ze]
  conv=>cbv
  rw [<-hq,h1',<-hcl];subst hA;simp [Ze];omega
 ·rename_i h1
  have h1':kk=false:=by subst hA;subst hr;cases kk<;>simp_all [Ze]
  conv=>cbv
  rw [<-hq,h1'];rfl
open Go.Proofs Go.RowKit
theorem Znj {n x:Nat} {v:Int} {r:List Int}:ZaU n x (v::r)=(decide (0<=v)&&decide (v<n)&&decide (x &&& 2 ^ v.toNat=0)&&ZaU n (x ||| 2 ^ v.toNat) r):=rfl
theorem Zlr {x:Nat} {v:Int} {r:List Int}:Zaq x (v::r)=Zaq (x ||| 2 ^ v.toNat) r:=rfl
theorem Zkf {α:Type} {l:List α} {i:Int} {x:α} (h0:0<=i) (hx:l[i.toNat]?=some x):l.drop i.toNat=x::l.drop (i+1).toNat:=by
 obtain ⟨h,hv⟩:=ZxZ.1 hx
 rw [show (i+1).toNat=i.toNat+1 by omega,ZyZ h,hv]
theorem ZlW {α:Type} {l:List α} {i:Int} (h:¬i<l.length):l.take i.toNat=l:=Zyl (by omega)
theorem ZlX {α:Type} {l:List α} {i:Int} (h:¬i<l.length):l.drop i.toNat=[]:=ZzP (by omega)
def ZgD (mv:Nat) (vs ss cs:List PV):PV:=.agg [.list mv vs,.list 5 ss,.list 3 cs,.list 0 [],.list 0 [],.list 0 [],.list 0 [],.list 0 []]
set_option maxHeartbeats 2000000 in
theorem Znk {vs ss cs:List PV} (mv:Nat) (n:Nat) (hv:vs.length=n) (hn:n<=64) (l:List Qy) (hl:l.length<=64) (hss:ss=ZI l) :
  Zc Tryz.prog 238 [ZgD mv vs ss cs] (if l.all (Yb n) then .tup [.list 1 (ZbY (Qn l)),.bool true] else .tup [.list 0 [],.bool false]):=by
 refine Zb (clo:=λ _=>false) (rows:=false) Zg Tryz.func238 rfl (enters_of Tryz.func238 (by kernel_rfl) rfl) (λ A q P Y hr hA hq=>?_)
 have hsl:ss.length=l.length:=by rw [hss];simp [ZI]
 have hbd:∀s∈l,s.Volumes.length<=9223372036854775807:=λ s hs=>by
  have h1:=Qz.cell (show Qz [.agg _] from hr) (c:=.list 5 ss) (by simp)
  have h2:=h1.elem (x:=Ys s) (by rw [hss];exact ZzO hs) (c:=.list 1 (Zd s.Volumes)) (by simp [Ys,PV.cells])
  have:=h2.len
  simpa [Zd] using this
 conv=>cbv
 refine Zi hA (λ (y:Int × List PV) s=>{ s.put (some 12) (.val (.int .i64 y.1)) with sl:=(s.put (some 12) (.val (.int .i64 y.1))).sl.set 2 (.own 0 1 y.2),tk:=[(A.nLen y.2,319)] })
  (λ y=>0<=y.1/\y.1<=l.length/\y.2=ZbY (Qn (l.take y.1.toNat))/\(l.take y.1.toNat).all (Yb n)=true) (λ y=>(l.length - y.1).toNat) (0,[]) ?_ ?_ ?_
 ·conv=>cbv
  exact ZaM 2 0 1 [] _ rfl (.inr rfl) (by simp [leL,leS]) (by subst hA;rfl)
 ·exact ⟨Zyk _,by simp,by simp [Qn,ZbY],by simp⟩
 ·intro R y hi hR
  obtain ⟨i,xs⟩:=y
  obtain ⟨hi0,hi1,hxs,hall⟩:=hi
  simp only at hi0 hi1 hxs hall
  conv=>cbv
  split
  ·rename_i h1
   have h1':i<l.length:=by subst hA;rw [<-hsl];simpa [Ze] using h1
   conv=>cbv
   refine Zad hA hss hi0 h1' (λ s u1 u2 hx hu1 hu2=>?_)
   have hul:u2.length=s.Volumes.length:=by rw [hu2];simp [Zd]
   have htk:=Zo hi0 hx
   have hvb:=hbd s (Zyb hx)
   have hbad:Yb n s=false->l.all (Yb n)=false:=λ hb=>by rw [Z0t];exact ⟨s,Zyb hx,by simp [hb]⟩
   conv=>cbv
   refine Zi hA (λ (y:Int × Nat) s=>((s.put (some 19) (.val (.int .i64 y.1))).put (some 6) (.val (.int .u64 (y.2:Int)))).put (some 2) (.own 0 1 xs))
    (λ y=>0<=y.1/\y.1<=s.Volumes.length/\y.2<2 ^ 64/\ZaU n 0 s.Volumes=ZaU n y.2 (s.Volumes.drop y.1.toNat)/\Zaq 0 s.Volumes=Zaq y.2 (s.Volumes.drop y.1.toNat)) (λ y=>(s.Volumes.length - y.1).toNat) (0,0) ?_ ?_ ?_
   ·conv=>cbv
    exact Zk (by simp [leL,leS])
   ·exact ⟨Zyk _,by simp,by simp,by simp,by simp⟩
   ·intro R2 y hj hR2
    obtain ⟨j,x⟩:=y
    obtain ⟨hj0,hj1,hx64,hj2,hj3⟩:=hj
    simp only at hj0 hj1 hx64 hj2 hj3
    conv=>cbv
    split
    ·rename_i h2
     have h2':j<s.Volumes.length:=by subst hA;rw [<-hul];simpa [Ze] using h2
     conv=>cbv
     refine Zw hA hu2 hj0 h2' (λ v hvx=>?_)
     have hdr:=Zkf hj0 hvx
     rw [hdr,Znj] at hj2
     rw [hdr,Zlr] at hj3
     have bad:∀b:Bool,(decide (0<=v)&&decide (v<n)&&decide (x &&& 2 ^ v.toNat=0))=b->b=false->(if l.all (Yb n) then PV.tup [.list 1 (ZbY (Qn l)),.bool true] else .tup [.list 0 [],.bool false])=.tup [.list 0 [],.bool false]:=by
      intro b hb hbf
      subst hbf
      rw [hbad (by unfold Yb;rw [hj2,hb];rfl)]
      rfl
     conv=>cbv
     split
     ·rename_i h3
      have h3':v<0:=by subst hA;simpa [Ze] using h3
      conv=>cbv
      rw [<-hq]
      exact ((bad _ rfl (by simp;omega))).symm
     ·rename_i h3
      have h3':¬v<0:=by subst hA;simpa [Ze] using h3
      conv=>cbv
      split
      ·rename_i h4
       have h4':¬v<n:=by subst hA;rw [<-hv];simpa [Ze] using h4
       conv=>cbv
       rw [<-hq]
       exact ((bad _ rfl (by simp;omega))).symm
      ·rename_i h4
       have h4':v<n:=by subst hA;rw [<-hv];simpa [Ze] using h4
       have hv0:0<=v:=by omega
       have hv64:v<64:=by omega
       have hp:=ZoB hv64
       conv=>cbv
       refine ⟨by subst hA;exact ⟨hv0,hv64⟩,?_⟩
       have e1:A.wShl .u64 1 v=((2 ^ v.toNat:Nat):Int):=by subst hA;exact Zvx hv0 hv64
       have e2:A.wOp .and .u64 (x:Int) (A.wShl .u64 1 v)=((x &&& 2 ^ v.toNat:Nat):Int):=by rw [e1];subst hA;exact ZrL hx64
       have e3:A.wOp .or .u64 (x:Int) (A.wShl .u64 1 v)=((x ||| 2 ^ v.toNat:Nat):Int):=by rw [e1];subst hA;exact ZtX hx64 hp
       split
       ·rename_i h5
        have h5':¬(x &&& 2 ^ v.toNat=0):=by
         have:A.bNot (A.iEq (A.wOp .and .u64 (x:Int) (A.wShl .u64 1 v)) 0)=true:=h5
         rw [e2] at this;subst hA;simpa [Ze] using this
        conv=>cbv
        rw [<-hq]
        exact ((bad _ rfl (by simp [h5']))).symm
       ·rename_i h5
        have h5':x &&& 2 ^ v.toNat=0:=by
         have:A.bNot (A.iEq (A.wOp .and .u64 (x:Int) (A.wShl .u64 1 v)) 0)=false:=h5
         rw [e2] at this;subst hA;simpa [Ze] using this
        conv=>cbv
        refine ⟨by subst hA;exact ⟨hv0,hv64⟩,by subst hA;show Zj (j+1);unfold Zj;omega,?_⟩
        obtain ⟨x',hx'⟩:∃x',x'=x ||| 2 ^ v.toNat:=⟨_,rfl⟩
        rw [<-hx'] at e3 hj2 hj3
        refine hR2 (A.iAdd j 1,x') _ (by (conv=>cbv);exact Zk (by simp [leL,leS];exact e3)) ?_ ?_
        ·subst hA
         refine ⟨by show 0<=j+1;omega,by show j+1<=_;omega,by rw [hx'];exact ZzX hx64 hp,?_,hj3⟩
         rw [hj2]
         simp [hv0,h4',h5']
         rfl
        ·subst hA
         show (s.Volumes.length - (j+1)).toNat<(s.Volumes.length - j).toNat
         omega
    ·rename_i h2
     have h2':¬j<s.Volumes.length:=by subst hA;rw [<-hul];simpa [Ze] using h2
     rw [ZlX h2'] at hj2 hj3
     have hj2':ZaU n 0 s.Volumes=true:=hj2
     have hj3':Zaq 0 s.Volumes=x:=hj3
     conv=>cbv
     split
     ·rename_i h3
      have h3':x=0:=by subst hA;simpa [Ze] using h3
      conv=>cbv
      rw [<-hq,hbad (by unfold Yb;rw [hj3',h3'];simp)]
      rfl
     ·rename_i h3
      have h3':¬x=0:=by subst hA;simpa [Ze] using h3
      have hlen:xs.length=i.toNat:=by rw [hxs];simp [ZbY,Qn];omega
      conv=>cbv
      refine ⟨⟨by subst hA;rfl,by subst hA;show (xs++[_]).length*_<=_;simp;omega⟩,by subst hA;show Zj (i+1);unfold Zj;omega,?_⟩
      refine hR (A.iAdd i 1,A.lApp xs [.int .u64 (x:Int)]) _ (by (conv=>cbv);exact Zt (bx:=[_]) (bx':=[_]) (mp:=[]) (mp':=[]) (by simp [leL,leS]) (by simp) (by simp) rfl rfl) ?_ ?_
      ·subst hA
       show 0<=i+1/\i+1<=l.length/\xs++[.int .u64 (x:Int)]=ZbY (Qn (l.take (i+1).toNat))/\(l.take (i+1).toNat).all (Yb n)=true
       refine ⟨by omega,by omega,?_,?_⟩
       ·rw [htk,hxs];simp [ZbY,Qn,ZqD,hj3']
       ·rw [htk,Z0q,hall];simp [Yb,hj2',hj3',h3']
      ·subst hA
       show (l.length - (i+1)).toNat<(l.length - i).toNat
       omega
  ·rename_i h1
   have h1':¬i<l.length:=by subst hA;rw [<-hsl];simpa [Ze] using h1
   rw [ZlW h1'] at hxs hall
   conv=>cbv
   rw [<-hq,hall,hxs]
   rfl
open Go.Proofs Go.RowKit
theorem ZoD {l:List Nat} {x:Nat} {s:Int} {r:List Int}:Zd4 l x (s::r)=(decide (0<=s)&&decide (s<l.length)&&decide (x &&& l.getD s.toNat 0=0)&&Zd4 l (x ||| l.getD s.toNat 0) r):=rfl
theorem ZoE {l:List Nat} {x:Nat} {s:Int} {r:List Int}:Zd5 l x (s::r)=Zd5 l (x ||| l.getD s.toNat 0) r:=rfl
set_option maxHeartbeats 4000000 in
theorem Zhs {vs ss cs:List PV} (mv:Nat) (n:Nat) (hv:vs.length=n) (l:List Qy) (hss:ss=ZI l) (c:List Config) (hcs:cs=Qh c) :
  Zc Tryz.prog 179 [ZgD mv vs ss cs] (if Zar n l c then .tup [.list 1 (List.replicate c.length .ref),.bool true] else .tup [.list 0 [],.bool false]):=by
 refine Zb (clo:=λ _=>false) (rows:=false) Zg Tryz.func179 rfl (enters_of Tryz.func179 (by kernel_rfl) rfl) (λ A q P Y hr hA hq=>?_)
 have hsl:ss.length=l.length:=by rw [hss];simp [ZI]
 have hcl:cs.length=c.length:=by rw [hcs];simp [Qh]
 have hbd:∀s∈c,s.Sectors.length<=9223372036854775807:=λ s hs=>by
  have h1:=Qz.cell (show Qz [.agg _] from hr) (c:=.list 3 cs) (by simp)
  have h2:=h1.elem (x:=Zao s) (by rw [hcs];exact ZzO hs) (c:=.list 1 (Zd s.Sectors)) (by simp [Zao,PV.cells])
  have:=h2.len
  simpa [Zd] using this
 have bad:∀b,Zar n l c=b->b=false->PV.tup [.list 0 [],.bool false]=q:=by
  intro b hb hbf
  subst hbf
  rw [<-hq,hb];rfl
 conv=>cbv
 split
 ·rename_i h1
  have h1':n<1:=by subst hA;have t:=h1;simp [Ze] at t;omega
  conv=>cbv
  exact bad _ rfl (by unfold Zar;simp;omega)
 rename_i h1
 have h1':1<=n:=by subst hA;have t:=h1;simp [Ze] at t;omega
 conv=>cbv
 split
 ·rename_i h2
  have h2':64<n:=by subst hA;have t:=h2;simp [Ze] at t;omega
  conv=>cbv
  exact bad _ rfl (by unfold Zar;simp;omega)
 rename_i h2
 have h2':n<=64:=by subst hA;have t:=h2;simp [Ze] at t;omega
 conv=>cbv
 split
 ·rename_i h3
  have h3':64<l.length:=by subst hA;have t:=h3;simp [Ze] at t;omega
  conv=>cbv
  exact bad _ rfl (by unfold Zar;simp;omega)
 rename_i h3
 have h3':l.length<=64:=by subst hA;have t:=h3;simp [Ze] at t;omega
 conv=>cbv
 split
 ·rename_i h4
  have h4':c.length<1:=by subst hA;have t:=h4;simp [Ze] at t;omega
  conv=>cbv
  exact bad _ rfl (by unfold Zar;simp;omega)
 rename_i h4
 have h4':1<=c.length:=by subst hA;have t:=h4;simp [Ze] at t;omega
 conv=>cbv
 split
 ·rename_i h5
  have h5':32<c.length:=by subst hA;have t:=h5;simp [Ze] at t;omega
  conv=>cbv
  exact bad _ rfl (by unfold Zar;simp;omega)
 rename_i h5
 have h5':c.length<=32:=by subst hA;have t:=h5;simp [Ze] at t;omega
 conv=>cbv
 have hsets:=Znk (cs:=cs) mv n hv h2' l h3' hss
 by_cases hall:l.all (Yb n)=true
 rotate_left
 ·rw [if_neg hall] at hsets
  refine Za hA hsets ?_
  conv=>cbv
  split
  ·conv=>cbv
   exact bad _ rfl (by unfold Zar;simp [Zzh.2 hall])
  ·rename_i hx;exact absurd hx (by subst hA;simp [Ze])
 rw [if_pos hall] at hsets
 obtain ⟨se,hse⟩:∃se,se=ZbY (Qn l):=⟨_,rfl⟩
 rw [<-hse] at hsets
 have hsel:se.length=l.length:=by rw [hse];simp [ZbY,Qn]
 have hlt:=ZqE h2' hall
 have hbl:(Qn l).length=l.length:=by simp [Qn]
 refine Za hA hsets ?_
 conv=>cbv
 split
 ·rename_i hx;exact absurd hx (by subst hA;simp [Ze])
 conv=>cbv
 have eall:A.wShr 18446744073709551615 (A.iSub 64 (A.lLen vs))=((2 ^ n - 1:Nat):Int):=by subst hA;rw [<-Zvy (E:=⟨Tryz.prog,tab,λ _=>false,false,YS.none⟩) h1' h2',<-hv];rfl
 refine ⟨by subst hA;show Zj (64 - (vs.length:Int));unfold Zj;omega,by subst hA;show 0<=64 - (vs.length:Int)/\64 - (vs.length:Int)<64;omega,?_⟩
 refine Zi hA (λ (y:Int × List PV) s=>{ ((s.put (some 55) (.val (.int .i64 y.1))).put (some 2) (.own 0 1 y.2)) with tk:=[(A.nLen y.2,320)] })
  (λ y=>0<=y.1/\y.1<=c.length/\y.2=List.replicate y.1.toNat .ref/\(c.take y.1.toNat).all (Za8 n (Qn l))=true) (λ y=>(c.length - y.1).toNat) (0,[]) ?_ ?_ ?_
 ·conv=>cbv
  exact ZaM 2 0 1 [] _ rfl (.inr rfl) (by simp [leL,leS]) (by subst hA;rfl)
 ·exact ⟨Zyk _,by simp,by simp,by simp⟩
 ·intro R y hi hR
  obtain ⟨i,ys⟩:=y
  obtain ⟨hi0,hi1,hys,hcall⟩:=hi
  simp only at hi0 hi1 hys hcall
  conv=>cbv
  split
  ·rename_i h6
   have h6':i<c.length:=by subst hA;rw [<-hcl];simpa [Ze] using h6
   conv=>cbv
   refine Zet hA hcs hi0 h6' (λ s u1 u2 hx hu1 hu2=>?_)
   have hul:u2.length=s.Sectors.length:=by rw [hu2];simp [Zd]
   have htk:=Zo hi0 hx
   have hsb:=hbd s (Zyb hx)
   have hbad:Za8 n (Qn l) s=false->PV.tup [.list 0 [],.bool false]=q:=λ hb=>bad _ rfl (by
    have:c.all (Za8 n (Qn l))=false:=by rw [Z0t];exact ⟨s,Zyb hx,by simp [hb]⟩
    unfold Zar;simp [this])
   conv=>cbv
   refine Zi hA (λ (y:Int × Nat × Nat) s=>{ (((s.put (some 63) (.val (.int .i64 y.1))).put (some 8) (.val (.int .u64 (y.2.1:Int)))).put (some 2) (.own 0 1 ys)) with ax:={ mp:=[.plain 319 4 y.2.2],yk:=0 } })
    (λ y=>0<=y.1/\y.1<=s.Sectors.length/\y.2.1<2 ^ 64/\(y.2.2:Int)<=y.1/\Zd4 (Qn l) 0 s.Sectors=Zd4 (Qn l) y.2.1 (s.Sectors.drop y.1.toNat)/\Zd5 (Qn l) 0 s.Sectors=Zd5 (Qn l) y.2.1 (s.Sectors.drop y.1.toNat)) (λ y=>(s.Sectors.length - y.1).toNat) (0,0,0) ?_ ?_ ?_
   ·conv=>cbv
    exact Zk (by simp [leL,leS])
   ·exact ⟨Zyk _,by simp,by simp,by simp,by simp,by simp⟩
   ·intro R2 y hj hR2
    obtain ⟨j,x,m⟩:=y
    obtain ⟨hj0,hj1,hx64,hm,hj2,hj3⟩:=hj
    simp only at hj0 hj1 hx64 hm hj2 hj3
    conv=>cbv
    split
    ·rename_i h7
     have h7':j<s.Sectors.length:=by subst hA;rw [<-hul];simpa [Ze] using h7
     conv=>cbv
     refine Zw hA hu2 hj0 h7' (λ v hvx=>?_)
     have hdr:=Zkf hj0 hvx
     rw [hdr,ZoD] at hj2
     rw [hdr,ZoE] at hj3
     conv=>cbv
     split
     ·rename_i h8
      have h8':v<0:=by subst hA;simpa [Ze] using h8
      conv=>cbv
      exact hbad (by unfold Za8;rw [hj2];simp [show ¬(0<=v) by omega])
     rename_i h8
     have h8':0<=v:=by subst hA;have:=h8;simp [Ze] at this;omega
     conv=>cbv
     split
     ·rename_i h9
      have h9':¬v<l.length:=by subst hA;rw [<-hsel];simpa [Ze] using h9
      conv=>cbv
      exact hbad (by unfold Za8;rw [hj2,hbl];simp [h9'])
     rename_i h9
     have h9':v<l.length:=by subst hA;rw [<-hsel];simpa [Ze] using h9
     conv=>cbv
     refine Zng hA hse h8' (by rw [hbl];exact h9') (λ z hz=>?_)
     have hzl:z<2 ^ 64:=hlt z (Zyb hz)
     have hzd:(Qn l).getD v.toNat 0=z:=by rw [Zyj,hz];rfl
     rw [hzd] at hj2 hj3
     have e2:A.wOp .and .u64 (x:Int) (z:Int)=((x &&& z:Nat):Int):=by subst hA;exact ZrL hx64
     have e3:A.wOp .or .u64 (x:Int) (z:Int)=((x ||| z:Nat):Int):=by subst hA;exact ZtX hx64 hzl
     conv=>cbv
     split
     ·rename_i h10
      have h10':¬(x &&& z=0):=by
       have:A.bNot (A.iEq (A.wOp .and .u64 (x:Int) (z:Int)) 0)=true:=h10
       rw [e2] at this;subst hA;simpa [Ze] using this
      conv=>cbv
      exact hbad (by unfold Za8;rw [hj2];simp [h10'])
     rename_i h10
     have h10':x &&& z=0:=by
      have:A.bNot (A.iEq (A.wOp .and .u64 (x:Int) (z:Int)) 0)=false:=h10
      rw [e2] at this;subst hA;simpa [Ze] using this
     conv=>cbv
     refine Zng hA hse h8' (by rw [hbl];exact h9') (λ z2 hz2=>?_)
     obtain rfl:z=z2:=by rw [hz] at hz2;exact Zyc hz2
     conv=>cbv
     refine Zng hA hse h8' (by rw [hbl];exact h9') (λ z2 hz2=>?_)
     obtain rfl:z=z2:=by rw [hz] at hz2;exact Zyc hz2
     conv=>cbv
     refine ⟨by subst hA;show m<9223372036854775807/\ZmG .u64 (z:Int);refine ⟨by omega,?_⟩;simp [ZmG,IntKind.min,IntKind.max,IntKind.bits,IntKind.signed];omega,by subst hA;show Zj (j+1);unfold Zj;omega,?_⟩
     obtain ⟨x',hx'⟩:∃x',x'=x ||| z:=⟨_,rfl⟩
     rw [<-hx'] at e3 hj2 hj3
     refine hR2 (A.iAdd j 1,x',A.nS m) _ (by (conv=>cbv);exact Zk (by simp [leL,leS];exact e3)) ?_ ?_
     ·subst hA
      refine ⟨by show 0<=j+1;omega,by show j+1<=_;omega,by rw [hx'];exact ZzX hx64 hzl,by show ((m+1:Nat):Int)<=j+1;omega,?_,hj3⟩
      rw [hj2,hbl]
      simp [h8',h9',h10']
      rfl
     ·subst hA
      show (s.Sectors.length - (j+1)).toNat<(s.Sectors.length - j).toNat
      omega
    ·rename_i h7
     have h7':¬j<s.Sectors.length:=by subst hA;rw [<-hul];simpa [Ze] using h7
     rw [ZlX h7'] at hj2 hj3
     have hj2':Zd4 (Qn l) 0 s.Sectors=true:=hj2
     have hj3':Zd5 (Qn l) 0 s.Sectors=x:=hj3
     conv=>cbv
     split
     ·rename_i h8
      have h8':¬(x=2 ^ n - 1):=by
       have t:A.bNot (A.iEq (x:Int) (A.wShr 18446744073709551615 (A.iSub 64 (A.lLen vs))))=true:=h8
       rw [eall] at t;subst hA
       intro e
       rw [e] at t
       simp [Ze] at t
      conv=>cbv
      exact hbad (by unfold Za8;rw [hj3'];simp [h8'])
     rename_i h8
     have h8':x=2 ^ n - 1:=by
      have t:A.bNot (A.iEq (x:Int) (A.wShr 18446744073709551615 (A.iSub 64 (A.lLen vs))))=false:=h8
      rw [eall] at t;subst hA
      exact Int.ofNat.inj (by simpa [Ze] using t)
     have hlen:ys.length=i.toNat:=by rw [hys];simp
     conv=>cbv
     refine ⟨⟨by subst hA;rfl,by subst hA;show (ys++[_]).length*_<=_;simp;omega⟩,by subst hA;show Zj (i+1);unfold Zj;omega,?_⟩
     refine hR (A.iAdd i 1,A.lApp ys [.ref]) _ (by (conv=>cbv);exact Zt (bx:=[_]) (bx':=[_]) (mp:=[]) (mp':=[_]) (by simp [leL,leS]) (by simp) (.inr ⟨by simp,rfl⟩) rfl rfl) ?_ ?_
     ·subst hA
      show 0<=i+1/\i+1<=c.length/\ys++[.ref]=List.replicate (i+1).toNat .ref/\(c.take (i+1).toNat).all (Za8 n (Qn l))=true
      refine ⟨by omega,by omega,?_,?_⟩
      ·rw [hys,show (i+1).toNat=i.toNat+1 by omega,List.replicate_succ']
      ·rw [htk,Z0q,hcall];simp [Za8,hj2',hj3',h8']
     ·subst hA
      show (c.length - (i+1)).toNat<(c.length - i).toNat
      omega
  ·rename_i h6
   have h6':¬i<c.length:=by subst hA;rw [<-hcl];simpa [Ze] using h6
   rw [ZlW h6'] at hcall
   have hi2:i.toNat=c.length:=by omega
   conv=>cbv
   have hd:Zar n l c=true:=by unfold Zar;simp [h1',h2',h3',h4',h5',hall,hcall]
   rw [<-hq,hd,hys,hi2]
   rfl
open Go.Proofs Go.RowKit
theorem Zls {vs ss cs:List PV} (mv:Nat) (n:Nat) (hv:vs.length=n) (l:List Qy) (hss:ss=ZI l) (c:List Config) (hcs:cs=Qh c) :
  Zc Tryz.prog 119 [ZgD mv vs ss cs] (.int .i64 (if Zar n l c then 0 else 100)):=by
 refine Zb (clo:=λ _=>false) (rows:=false) Zg Tryz.func119 rfl (enters_of Tryz.func119 (by kernel_rfl) rfl) (λ A q P Y hr hA hq=>?_)
 have h:=Zhs mv n hv l hss c hcs
 cases hd:Zar n l c with
 | true =>
  rw [hd] at h hq
  generalize List.replicate c.length PV.ref=rs at h
  conv=>cbv
  refine Za hA h ?_
  conv=>cbv
  split
  ·rename_i hx;exact absurd hx (by subst hA;simp [Ze])
  ·conv=>cbv
   rw [<-hq];rfl
 | false =>
  rw [hd] at h hq
  conv=>cbv
  refine Za hA h ?_
  conv=>cbv
  split
  ·conv=>cbv
   rw [<-hq];rfl
  ·rename_i hx;exact absurd hx (by subst hA;simp [Ze])
def ZcH:PV:=.agg [.str ByteArray.empty,.list 0 []]
theorem ZoF (nv:Int) (h1:1<=nv) (h2:nv<=64) (ss cs ws ms ks:List PV):Zc Tryz.prog 120 [.agg [.int .i64 nv,.list 5 ss,.list 3 cs,.list 3 ws,.list 1 ms,.list 6 ks]] (ZgD 2 (List.replicate nv.toNat ZcH) ss cs):=by
 refine Zb (clo:=λ _=>false) (rows:=false) Zg Tryz.func120 rfl (enters_of Tryz.func120 (by kernel_rfl) rfl) (λ A q P Y hr hA hq=>?_)
 conv=>cbv
 refine ⟨Zm hA (by kernel_rfl),?_⟩
 refine ⟨by subst hA;show (0<=nv/\nv=nv/\nv*_<=_/\nv<=_);omega,?_⟩
 rw [<-hq]
 subst hA
 rfl
set_option maxHeartbeats 2000000 in
theorem Zid (t:Zh):Zc Tryz.prog 49 [Zn t] (.int .i64 (if Qe t then 0 else 140)):=by
 refine Zb (clo:=λ _=>false) (rows:=false) Zg Tryz.func49 rfl (enters_of Tryz.func49 (by kernel_rfl) rfl) (λ A q P Y hr hA hq=>?_)
 have hbd:∀k∈t.Kinds,k.Curfews.length<=9223372036854775807:=λ k hk=>by
  have h1:=Qz.cell (show Qz [.agg _] from hr) (c:=.list 6 (ZY t.Kinds)) (by simp)
  have h2:=h1.elem (x:=ZU k) (ZzO hk) (c:=.list 1 (Z3 k.Curfews)) (by simp [ZU,PV.cells])
  have:=h2.len
  simpa [Z3] using this
 have bad:∀b,Qe t=b->b=false->PV.int .i64 140=q:=by
  intro b hb hbf
  subst hbf
  rw [<-hq,hb];rfl
 obtain ⟨nv,S,C,W,M,K⟩:=t
 simp only [Zn] at hr ⊢
 simp only at hbd
 obtain ⟨ss,hss⟩:∃ss,ss=ZI S:=⟨_,rfl⟩
 obtain ⟨cs,hcs⟩:∃cs,cs=Qh C:=⟨_,rfl⟩
 obtain ⟨ws,hws⟩:∃ws,ws=Q3 W:=⟨_,rfl⟩
 obtain ⟨ms,hms⟩:∃ms,ms=Z0 M:=⟨_,rfl⟩
 obtain ⟨ks,hks⟩:∃ks,ks=ZY K:=⟨_,rfl⟩
 have hwl:ws.length=W.length:=by rw [hws];simp [Q3]
 have hml:ms.length=M.length:=by rw [hms];simp [Z0]
 have hkl:ks.length=K.length:=by rw [hks];simp [ZY]
 rw [<-hss,<-hcs,<-hws,<-hms,<-hks]
 conv=>cbv
 refine Qk hA (Zd7 nv 1 64) rfl (λ r1 hr1=>?_)
 conv=>cbv
 split
 ·rename_i h
  have h1:r1=false:=by subst hA;simpa [Ze] using h
  conv=>cbv
  exact bad _ rfl (by unfold Qe;rw [<-hr1,h1];rfl)
 rename_i h
 have h1:r1=true:=by subst hA;simpa [Ze] using h
 rw [h1] at hr1
 have hnv:1<=nv/\nv<=64:=by simpa [inB] using hr1.symm
 conv=>cbv
 refine Za hA (ZoF nv hnv.1 hnv.2 ss cs ws ms ks) ?_
 obtain ⟨vs,hvs⟩:∃vs,vs=List.replicate nv.toNat ZcH:=⟨_,rfl⟩
 rw [<-hvs]
 conv=>cbv
 refine Zhl hA (Zls 2 nv.toNat (by rw [hvs];simp) S hss C hcs) rfl (λ r2 hr2=>?_)
 conv=>cbv
 split
 ·rename_i h
  have h2:Zar nv.toNat S C=false:=by
   subst hA
   cases hd:Zar nv.toNat S C with
   | false=>rfl
   | true=>rw [hd] at hr2;subst hr2;simp [Ze] at h
  conv=>cbv
  exact bad _ rfl (by unfold Qe;simp [h2])
 rename_i h
 have h2:Zar nv.toNat S C=true:=by
  subst hA
  cases hd:Zar nv.toNat S C with
  | true=>rfl
  | false=>rw [hd] at hr2;subst hr2;simp [Ze] at h
 conv=>cbv
 refine Qk hA (ZqC Zb9 S hss λ x _=>ZqG x) rfl (λ r3 hr3=>?_)
 conv=>cbv
 split
 ·rename_i h
  have h3:r3=false:=by subst hA;simpa [Ze] using h
  conv=>cbv
  exact bad _ rfl (by unfold Qe;simp [<-hr3,h3])
 rename_i h
 have h3:r3=true:=by subst hA;simpa [Ze] using h
 rw [h3] at hr3
 conv=>cbv
 split
 ·rename_i h
  have h4:¬M.length<=16:=by subst hA;have t:=h;simp [Ze] at t;omega
  conv=>cbv
  exact bad _ rfl (by unfold Qe;simp [h4])
 rename_i h
 have h4:M.length<=16:=by subst hA;have t:=h;simp [Ze] at t;omega
 have hmb:ms.length<=1000:=by omega
 conv=>cbv
 refine Qk hA (Zo9 Zd6 M hms λ x _=>ZtY x rfl) rfl (λ r5 hr5=>?_)
 conv=>cbv
 split
 ·rename_i h
  have h5:r5=false:=by subst hA;simpa [Ze] using h
  conv=>cbv
  exact bad _ rfl (by unfold Qe;simp [<-hr5,h5])
 rename_i h
 have h5:r5=true:=by subst hA;simpa [Ze] using h
 rw [h5] at hr5
 conv=>cbv
 split
 ·rename_i h
  have h6:¬W.length<=64:=by subst hA;have t:=h;simp [Ze] at t;omega
  conv=>cbv
  exact bad _ rfl (by unfold Qe;simp [h6])
 rename_i h
 have h6:W.length<=64:=by subst hA;have t:=h;simp [Ze] at t;omega
 conv=>cbv
 refine Qk hA (Zvw (Zcj nv ms.length) W hws λ x _=>Zv1 nv hnv ms hmb (.list 5 ss) (.list 3 cs) (.list 3 ws) (.list 6 ks) x) rfl (λ r7 hr7=>?_)
 rw [hml] at hr7
 conv=>cbv
 split
 ·rename_i h
  have h7:r7=false:=by subst hA;simpa [Ze] using h
  conv=>cbv
  exact bad _ rfl (by unfold Qe;simp [<-hr7,h7])
 rename_i h
 have h7:r7=true:=by subst hA;simpa [Ze] using h
 rw [h7] at hr7
 conv=>cbv
 split
 ·rename_i h
  have h8:¬K.length<=8:=by subst hA;have t:=h;simp [Ze] at t;omega
  conv=>cbv
  exact bad _ rfl (by unfold Qe;simp [h8])
 rename_i h
 have h8:K.length<=8:=by subst hA;have t:=h;simp [Ze] at t;omega
 conv=>cbv
 refine Qk hA (ZtW (λ k=>Y9 k&&decide (k.Curfews.length=ms.length)) K hks λ x hx=>ZtZ ms hmb _ (.list 5 ss) (.list 3 cs) (.list 3 ws) (.list 6 ks) x (hbd x hx)) rfl (λ r9 hr9=>?_)
 rw [hml] at hr9
 conv=>cbv
 split
 ·rename_i h
  have h9:r9=false:=by subst hA;simpa [Ze] using h
  conv=>cbv
  exact bad _ rfl (by unfold Qe;simp only [<-hr9,h9];simp)
 rename_i h
 have h9:r9=true:=by subst hA;simpa [Ze] using h
 rw [h9] at hr9
 conv=>cbv
 have hok:Qe ⟨nv,S,C,W,M,K⟩=true:=by unfold Qe;simp only [<-hr1,h2,<-hr3,<-hr5,<-hr7,<-hr9];simp [h4,h6,h8]
 rw [<-hq,hok];rfl
open Go.Proofs Go.RowKit
theorem Zfi (l:List Int) (i:Nat) (h:i<l.length) (p:Int):Qc p (l.drop i)=(decide (0<=l[i])&&decide (l[i]<=65535)&&decide (p<l[i])&&Qc l[i] (l.drop (i+1))):=by
 rw [ZyZ h,Qc]
def Zbx (l:List Int) (i:Int):Int:=if i=0 then -1 else l.getD (i - 1).toNat 0
set_option maxHeartbeats 1000000 in
theorem Zs1 (t:Zh) (hair:Qe t=true) (p:Qo):Zc Tryz.prog 60 [Zn t,Yl p] (.int .i64 (if Yx t.Ways p then 0 else 160)):=by
 refine Zb (clo:=λ _=>false) (rows:=false) Zg Tryz.func60 rfl (enters_of Tryz.func60 (by kernel_rfl) rfl) (λ A q P Y hr hA hq=>?_)
 have bad:∀b,Yx t.Ways p=b->b=false->PV.int .i64 160=q:=by
  intro b hb hbf
  subst hbf
  rw [<-hq,hb];rfl
 have hlenT:p.Times.length<=9223372036854775807:=by
  have h1:=Qz.cell (show Qz [.agg _] from hr.mem (p:=Yl p) (by simp)) (c:=.list 1 (Zd p.Times)) (by simp)
  simpa [Zd] using h1.len
 obtain ⟨ss,hss⟩:∃ss,ss=ZI t.Sectors:=⟨_,rfl⟩
 obtain ⟨cs,hcs⟩:∃cs,cs=Qh t.Configs:=⟨_,rfl⟩
 obtain ⟨ws,hws⟩:∃ws,ws=Q3 t.Ways:=⟨_,rfl⟩
 obtain ⟨ms,hms⟩:∃ms,ms=Z0 t.Modes:=⟨_,rfl⟩
 obtain ⟨ks,hks⟩:∃ks,ks=ZY t.Kinds:=⟨_,rfl⟩
 obtain ⟨ts,hts⟩:∃ts,ts=Zd p.Times:=⟨_,rfl⟩
 have hwl:ws.length=t.Ways.length:=by rw [hws];simp [Q3]
 have htl:ts.length=p.Times.length:=by rw [hts];simp [Zd]
 rw [Zeu t hss hcs hws hms hks,Yw p hts]
 obtain ⟨way,T⟩:=p
 simp only at bad hts htl hlenT hq ⊢
 obtain ⟨nv,hnv⟩:∃nv,nv=t.Volumes:=⟨_,rfl⟩
 rw [<-hnv]
 conv=>cbv
 refine ⟨Zm hA (by kernel_rfl),?_⟩
 split
 ·rename_i h
  have h1:way<0:=by subst hA;simpa [Ze] using h
  conv=>cbv
  exact bad _ rfl (by unfold Yx;simp only;rw [if_neg (by omega)])
 rename_i h
 have h1:0<=way:=by subst hA;have t:=h;simp [Ze] at t;omega
 conv=>cbv
 split
 ·rename_i h
  have h2:t.Ways.length<=way:=by subst hA;have t:=h;simp [Ze] at t;omega
  conv=>cbv
  exact bad _ rfl (by unfold Yx;simp only;rw [if_pos h1,Zyw (by omega)])
 rename_i h
 have h2:way<t.Ways.length:=by subst hA;have t:=h;simp [Ze] at t;omega
 conv=>cbv
 refine Ym hA hws h1 h2 (λ w v hw hv=>?_)
 have hvl:v.length=w.Legs.length:=by rw [hv];simp [Qp]
 have hP:Yx t.Ways ⟨way,T⟩=(decide (T.length=w.Legs.length+1)&&Qc (-1) T):=by
  unfold Yx;simp only;rw [if_pos h1,hw]
 obtain ⟨w1,w2,w3⟩:=w
 have hw8:=Zfh hair (Zyb hw)
 simp only at hvl hP hw8
 have hv8:A.lLen v=w3.length:=by subst hA;show (v.length:Int)=_;rw [hvl]
 have htT:A.lLen ts=T.length:=by subst hA;show (ts.length:Int)=_;rw [htl]
 have hadd:A.iAdd (A.lLen v) 1=w3.length+1:=by rw [hv8];subst hA;rfl
 conv=>cbv
 refine ⟨by subst hA;show Zj (v.length+1);unfold Zj;omega,?_⟩
 split
 ·rename_i h
  have h3:¬T.length=w3.length+1:=by
   have h':A.bNot (A.iEq (A.lLen ts) (A.iAdd (A.lLen v) 1))=true:=h
   rw [htT,hadd] at h'
   subst hA;simp [Ze] at h';omega
  conv=>cbv
  exact bad _ rfl (by rw [hP];simp [h3])
 rename_i h
 have h3:T.length=w3.length+1:=by
  have h':A.bNot (A.iEq (A.lLen ts) (A.iAdd (A.lLen v) 1))=false:=h
  rw [htT,hadd] at h'
  subst hA;simp [Ze] at h';omega
 rw [show (decide (T.length=w3.length+1)&&Qc (-1) T)=Qc (-1) T by simp [h3]] at hP
 rw [hP] at hq bad
 conv=>cbv
 refine Zi hA (λ (i:Int) s=>s.put (some 36) (.val (.int .i64 i))) (λ i=>0<=i/\i<=T.length/\Qc (-1) T=Qc (Zbx T i) (T.drop i.toNat)) (λ i=>(T.length - i).toNat) 0 ?_ ?_ ?_
 ·conv=>cbv
  exact Zk (by simp [leL,leS])
 ·exact ⟨Zyk _,by omega,by simp [Zbx]⟩
 ·rintro R i ⟨hi0,hi1,hi2⟩ hR
  conv=>cbv
  split
  ·rename_i hc
   have hc':i<T.length:=by
    have h':A.iLt i (A.lLen ts)=true:=hc
    rw [htT] at h';subst hA;simpa [Ze] using h'
   have hn:i.toNat<T.length:=by omega
   rw [Zfi T i.toNat hn] at hi2
   conv=>cbv
   refine Zw hA hts hi0 hc' (λ x hx=>?_)
   have hxv:T[i.toNat]=x:=(ZxZ.1 hx).2
   rw [hxv] at hi2
   have step:0<=x->x<=65535->Zbx T i<x->(0<=A.iAdd i 1/\A.iAdd i 1<=T.length/\Qc (-1) T=Qc (Zbx T (A.iAdd i 1)) (T.drop (A.iAdd i 1).toNat))/\(T.length - A.iAdd i 1).toNat<(T.length - i).toNat:=by
    intro a1 a2 a3
    have e:A.iAdd i 1=i+1:=by subst hA;rfl
    rw [e]
    refine ⟨⟨by omega,by omega,?_⟩,by omega⟩
    rw [hi2,show (i+1).toNat=i.toNat+1 by omega]
    simp only [a1,a2,a3,decide_true,ZyL]
    congr 1
    unfold Zbx
    rw [if_neg (by omega),show (i+1 - 1)=i by omega,Zyj,hx];rfl
   have hinr:A.inR (A.iAdd i 1):=by subst hA;show Zj (i+1);unfold Zj;omega
   conv=>cbv
   split
   ·rename_i c1
    have d1:x<0:=by subst hA;simpa [Ze] using c1
    conv=>cbv
    exact bad _ rfl (by rw [hi2];simp;omega)
   rename_i c1
   have d1:0<=x:=by subst hA;have t:=c1;simp [Ze] at t;omega
   conv=>cbv
   split
   ·rename_i c2
    have d2:65535<x:=by subst hA;simpa [Ze] using c2
    conv=>cbv
    exact bad _ rfl (by rw [hi2];simp;omega)
   rename_i c2
   have d2:x<=65535:=by subst hA;have t:=c2;simp [Ze] at t;omega
   conv=>cbv
   split
   ·rename_i c3
    have d3:0<i:=by subst hA;simpa [Ze] using c3
    conv=>cbv
    refine ⟨by subst hA;show Zj (i - 1);unfold Zj;omega,?_⟩
    refine Zw hA hts (n:=A.iSub i 1) (by subst hA;show 0<=i - 1;omega) (by subst hA;show i - 1<T.length;omega) (λ y hy=>?_)
    have hpy:Zbx T i=y:=by
     have hy':T[(i - 1).toNat]?=some y:=by subst hA;exact hy
     unfold Zbx;rw [if_neg (by omega),Zyj,hy'];rfl
    conv=>cbv
    split
    ·rename_i c4
     have d4:x<=y:=by subst hA;simpa [Ze] using c4
     conv=>cbv
     exact bad _ rfl (by rw [hi2,hpy];simp;omega)
    rename_i c4
    have d4:y<x:=by subst hA;have t:=c4;simp [Ze] at t;omega
    have s12:=step d1 d2 (by omega)
    conv=>cbv
    exact ⟨hinr,hR (A.iAdd i 1) _ (by (conv=>cbv);exact Zk (by simp [leL,leS])) s12.1 s12.2⟩
   ·rename_i c3
    have d3:i=0:=by subst hA;have t:=c3;simp [Ze] at t;omega
    have hp0:Zbx T i=-1:=by unfold Zbx;rw [if_pos d3]
    have s12:=step d1 d2 (by omega)
    conv=>cbv
    exact ⟨hinr,hR (A.iAdd i 1) _ (by (conv=>cbv);exact Zk (by simp [leL,leS])) s12.1 s12.2⟩
  ·rename_i hc
   have hc':¬i<T.length:=by
    have h':A.iLt i (A.lLen ts)=false:=hc
    rw [htT] at h';subst hA;simp [Ze] at h';omega
   conv=>cbv
   rw [<-hq,hi2,ZzP (by omega)]
   rfl
open Go.Proofs Go.RowKit
def QL:List Leg->List Int->List (List PV)
 | x::r,a::b::ts=>[Zac x,Y8 ⟨a,b⟩]::QL r (b::ts)
 | _,_=>[]
theorem ZiA:∀(ls:List Leg) (ts:List Int) (k:Nat) (x:Leg) (a b:Int),ls[k]?=some x->ts[k]?=some a->ts[k+1]?=some b->(QL ls ts)[k]?=some [Zac x,Y8 ⟨a,b⟩]
 | [],_,k,x,a,b,h,_,_=>by simp at h
 | _::_,[],k,x,a,b,_,h,_=>by simp at h
 | _::_,[_],k,x,a,b,_,_,h=>by simp at h
 | y::r,u::v::ts,0,x,a,b,h1,h2,h3=>by simp at h1 h2 h3;subst h1 h2 h3;rfl
 | y::r,u::v::ts,k+1,x,a,b,h1,h2,h3=>by
  simp only [QL,Zz5] at h1 h2 h3 ⊢
  exact ZiA r (v::ts) k x a b h1 h2 h3
theorem Zby:∀(ls:List Leg) (ts:List Int),ts.length=ls.length+1->(QL ls ts).length=ls.length
 | [],_,_=>by simp [QL]
 | _::_,[],h=>by simp at h
 | _::_,[_],h=>by simp at h
 | y::r,u::v::ts,h=>by simp only [QL,ZyM];rw [Zby r (v::ts) (by simpa using h)]
theorem ZlY (t:Zh) (p:Qo) (w:Way) (h0:0<=p.Way) (hw:t.Ways[p.Way.toNat]?=some w) (hl:p.Times.length=w.Legs.length+1) (h8:w.Legs.length<=8) {ss cs ws ms ks ts:List PV} (hws:ws=Q3 t.Ways) (hts:ts=Zd p.Times) :
  Zde Tryz.prog 163 [.ptr [.int .i64 t.Volumes,.list 5 ss,.list 3 cs,.list 3 ws,.list 1 ms,.list 6 ks] 0,.ptr [.int .i64 p.Way,.list 1 ts] 0] (QL w.Legs p.Times):=by
 refine Zch (clo:=λ n=>n == 1000003 || n == 3000314) (rows:=false) Zg Tryz.func163 rfl (enters_of Tryz.func163 (by kernel_rfl) rfl) rfl (λ A P Y Y' y R hr hys hy hA hR=>?_)
 have hT:A.bNot true=false:=by subst hA;rfl
 have hF:A.bNot false=true:=by subst hA;rfl
 have hlt:=(ZxZ.1 hw).1
 obtain ⟨nv,hnv⟩:∃nv,nv=t.Volumes:=⟨_,rfl⟩
 rw [<-hnv]
 obtain ⟨way,T⟩:=p
 obtain ⟨w1,w2,ls⟩:=w
 simp only at h0 hw hl h8 hts hys hR hlt ⊢
 rw [Zby ls T hl] at hR
 have hyl:Y.ys.length=ls.length:=by rw [hys];exact Zby ls T hl
 conv=>cbv
 refine Ym hA hws h0 (by omega) (λ w v hw' hv=>?_)
 rw [hw] at hw'
 simp only [Zyu] at hw'
 subst hw'
 simp only at hv
 have hvl:A.lLen v=ls.length:=by subst hA;show (v.length:Int)=_;rw [hv];simp [Qp]
 conv=>cbv
 refine Zi hA (λ (k:Nat) s=>{ s.put (some 14) (.val (.int .i64 k)) with ax:=⟨s.ax.mp,k⟩ }) (λ k=>k<=ls.length) (λ k=>ls.length - k) 0 ?_ ?_ ?_
 ·conv=>cbv
  exact Zk (by simp [leL,leS])
 ·exact ZyQ _
 ·intro R2 k hk hR2
  obtain ⟨i,hi⟩:∃i,i=(k:Int):=⟨_,rfl⟩
  rw [<-hi]
  conv=>cbv
  split
  ·rename_i hc
   have hc':k<ls.length:=by
    have h':A.iLt i (A.lLen v)=true:=hc
    rw [hvl,hi] at h';subst hA;simpa [Ze] using h'
   conv=>cbv
   refine Zdl hA hv (by omega) (by omega) (λ x u hx hu=>?_)
   have hxk:ls[k]?=some x:=by rw [hi,ZyR] at hx;exact hx
   have hi1:A.iAdd i 1=((k+1:Nat):Int):=by subst hA;show i+1=_;omega
   have hinr:A.inR (A.iAdd i 1):=by rw [hi1];subst hA;show Zj _;unfold Zj;omega
   have hfin:∀s',Wk (0,0) s' _->R2 s':=λ s' hw=>hR2 (k+1) s' hw (by omega) (by omega)
   obtain ⟨x1,x2,x3,x4⟩:=x
   conv=>cbv
   refine ⟨ZlV hA (by kernel_rfl),?_⟩
   refine Zw hA hts (by omega) (by omega) (λ a ha=>?_)
   conv=>cbv
   refine ⟨hinr,?_⟩
   refine Zw hA hts (n:=A.iAdd i 1) (by omega) (by omega) (λ b hb=>?_)
   have hget:Y.ys[k]?=some [Zac ⟨x1,x2,x3,x4⟩,Y8 ⟨a,b⟩]:=by
    rw [hys]
    refine ZiA ls T k _ a b hxk ?_ ?_
    ·rw [hi,ZyR] at ha;exact ha
    ·rw [hi1,ZyR] at hb;exact hb
   have hgu:Y.ys[k]?=some [.agg [.int .i64 x1,.int .i64 x2,.int .i64 x3,.list 2 u],.agg [.int .i64 a,.int .i64 b]]:=by rw [hget,hu];rfl
   conv=>cbv
   refine QE hA rfl hy hgu ?_ (λ n hn=>?_)
   ·conv=>cbv
    split
    ·rename_i c3
     have hf:False:=absurd (show A.bNot true=true from c3) (by rw [hT];simp);cases hf
    ·conv=>cbv
     refine ⟨hinr,hfin _ ?_⟩
     rw [<-hi1]
     (conv=>cbv)
     exact Zt (bx:=[]) (bx':=[_]) (mp:=[]) (mp':=[]) (by simp [leL,leS]) (by simp) (by simp) rfl rfl
   ·conv=>cbv
    split
    ·conv=>cbv
     exact hR _ (.inr (by rw [hn,hyl]))
    ·rename_i c3
     have hf:False:=absurd (show A.bNot false=false from c3) (by rw [hF];simp);cases hf
  ·rename_i hc
   have hc':k=ls.length:=by
    have h':A.iLt i (A.lLen v)=false:=hc
    rw [hvl,hi] at h';subst hA;simp [Ze] at h';omega
   conv=>cbv
   exact hR _ (.inl hc')
theorem Zez:∀(ls:List Leg) (ts:List Int) (k:Nat) (x:List PV),(QL ls ts)[k]?=some x->∃(lg:Leg) (a b:Int),x=[Zac lg,Y8 ⟨a,b⟩]/\(Qf ls ts)[k]?=some ⟨false,lg.Volume,⟨a,b⟩⟩
 | [],_,k,x,h=>by simp [QL] at h
 | _::_,[],k,x,h=>by simp [QL] at h
 | _::_,[_],k,x,h=>by simp [QL] at h
 | y::r,u::v::ts,0,x,h=>by simp [QL] at h;exact ⟨y,u,v,h.symm,rfl⟩
 | y::r,u::v::ts,k+1,x,h=>by
  simp only [QL,Qf,Zz5] at h ⊢
  exact Zez r (v::ts) k x h
theorem Ze0:∀(ls:List Leg) (ts:List Int),(Qf ls ts).length=(QL ls ts).length
 | [],_=>by simp [QL,Qf]
 | _::_,[]=>by simp [QL,Qf]
 | _::_,[_]=>by simp [QL,Qf]
 | y::r,u::v::ts=>by simp only [QL,Qf,ZyM];rw [Ze0 r (v::ts)]
theorem ZoG (nv way:Int) (ss cs ws ms ks ts:List PV):Zc Tryz.prog 94 [.agg [.int .i64 nv,.list 5 ss,.list 3 cs,.list 3 ws,.list 1 ms,.list 6 ks],.agg [.int .i64 way,.list 1 ts]]
  (.fn 163 [.ptr [.int .i64 nv,.list 5 ss,.list 3 cs,.list 3 ws,.list 1 ms,.list 6 ks] 0,.ptr [.int .i64 way,.list 1 ts] 0]):=by
 refine Zb (clo:=λ _=>false) (rows:=false) Zg Tryz.func94 rfl (enters_of Tryz.func94 (by kernel_rfl) rfl) (λ A q P Y hr hA hq=>?_)
 conv=>cbv
 rw [<-hq]
theorem Zkg (a m:Int) (hm:Zj (m+1)):Zc Tryz.prog 135 [.int .i64 a,.int .i64 m] (.agg [.bool true,.int .i64 a,.int .i64 m,.int .i64 (m+1)]):=by
 refine Zb (clo:=λ _=>false) (rows:=false) Zg Tryz.func135 rfl (enters_of Tryz.func135 (by kernel_rfl) rfl) (λ A q P Y hr hA hq=>?_)
 conv=>cbv
 refine ⟨by subst hA;exact hm,?_⟩
 rw [<-hq]
 subst hA
 rfl
theorem Zs2 (t:Zh) (p:Qo) (w:Way) (h0:0<=p.Way) (hw:t.Ways[p.Way.toNat]?=some w) (hl:p.Times.length=w.Legs.length+1) (h8:w.Legs.length<=8) (hb:∀m∈p.Times,Zj (m+1)) :
  Zc Tryz.prog 61 [Zn t,Yl p] (.list 4 (ZW (Zbm w p.Times))):=by
 refine Zb (clo:=λ _=>false) (rows:=false) Zg Tryz.func61 rfl (enters_of Tryz.func61 (by kernel_rfl) rfl) (λ A q P Y hr hA hq=>?_)
 have hlt:=(ZxZ.1 hw).1
 obtain ⟨ss,hss⟩:∃ss,ss=ZI t.Sectors:=⟨_,rfl⟩
 obtain ⟨cs,hcs⟩:∃cs,cs=Qh t.Configs:=⟨_,rfl⟩
 obtain ⟨ws,hws⟩:∃ws,ws=Q3 t.Ways:=⟨_,rfl⟩
 obtain ⟨ms,hms⟩:∃ms,ms=Z0 t.Modes:=⟨_,rfl⟩
 obtain ⟨ks,hks⟩:∃ks,ks=ZY t.Kinds:=⟨_,rfl⟩
 obtain ⟨ts,hts⟩:∃ts,ts=Zd p.Times:=⟨_,rfl⟩
 have htl:ts.length=p.Times.length:=by rw [hts];simp [Zd]
 have hseq:=ZlY t p w h0 hw hl h8 (ss:=ss) (cs:=cs) (ms:=ms) (ks:=ks) hws hts
 rw [Zeu t hss hcs hws hms hks,Yw p hts]
 obtain ⟨way,T⟩:=p
 obtain ⟨w1,w2,ls⟩:=w
 simp only at h0 hw hl h8 hb hts hlt hq htl hseq ⊢
 obtain ⟨nv,hnv⟩:∃nv,nv=t.Volumes:=⟨_,rfl⟩
 rw [<-hnv] at hseq ⊢
 have hlen0:A.lLen ts=T.length:=by subst hA;show (ts.length:Int)=_;rw [htl]
 conv=>cbv
 refine Ym hA hws h0 (by omega) (λ w v hw' hv=>?_)
 rw [hw] at hw'
 simp only [Zyu] at hw'
 subst hw'
 simp only at hv
 conv=>cbv
 refine ⟨Zm hA (by kernel_rfl),?_⟩
 refine Zw hA hts (n:=0) (by omega) (by omega) (λ a ha=>?_)
 have haT:a∈T:=Zyb ha
 conv=>cbv
 refine Za hA (Zkg w1 a (hb a haT)) ?_
 obtain ⟨a1,ha1⟩:∃a1,a1=a+1:=⟨_,rfl⟩
 rw [<-ha1]
 conv=>cbv
 refine ⟨by subst hA;show (0+1)*(32+1)<=140737488355328;omega,?_⟩
 refine Za hA (ZoG nv way ss cs ws ms ks ts) ?_
 conv=>cbv
 have hll:=Zby ls T hl
 have hsl:=Ze0 ls T
 refine YU hA hseq (λ x hx=>?_) (λ (L:List PV) s=>{ s with bx:=s.bx.set 2 (some [.own 0 4 L]),tk:=[(A.nLen L,85)] })
  (λ k L=>L=ZW (⟨true,w1,⟨a,a1⟩⟩::(Qf ls T).take k)) [.agg [.bool true,.int .i64 w1,.int .i64 a,.int .i64 a1]] (λ _=>rfl) ?_ ?_ ?_ ?_
 ·obtain ⟨k,hk⟩:=ZyF hx
  obtain ⟨lg,u,v,rfl,_⟩:=Zez ls T k x hk
  rfl
 ·conv=>cbv
  exact Wk.refl _
 ·rfl
 ·intro R k L x hx hL hR
  have hkl:k<(QL ls T).length:=(ZxZ.1 hx).1
  obtain ⟨lg,u,v,rfl,hst⟩:=Zez ls T k x hx
  have hLl:L.length<=9:=by rw [hL];simp [ZW];omega
  have hnext:A.lApp L [.agg [.bool false,.int .i64 lg.Volume,.int .i64 u,.int .i64 v]]=ZW (⟨true,w1,⟨a,a1⟩⟩::(Qf ls T).take (k+1)):=by
   subst hA hL
   rw [ZyD,hst]
   show ZW _++_=_
   simp [ZW,ZfK]
  have htk:A.tkEq (A.nLen L) (A.nLen L):=by subst hA;rfl
  have hroom:A.room (A.nLen (A.lApp L [.agg [.bool false,.int .i64 lg.Volume,.int .i64 u,.int .i64 v]])) 32:=by
   subst hA
   show (L++[_]).length*(32+1)<=140737488355328
   rw [Zyg,Zyt];omega
  obtain ⟨l1,l2,l3,l4⟩:=lg
  rw [show Zac ⟨l1,l2,l3,l4⟩=.agg [.int .i64 l1,.int .i64 l2,.int .i64 l3,.list 2 (Z4 l4)] from rfl]
  generalize Z4 l4=u4
  simp only at hnext hroom
  conv=>cbv
  refine ⟨⟨htk,hroom⟩,hR (A.lApp L [.agg [.bool false,.int .i64 l2,.int .i64 u,.int .i64 v]]) _ ?_ hnext⟩
  conv=>cbv
  exact Zt (bx:=[_,_,_,_]) (bx':=[_,_]) (mp:=[]) (mp':=[]) (by simp [leL,leS]) (by simp) (by simp) rfl rfl
 ·intro L hL
  rw [hll,Zyl (by omega)] at hL
  have hLl:L.length<=9:=by rw [hL];simp [ZW];omega
  have hsub:A.iSub (A.lLen ts) 1=ls.length:=by rw [hlen0];subst hA;show (T.length:Int) - 1=_;omega
  conv=>cbv
  refine ⟨Zm hA (by kernel_rfl),by (show A.inR (A.iSub (A.lLen ts) 1));rw [hsub];subst hA;show Zj _;unfold Zj;omega,?_⟩
  refine Zw hA hts (n:=A.iSub (A.lLen ts) 1) (by omega) (by omega) (λ z hz=>?_)
  rw [hsub,ZyR] at hz
  have hzT:z∈T:=Zyb hz
  have hroom:A.room (A.nLen (A.lApp L [.agg [.bool true,.int .i64 w2,.int .i64 z,.int .i64 (z+1)]])) 32:=by
   subst hA
   show (L++[_]).length*(32+1)<=140737488355328
   rw [Zyg,Zyt];omega
  have hres:A.lApp L [.agg [.bool true,.int .i64 w2,.int .i64 z,.int .i64 (z+1)]]=ZW (Zbm ⟨w1,w2,ls⟩ T):=by
   have hh:T.headD 0=a:=by rw [Int.toNat_zero] at ha;cases T with
    | nil=>simp at ha
    | cons x r=>simp at ha;exact ha
   have hg:T.getLastD 0=z:=by
    rw [Zzz,ZzC,show T.length - 1=ls.length by omega,hz];rfl
   unfold Zbm
   rw [hh,hg,<-ha1]
   subst hA hL
   show ZW _++_=_
   simp [ZW,ZfK]
  have htk:A.tkEq (A.nLen L) (A.nLen L):=by subst hA;rfl
  conv=>cbv
  refine Za hA (Zkg w2 z (hb z hzT)) ?_
  obtain ⟨z1,hz1⟩:∃z1,z1=z+1:=⟨_,rfl⟩
  rw [<-hz1] at hroom hres ⊢
  conv=>cbv
  refine ⟨⟨htk,hroom⟩,?_⟩
  rw [<-hq,<-hres]
open Go.Proofs Go.RowKit
def Yo (t:Zh) (p:Qo):List Zes :=
 match (if 0<=p.Way then t.Ways[p.Way.toNat]? else none) with
 | none=>[]
 | some w=>Zbm w p.Times
def QB (t:Zh) (p:Qo):Int:=if Qe t then (if Yx t.Ways p then 0 else 160) else 140
def ZgE (t:Zh) (p:Qo):PV:=if QB t p=0 then .list 4 (ZW (Yo t p)) else .list 0 []
theorem Zgg:∀(l:List Int) (p:Int),Qc p l=true->∀m∈l,0<=m/\m<=65535
 | [],_,_,m,hm=>by cases hm
 | x::r,p,h,m,hm=>by
  simp only [Qc,Zyi,Zyf] at h
  rcases ZyJ.1 hm with rfl | hm
  ·omega
  ·exact Zgg r x h.2 m hm
theorem Ze1 {t:Zh} {p:Qo} (h:Yx t.Ways p=true):∃w,0<=p.Way/\t.Ways[p.Way.toNat]?=some w/\p.Times.length=w.Legs.length+1/\(∀m∈p.Times,0<=m/\m<=65535)/\Yo t p=Zbm w p.Times:=by
 unfold Yx at h
 split at h
 ·cases h
 ·rename_i w hw
  split at hw
  ·rename_i h0
   simp only [Zyi,Zyf] at h
   exact ⟨w,h0,hw,h.1,Zgg _ _ h.2,by unfold Yo;rw [if_pos h0,hw]⟩
  ·cases hw
theorem ZlZ (t:Zh) (p:Qo):Zc Tryz.prog 17 [Zn t,Yl p] (.tup [ZgE t p,.int .i64 (QB t p)]):=by
 refine Zb (clo:=λ _=>false) (rows:=false) Zg Tryz.func17 rfl (enters_of Tryz.func17 (by kernel_rfl) rfl) (λ A q P Y hr hA hq=>?_)
 have h1:=Zid t
 have h2:Qe t=true->Zc Tryz.prog 60 [Zn t,Yl p] (.int .i64 (if Yx t.Ways p then 0 else 160)):=λ h=>Zs1 t h p
 have h3:Qe t=true->Yx t.Ways p=true->Zc Tryz.prog 61 [Zn t,Yl p] (.list 4 (ZW (Yo t p))):=λ ha h=>by
  obtain ⟨w,a1,a2,a3,a4,a5⟩:=Ze1 h
  rw [a5]
  exact Zs2 t p w a1 a2 a3 (Zfh ha (Zyb a2)).1 (λ m hm=>by have:=a4 m hm;unfold Zj;omega)
 have e0:QB t p=if Qe t then (if Yx t.Ways p then 0 else 160) else 140:=rfl
 have e1:ZgE t p=if QB t p=0 then .list 4 (ZW (Yo t p)) else .list 0 []:=rfl
 rw [e1,e0] at hq
 generalize ZW (Yo t p)=L at h3 hq
 generalize Qe t=b1 at h1 h2 h3 hq
 generalize Yx t.Ways p=b2 at h2 h3 hq
 obtain ⟨ss,hss⟩:∃ss,ss=ZI t.Sectors:=⟨_,rfl⟩
 obtain ⟨cs,hcs⟩:∃cs,cs=Qh t.Configs:=⟨_,rfl⟩
 obtain ⟨ws,hws⟩:∃ws,ws=Q3 t.Ways:=⟨_,rfl⟩
 obtain ⟨ms,hms⟩:∃ms,ms=Z0 t.Modes:=⟨_,rfl⟩
 obtain ⟨ks,hks⟩:∃ks,ks=ZY t.Kinds:=⟨_,rfl⟩
 obtain ⟨ts,hts⟩:∃ts,ts=Zd p.Times:=⟨_,rfl⟩
 rw [Zeu t hss hcs hws hms hks] at h1 h2 h3 ⊢
 rw [Yw p hts] at h2 h3 ⊢
 have hne:A.bNot (A.iEq 140 0)=true:=by subst hA;rfl
 have hne2:A.bNot (A.iEq 160 0)=true:=by subst hA;rfl
 have heq:A.bNot (A.iEq 0 0)=false:=by subst hA;rfl
 obtain ⟨nv,hnv⟩:∃nv,nv=t.Volumes:=⟨_,rfl⟩
 obtain ⟨way,hway⟩:∃way,way=p.Way:=⟨_,rfl⟩
 rw [<-hnv] at h1 h2 h3 ⊢
 rw [<-hway] at h2 h3 ⊢
 conv=>cbv
 cases b1 with
 | false =>
  refine Za hA h1 ?_
  conv=>cbv
  split
  ·conv=>cbv
   rw [<-hq];rfl
  ·rename_i hc
   have hf:False:=absurd (show A.bNot (A.iEq 140 0)=false from hc) (by rw [hne];simp);cases hf
 | true =>
  refine Za hA h1 ?_
  conv=>cbv
  split
  ·rename_i hc
   have hf:False:=absurd (show A.bNot (A.iEq 0 0)=true from hc) (by rw [heq];simp);cases hf
  conv=>cbv
  cases b2 with
  | false =>
   refine Za hA (h2 rfl) ?_
   conv=>cbv
   split
   ·conv=>cbv
    rw [<-hq];rfl
   ·rename_i hc
    have hf:False:=absurd (show A.bNot (A.iEq 160 0)=false from hc) (by rw [hne2];simp);cases hf
  | true =>
   refine Za hA (h2 rfl) ?_
   conv=>cbv
   split
   ·rename_i hc
    have hf:False:=absurd (show A.bNot (A.iEq 0 0)=true from hc) (by rw [heq];simp);cases hf
   conv=>cbv
   refine Za hA (h3 rfl rfl) ?_
   conv=>cbv
   rw [<-hq];rfl
def Zas (t:Zh):List Qo->Int
 | []=>0
 | p::r=>if QB t p=0 then Zas t r else QB t p
theorem ZbA (t:Zh):∀(l m:List Qo),Zas t l=0->Zas t (l++m)=Zas t m
 | [],m,_=>rfl
 | p::r,m,h=>by
  simp only [Zas,Zzq] at h ⊢
  split at h
  ·rename_i h0;rw [if_pos h0];exact ZbA t r m h
  ·rename_i h0;exact absurd h h0
theorem ZiB:∀(ls:List Leg) (ts:List Int),(Qf ls ts).length<=ls.length
 | [],_=>by simp [Qf]
 | _::_,[]=>by simp [Qf]
 | _::_,[_]=>by simp [Qf]
 | y::r,u::v::ts=>by simp only [Qf,ZyM];have:=ZiB r (v::ts);omega
theorem Ze2 {t:Zh} {p:Qo} (h:QB t p=0):(Yo t p).length<=10:=by
 unfold QB at h
 split at h
 ·rename_i ha
  split at h
  ·rename_i hp
   obtain ⟨w,a1,a2,a3,a4,a5⟩:=Ze1 hp
   rw [a5]
   have:=(Zfh ha (Zyb a2)).1
   have:=ZiB w.Legs p.Times
   simp [Zbm];omega
  ·cases h
 ·cases h
open Go.Proofs Go.RowKit
theorem ZoH {A:Ops} {E:Env} (hA:A=Ze E) {t:TypeId} {id off i m k:Nat} {st:St} {K:SV->St->Prop} {C:List SV} {c:SV} (hb:st.bx.getD id none=some C) (ha:(E.T t).agg=false) (hs:(E.T t).size=1) (hc:C[off+i*m+k]?=some c) (hk:K c st) :
  A.rld t (.rbx id off i m k) st K:=by
 refine ZdM hA ?_
 simp only [SV.norm,YZ,hb,ha,hs,Zzf,if_false,if_true]
 refine ⟨(ZxZ.1 hc).1,?_⟩
 simp only [Zyj,hc,Zy0]
 exact hk
theorem ZoI {A:Ops} {E:Env} (hA:A=Ze E) {t:TypeId} {id off i m k:Nat} {st:St} {K:SV->St->Prop} {C C2:List SV} {v:SV} (hb:st.bx.getD id none=some C) (ha:(E.T t).agg=false) (hs:(E.T t).size=1) (hv:v.one=true) (hc:off+i*m+k<C.length)
  (h2:C2=C.set (off+i*m+k) v) (hk:K .undef (st.setBx id (some C2))):A.rst t (.rbx id off i m k) v st K:=by
 refine ZdN hA ?_
 simp only [SV.norm,Zai,hb,ha,hs,hv,Zzf,if_false,and_self,if_true]
 subst h2
 exact ⟨hc,hk⟩
open Go.Proofs Go.RowKit
def Zcr (lo hi n:Int):Bool:=decide (n<lo) || decide (hi<n)
theorem ZqH (lo hi n:Int):Zc Tryz.prog 125 [.int .i64 n,.ptr [.int .i64 lo] 0,.ptr [.int .i64 hi] 0] (.bool (Zcr lo hi n)):=by
 refine Zb (clo:=λ _=>false) (rows:=false) Zg Tryz.func125 rfl (enters_of Tryz.func125 (by kernel_rfl) rfl) (λ A q P Y hr hA hq=>?_)
 conv=>cbv
 split
 ·rename_i h
  conv=>cbv
  rw [<-hq,Zcr,Zyq (ltT hA h)];rfl
 ·rename_i h
  conv=>cbv
  rw [<-hq,Zcr,Zyr (by have:=ltF hA h;omega)]
  show PV.bool (A.iLt hi n)=_
  subst hA;rfl
theorem Zma (lo hi:Int) (l:List Int) {xs:List PV} (hx:xs=Zd l):Zc Tryz.prog 50 [.int .i64 lo,.int .i64 hi,.list 1 xs] (.bool (!l.any (Zcr lo hi))):=by
 refine Zb (clo:=λ _=>false) (rows:=false) Zg Tryz.func50 rfl (enters_of Tryz.func50 (by kernel_rfl) rfl) (λ A q P Y hr hA hq=>?_)
 have hc:=ZbS (Zcr lo hi) l hx (λ x _=>ZqH lo hi x)
 generalize l.any (Zcr lo hi)=b at hc hq
 conv=>cbv
 refine Za hA hc ?_
 conv=>cbv
 rw [<-hq]
 subst hA;rfl
theorem Zs (f:Flight) {ws:List PV} (h:ws=Zd f.Ways):Zx f=.agg [.int .i64 f.ID,.int .i64 f.Airline,.int .i64 f.Class,.str f.Call,.list 1 ws,.int .i64 f.Window.From,.int .i64 f.Window.To,.bool f.Cancel]:=by rw [h];rfl
theorem ZoJ (nv:Int) (ss cs ws ms ks:List PV) (f1 f2 f3 f6 f7:Int) (f4:ByteArray) (f5:List PV) (f8:Bool) :
  Zc Tryz.prog 199 [.agg [.int .i64 nv,.list 5 ss,.list 3 cs,.list 3 ws,.list 1 ms,.list 6 ks],.agg [.int .i64 f1,.int .i64 f2,.int .i64 f3,.str f4,.list 1 f5,.int .i64 f6,.int .i64 f7,.bool f8]]
   (.fn 258 [.ptr [.int .i64 nv,.list 5 ss,.list 3 cs,.list 3 ws,.list 1 ms,.list 6 ks] 0,.ptr [.int .i64 f1,.int .i64 f2,.int .i64 f3,.str f4,.list 1 f5,.int .i64 f6,.int .i64 f7,.bool f8] 0]):=by
 refine Zb (clo:=λ _=>false) (rows:=false) Zg Tryz.func199 rfl (enters_of Tryz.func199 (by kernel_rfl) rfl) (λ A q P Y hr hA hq=>?_)
 conv=>cbv
 rw [<-hq]
def Zgh (n k:Nat):Opt:=⟨(10*(k / (3*n)):Nat),((k % (3*n)) / 3:Nat),(5*(k % 3):Nat),false⟩
def Zay (L:Int) (n:Nat) (c:Bool):List Opt:=(List.range ((L / 10+1).toNat*(3*n))).map (Zgh n)++(if c then [⟨0,0,0,true⟩] else [])
theorem Zkh {n j w m:Nat} (hw:w<n) (hm:m<3):Zgh n (j*(3*n)+(3*w+m))=⟨((10*j:Nat):Int),(w:Int),((5*m:Nat):Int),false⟩:=by
 unfold Zgh
 have hB:0<3*n:=by omega
 have hr:3*w+m<3*n:=by omega
 have e1:(j*(3*n)+(3*w+m)) / (3*n)=j:=by rw [Zz2,Nat.add_mul_div_right _ _ hB,Nat.div_eq_of_lt hr,ZyK]
 have e2:(j*(3*n)+(3*w+m)) % (3*n)=3*w+m:=by rw [Zz2,Nat.add_mul_mod_self_right,ZzF hr]
 have e3:(j*(3*n)+(3*w+m)) % 3=m:=by
  rw [Nat.mul_left_comm]
  generalize j*n=X
  omega
 rw [e1,e2,e3,show (3*w+m) / 3=w by omega]
theorem Zs3 {L:Int} {n j w m:Nat} {c:Bool} (hj:(10*j:Nat)<=L) (hw:w<n) (hm:m<3):((Zay L n c).map λ o=>[Z2 o])[j*(3*n)+(3*w+m)]?=some [.agg [.int .i64 ((10*j:Nat):Int),.int .i64 (w:Int),.int .i64 ((5*m:Nat):Int),.bool false]]:=by
 have hJ:j<(L / 10+1).toNat:=by omega
 have hlt:j*(3*n)+(3*w+m)<(L / 10+1).toNat*(3*n):=by
  have h1:(j+1)*(3*n)<=(L / 10+1).toNat*(3*n):=ZyY _ hJ
  rw [Zzi,Z0h] at h1
  omega
 unfold Zay
 rw [ZyX,Zye (by simpa using hlt),Zyh,Zyh,ZzN hlt]
 simp only [Zy5,Zkh hw hm]
 rfl
theorem ZdU (L:Int) (n:Nat) (c:Bool):(Zay L n c).length=(L / 10+1).toNat*(3*n)+(if c then 1 else 0):=by
 unfold Zay
 rw [Zyg,Zys,List.length_range]
 cases c<;>rfl
theorem ZqI {L:Int} {n:Nat}:((Zay L n true).map λ o=>[Z2 o])[(L / 10+1).toNat*(3*n)]?=some [.agg [.int .i64 0,.int .i64 0,.int .i64 0,.bool true]]:=by
 unfold Zay
 rw [ZyX,Zyd (by simp)]
 simp [Z2]
set_option maxHeartbeats 2000000 in
theorem Znl (K:List Y3) (f:Flight) (k:Y3) (h0:0<=f.Class) (hk:K[f.Class.toNat]?=some k) (hL0:0<=k.Longest) (hL1:k.Longest<=60) (hn:f.Ways.length<=1000) (nv:Int) (ss cs ws ms ks wl:List PV) (hks:ks=ZY K) (hwl:wl=Zd f.Ways) :
  Zde Tryz.prog 258 [.ptr [.int .i64 nv,.list 5 ss,.list 3 cs,.list 3 ws,.list 1 ms,.list 6 ks] 0,.ptr [.int .i64 f.ID,.int .i64 f.Airline,.int .i64 f.Class,.str f.Call,.list 1 wl,.int .i64 f.Window.From,.int .i64 f.Window.To,.bool f.Cancel] 0]
   ((Zay k.Longest f.Ways.length f.Cancel).map λ o=>[Z2 o]):=by
 refine Zch (clo:=λ _=>false) (rows:=false) Zg Tryz.func258 rfl (enters_of Tryz.func258 (by kernel_rfl) rfl) rfl (λ A P Y Y' y R hr hys hy hA hR=>?_)
 have hR':=λ q (h:q=Y.ys.length\/q=Y.ys.length+1)=>hR q (by rw [hys] at h;exact h)
 have hwll:wl.length=f.Ways.length:=by rw [hwl];simp [Zd]
 have hcl:=(ZxZ.1 hk).1
 obtain ⟨f1,f2,f3,f4,f5,⟨f6,f7⟩,f8⟩:=f
 simp only at h0 hk hn hwl hwll hys hcl ⊢
 obtain ⟨n,hnn⟩:∃n,n=f5.length:=⟨_,rfl⟩
 rw [<-hnn] at hn hwll hys
 obtain ⟨L,hLL⟩:∃L,L=k.Longest:=⟨_,rfl⟩
 rw [<-hLL] at hL0 hL1 hys
 have hyl:Y.ys.length=(L / 10+1).toNat*(3*n)+(if f8 then 1 else 0):=by rw [hys,Zys,ZdU]
 conv=>cbv
 refine Zi hA (λ (z:Int × Nat) s=>{ s.put (some 4) (.val (.int .i64 z.1)) with ax:=⟨s.ax.mp,z.2⟩ }) (λ z=>∃j:Nat,z.1=(10*j:Nat)/\(10*j:Nat)<=L+10/\z.2=j*(3*n)) (λ z=>(L+10 - z.1).toNat) (0,0) ?_ ?_ ?_
 ·conv=>cbv
  exact Zk
 ·exact ⟨0,rfl,by omega,by simp⟩
 rintro R2 ⟨d,kk⟩ ⟨j,hd,hj,hkk⟩ hR2
 simp only at hd hkk
 conv=>cbv
 refine Q6 hA hks h0 (by omega) (λ k' v hk' hv=>?_)
 obtain rfl:=Zyc (hk.symm.trans hk')
 obtain ⟨k1,k2,k3,k4,k5,k6⟩:=k
 simp only at hLL
 subst hLL
 conv=>cbv
 split
 ·rename_i hc
  have hdL:=leT hA hc
  have hds:A.iAdd d 10=d+10:=Z5 hA _ _
  conv=>cbv
  have hjL:((10*j:Nat):Int)<=L:=by omega
  refine Zi hA (λ (z:Int × Nat) s=>{ s.put (some 21) (.val (.int .i64 z.1)) with ax:=⟨s.ax.mp,z.2⟩ }) (λ z=>∃w:Nat,z.1=(w:Int)/\w<=n/\z.2=j*(3*n)+3*w) (λ z=>(n - z.1).toNat) (0,kk) ?_ ?_ ?_
  ·conv=>cbv
   exact Zk
  ·exact ⟨0,rfl,by omega,by show kk=_;omega⟩
  rintro R3 ⟨wi,kk⟩ ⟨w,hwi,hwn,hkk⟩ hR3
  simp only at hwi hkk
  conv=>cbv
  split
  ·rename_i hc
   have hw:w<n:=by have:=ZE hA rfl (Zl hA hwll) hc;omega
   have hws:A.iAdd wi 1=wi+1:=Z5 hA _ _
   have hwr:A.inR (A.iAdd wi 1):=Zy hA hws (by unfold Zj;omega)
   conv=>cbv
   refine Zi hA (λ (z:Int × Nat) s=>{ s.put (some 6) (.val (.int .i64 z.1)) with ax:=⟨s.ax.mp,z.2⟩ }) (λ z=>∃m:Nat,z.1=((5*m:Nat):Int)/\m<=3/\z.2=j*(3*n)+(3*w+m)) (λ z=>(15 - z.1).toNat) (0,kk) ?_ ?_ ?_
   ·conv=>cbv
    exact Zk
   ·exact ⟨0,rfl,by omega,by show kk=_;omega⟩
   rintro R4 ⟨h,kk⟩ ⟨m,hh,hm,hkk⟩ hR4
   simp only at hh hkk
   conv=>cbv
   split
   ·rename_i hc
    have hm3:m<3:=by have:=leT hA hc;omega
    have hhs:A.iAdd h 5=h+5:=Z5 hA _ _
    have hhr:A.inR (A.iAdd h 5):=Zy hA hhs (by unfold Zj;omega)
    have hyk:Y.ys[kk]?=some [.agg [.int .i64 d,.int .i64 wi,.int .i64 h,.bool false]]:=by
     rw [hys,hkk,hd,hwi,hh]
     exact Zs3 hjL hw hm3
    conv=>cbv
    refine QE hA rfl hy hyk ?_ (λ n' hn'=>?_)
    ·conv=>cbv
     split
     ·rename_i hc
      cases (nT hA hc)
     conv=>cbv
     refine ⟨hhr,hR4 (A.iAdd h 5,kk+1) _ ?_ ?_ ?_⟩
     ·conv=>cbv
      exact Zk
     ·exact ⟨m+1,by show A.iAdd h 5=_;rw [hhs];omega,by omega,by show kk+1=_;omega⟩
     ·show (15 - A.iAdd h 5).toNat<(15 - h).toNat
      rw [hhs];omega
    ·conv=>cbv
     split
     ·conv=>cbv
      exact hR' _ (.inr hn')
     ·rename_i hc
      have hf:False:=nF hA hc
      cases hf
   ·rename_i hc
    have hm3:m=3:=by have:=leF hA hc;omega
    conv=>cbv
    refine ⟨hwr,hR3 (A.iAdd wi 1,kk) _ ?_ ?_ ?_⟩
    ·conv=>cbv
     exact Zk
    ·exact ⟨w+1,by show A.iAdd wi 1=_;rw [hws];omega,by omega,by show kk=_;omega⟩
    ·show ((n:Int) - A.iAdd wi 1).toNat<((n:Int) - wi).toNat
     rw [hws];omega
  ·rename_i hc
   have hw:w=n:=by have:=ZK hA rfl (Zl hA hwll) hc;omega
   conv=>cbv
   refine ⟨Zy hA hds (by unfold Zj;omega),hR2 (A.iAdd d 10,kk) _ ?_ ?_ ?_⟩
   ·conv=>cbv
    exact Zk
   ·refine ⟨j+1,by show A.iAdd d 10=_;rw [hds];omega,by omega,?_⟩
    show kk=_
    rw [hkk,hw,Zzi,Z0h]
   ·show (L+10 - A.iAdd d 10).toNat<(L+10 - d).toNat
    rw [hds];omega
 ·rename_i hc
  have hdL:=leF hA hc
  have hj2:j=(L / 10+1).toNat:=by omega
  rw [hj2] at hkk
  conv=>cbv
  cases f8 with
  | false =>
   conv=>cbv
   exact hR' _ (.inl (by show kk=_;rw [hyl,hkk];simp))
  | true =>
   have hyk:Y.ys[kk]?=some [.agg [.int .i64 0,.int .i64 0,.int .i64 0,.bool true]]:=by
    rw [hys,hkk]
    exact ZqI
   conv=>cbv
   refine QE hA rfl hy hyk ?_ (λ n' hn'=>?_)
   ·conv=>cbv
    exact hR' _ (.inl (by show kk+1=_;rw [hyl,hkk];simp))
   ·conv=>cbv
    exact hR' _ (.inr hn')
def isO (L:Int) (n:Nat) (c:Bool) (o:Opt):Prop :=
 (o.Cancel=true/\c=true/\o=⟨0,0,0,true⟩)\/(o.Cancel=false/\0<=o.Delay/\o.Delay.tmod 10=0/\o.Delay<=L/\0<=o.Way/\o.Way<n/\0<=o.Hold/\o.Hold.tmod 5=0/\o.Hold<=10)
theorem Zie {L:Int} {n:Nat} {c:Bool} (o:Opt):o∈Zay L n c↔isO L n c o:=by
 unfold Zay
 rw [Zy4]
 constructor
 ·rintro (h | h)
  ·obtain ⟨k,hk,rfl⟩:=Zyz.1 h
   have hk':=ZyP.1 hk
   have hn:0<n:=by
    rcases ZzE n with h0 | h0
    ·subst h0;simp at hk'
    ·exact h0
   have hB:0<3*n:=by omega
   have h1:k / (3*n)<(L / 10+1).toNat:=(Nat.div_lt_iff_lt_mul hB).2 hk'
   have h2:k % (3*n)<3*n:=Z0f _ hB
   have h3:k % 3<3:=Z0f _ (by omega)
   refine .inr ⟨rfl,?_⟩
   simp only [Zgh]
   refine ⟨by omega,?_,by omega,by omega,by omega,by omega,?_,by omega⟩
   ·rw [Zzv (by omega)];omega
   ·rw [Zzv (by omega)];omega
  ·cases c with
   | false=>simp at h
   | true=>simp at h;subst h;exact .inl ⟨rfl,rfl,rfl⟩
 ·rintro (⟨_,rfl,rfl⟩ | ⟨h0,h1,h2,h3,h4,h5,h6,h7,h8⟩)
  ·exact .inr (by simp)
  ·obtain ⟨o1,o2,o3,o4⟩:=o
   simp only at h0 h1 h2 h3 h4 h5 h6 h7 h8
   subst h0
   rw [Zzv h1] at h2
   rw [Zzv h6] at h7
   refine .inl (Zyz.2 ⟨(o1.toNat / 10)*(3*n)+(3*o2.toNat+o3.toNat / 5),ZyP.2 ?_,?_⟩)
   ·have h9:(o1.toNat / 10+1)*(3*n)<=(L / 10+1).toNat*(3*n):=ZyY _ (by omega)
    rw [Zzi,Z0h] at h9
    omega
   ·rw [Zkh (by omega) (by omega)]
    simp only [Opt.mk.injEq,and_true]
    omega
open Go.Proofs Go.RowKit
theorem Zs4 (v:Opt) (l:List Opt) {xs:List PV} (hx:xs=Zq l):Zc Tryz.prog 215 [.list 4 xs,Z2 v] (.int .i64 (QY (λ x=>decide (v=x)) l)):=by
 refine Zb (clo:=λ _=>false) (rows:=false) Zg Tryz.func215 rfl (enters_of Tryz.func215 (by kernel_rfl) rfl) (λ A q P Y hr hA hq=>?_)
 have hlen:=(hr.mem (p:=.list 4 xs) (by simp)).len
 have hll:xs.length=l.length:=by rw [hx];simp [Zq]
 obtain ⟨v1,v2,v3,v4⟩:=v
 conv=>cbv
 refine Zi hA (λ (i:Int) s=>s.put (some 8) (.val (.int .i64 i))) (λ i=>0<=i/\i<=(l.length:Int)/\(λ i=>∀x∈l.take i.toNat,decide ((⟨v1,v2,v3,v4⟩:Opt)=x)=false) i) (λ i=>((l.length:Int) - i).toNat) 0 ?_ ?_ ?_
 ·conv=>cbv
  exact Zk
 ·exact ⟨Zyk _,by omega,by simp⟩
 rintro R i ⟨hi0,hi1,hi2⟩ hRi
 conv=>cbv
 split
 · rename_i hc
   have hi:i<(l.length:Int):=ZE hA rfl (Zl hA hll) hc
   have his:A.iAdd i 1=i+1:=Z5 hA _ _
   have hir:A.inR (A.iAdd i 1):=Zy hA his (by unfold Zj;omega)
   have him:((l.length:Int) - A.iAdd i 1).toNat<((l.length:Int) - i).toNat:=by rw [his];omega
   have hin:(λ i=>∀x∈l.take i.toNat,decide ((⟨v1,v2,v3,v4⟩:Opt)=x)=false) (i+1)->0<=A.iAdd i 1/\A.iAdd i 1<=(l.length:Int)/\(λ i=>∀x∈l.take i.toNat,decide ((⟨v1,v2,v3,v4⟩:Opt)=x)=false) (A.iAdd i 1):=λ h=>by rw [his];exact ⟨by omega,by omega,h⟩
   simp only at hin
   conv=>cbv
   refine ⟨Zm hA (by kernel_rfl),?_⟩
   refine Yn hA hx hi0 hi (λ x hx0=>?_)
   have ht:=Zo hi0 hx0
   obtain ⟨x1,x2,x3,x4⟩:=x
   conv=>cbv
   split
   ·rename_i h
    have h':decide ((⟨v1,v2,v3,v4⟩:Opt)=⟨x1,x2,x3,x4⟩)=true:=by subst hA;simpa [Ze] using h
    conv=>cbv
    rw [<-hq,YI hi0 hx0 h' hi2]
   ·rename_i h
    have h':decide ((⟨v1,v2,v3,v4⟩:Opt)=⟨x1,x2,x3,x4⟩)=false:=by subst hA;simpa [Ze] using h
    conv=>cbv
    exact ⟨hir,hRi (A.iAdd i 1) _ (by (conv=>cbv);exact Zk) (hin (ZS ht hi2 h')) him⟩
 rename_i hc
 have hi:i=(l.length:Int):=by have:=ZK hA rfl (Zl hA hll) hc;omega
 conv=>cbv
 rw [<-hq,Yd (Q7 hi hi2)]
theorem Znm (v:Opt) (l:List Opt) {xs:List PV} (hx:xs=Zq l):Zc Tryz.prog 157 [.list 4 xs,Z2 v] (.bool (decide (v∈l))):=by
 refine Zb (clo:=λ _=>false) (rows:=false) Zg Tryz.func157 rfl (enters_of Tryz.func157 (by kernel_rfl) rfl) (λ A q P Y hr hA hq=>?_)
 have hi:=Zs4 v l hx
 have ha:l.any (λ x=>decide (v=x))=decide (v∈l):=by
  rw [ZyA];simp
 rw [<-ha,<-YV] at hq
 generalize QY (λ x=>decide (v=x)) l=r at hi hq
 obtain ⟨v1,v2,v3,v4⟩:=v
 conv=>cbv
 refine Za hA hi ?_
 conv=>cbv
 rw [<-hq]
 subst hA
 rfl
def Zua (f:Flight):Bool:=decide (f.Ways.length<=8)&&decide (f.Call.size<=100)
theorem Zs5 (f:Flight):Zc Tryz.prog 13 [Zx f] (.bool (Zua f)):=by
 refine Zb (clo:=λ _=>false) (rows:=false) Zg Tryz.func13 rfl (enters_of Tryz.func13 (by kernel_rfl) rfl) (λ A q P Y hr hA hq=>?_)
 have hF:Zua f=(decide (f.Ways.length<=8)&&decide (f.Call.size<=100)):=rfl
 obtain ⟨f1,f2,f3,f4,f5,⟨f6,f7⟩,f8⟩:=f
 obtain ⟨fl,hfl⟩:∃fl,fl=Zd f5:=⟨_,rfl⟩
 have hfl':fl.length=f5.length:=by rw [hfl];simp [Zd]
 rw [Zs _ hfl]
 simp only at hF ⊢
 rw [hF] at hq
 have hs:A.sSize f4=(f4.size:Int):=by subst hA;rfl
 conv=>cbv
 split
 ·rename_i h
  have h':=Zhp hA (Zl hA hfl') rfl h
  conv=>cbv
  rw [<-hq,Zyq (by omega)]
  have e:A.iLe (A.sSize f4) 100=decide (f4.size<=100):=by
   rw [hs];subst hA;simp [Ze];omega
  show PV.bool (A.iLe (A.sSize f4) 100)=_
  rw [e];rfl
 ·rename_i h
  have h':=Zia hA (Zl hA hfl') rfl h
  conv=>cbv
  rw [<-hq,Zyr (by omega)];rfl
open Go.Proofs Go.RowKit Go.Shelf
def Zw5:Ren:=⟨λ x=>if x=137 then 188 else if x=217 then 243 else 280,λ x=>if x=3 then 3 else if x=5 then 5 else 9,id⟩
theorem Zw6:Lays.n137 Tryz.prog Zw5 where
 mixed:=by kernel_rfl
 f137:=by kernel_rfl
 f217:=by kernel_rfl
 f266:=by kernel_rfl
 t3:=Tryz.underlying3
 a3:=Tryz.isAgg3
 z3:=Tryz.sizeOf3
 v3:=Tryz.zeroValue3
 t5:=Tryz.underlying5
 a5:=Tryz.isAgg5
 z5:=Tryz.sizeOf5
 v5:=Tryz.zeroValue5
 t9:=Tryz.underlying9
 a9:=Tryz.isAgg9
 z9:=Tryz.sizeOf9
 v9:=Tryz.zeroValue9
theorem Zlt (s:ByteArray) (c:Int):Zc Tryz.prog 188 [.str s,.int .u8 c] (.int .i64 (Lib.indexByte s.data.toList c.toNat.toUInt8)):=by
 refine ⟨enters_of Tryz.func188 (by kernel_rfl) rfl,λ S w vs hS hv=>?_⟩
 obtain ⟨hl,hv⟩:=hv
 match vs,hl with
 | [v0,v1],_ =>
  have h0:=hv 0 _ v0 rfl rfl
  have h1:=hv 1 _ v1 rfl rfl
  cases h0;cases h1
  have h:Calls Tryz.prog 188 #[.string s,.int .u8 c] w _:=Any.strings_IndexByte Zw6 s c w
  refine h.mono ?_
  rintro e w' ⟨rfl,rfl⟩
  exact ⟨_,rfl,Below.refl _ _,.int _ _⟩
def ZoK:ByteArray:=⟨#[123,125,40,41,59,44,61,35,47,60,33,45,46]⟩
def Ye (c:Int):Int :=
 if (97<=c/\c<=122)\/(65<=c/\c<=90) then 2 else if 48<=c/\c<=57 then 3 else if c=95 then 5 else if c=32\/c=9\/c=10\/c=13 then 1 else
  if 0<=Lib.indexByte ZoK.data.toList c.toNat.toUInt8 then 4 else 0
set_option maxHeartbeats 4000000 in
theorem Zs6 (c:Int):Zc Tryz.prog 126 [.int .u8 c] (.int .i64 (Ye c)):=by
 refine Zb (clo:=λ _=>false) (rows:=false) Zg Tryz.func126 rfl (enters_of Tryz.func126 (by kernel_rfl) rfl) (λ A q P Y hr hA hq=>?_)
 have hidx:=Zlt ZoK c
 have hC:Ye c=if (97<=c/\c<=122)\/(65<=c/\c<=90) then 2 else if 48<=c/\c<=57 then 3 else if c=95 then 5 else if c=32\/c=9\/c=10\/c=13 then 1 else
  if 0<=Lib.indexByte ZoK.data.toList c.toNat.toUInt8 then 4 else 0:=rfl
 rw [hC] at hq
 clear hC
 generalize Lib.indexByte ZoK.data.toList c.toNat.toUInt8=ix at hidx hq
 rw [show ZoK=⟨#[123,125,40,41,59,44,61,35,47,60,33,45,46]⟩ from rfl] at hidx
 conv=>cbv
 repeat' first
  | (split<;>rename_i d<;>(first | replace d:=leT hA d | replace d:=leF hA d | replace d:=eqT hA d | replace d:=eqF hA d)<;>(conv=>cbv))
  | (refine Za hA hidx ?_;conv=>cbv)
 all_goals
  rw [<-hq]
  congr 1
  (repeat' split)<;>omega
open Go.Proofs Go.RowKit
def YA (s:ByteArray) (i:Nat):Int:=((s.data.toList.getD i 0).toNat:Int)
def okC (c:Int):Bool:=decide (c=2) || decide (c=3) || decide (c=5)
def ZcI (s:ByteArray):Bool:=!decide (s.size=0)&&decide ((s.size:Int)<=32)&&decide (Ye (YA s 0)=2)&&(List.range s.size).all λ i=>okC (Ye (YA s i))
section
variable {A:Ops} {E:Env}
theorem ZxC (hA:A=Ze E) {a b:ByteArray} (h:A.sEq a b=true):a=b:=by subst hA;simpa [Ze] using h
theorem ZxD (hA:A=Ze E) {a b:ByteArray} (h:A.sEq a b=false):a≠b:=by subst hA;simpa [Ze] using h
theorem szI (hA:A=Ze E) (s:ByteArray):A.sSize s=(s.size:Int):=by subst hA;rfl
theorem byI (hA:A=Ze E) (s:ByteArray) (n:Int):A.sByte s n=YA s n.toNat:=by subst hA;rfl
end
theorem Zw7 {s:ByteArray} (h:s.size=0):s=⟨#[]⟩:=by
 obtain ⟨d⟩:=s
 have h':d.size=0:=h
 rw [Array.size_eq_zero_iff.1 h']
theorem ZoL {A:Ops} {E:Env} (hA:A=Ze E) (s:ByteArray) (n:Int):Zc Tryz.prog 126 [.int .u8 (A.sByte s n)] (.int .i64 (Ye (YA s n.toNat))):=by
 rw [byI hA];exact Zs6 _
theorem ZoM {s:ByteArray} {i:Nat} (hi:i<s.size) (h:okC (Ye (YA s i))=false):ZcI s=false:=by
 have:((List.range s.size).all λ i=>okC (Ye (YA s i)))=false:=by
  rw [Z0t]
  exact ⟨i,ZyP.2 hi,by rw [h];decide⟩
 rw [ZcI,this,Bool.and_false]
theorem Zub (s:ByteArray):Zc Tryz.prog 51 [.str s] (.bool (ZcI s)):=by
 refine Zb (clo:=λ _=>false) (rows:=false) Zg Tryz.func51 rfl (enters_of Tryz.func51 (by kernel_rfl) rfl) (λ A q P Y hr hA hq=>?_)
 conv=>cbv
 split
 ·rename_i h
  conv=>cbv
  rw [<-hq,ZcI,ZxC hA h];rfl
 rename_i h1
 have h1':s.size≠0:=λ e=>ZxD hA h1 (Zw7 e)
 conv=>cbv
 split
 ·rename_i h
  have h':=ZE hA rfl (szI hA s) h
  conv=>cbv
  rw [<-hq,ZcI,Zyr (p:=(s.size:Int)<=32) (by omega)];simp
 rename_i h2
 have h2':(s.size:Int)<=32:=ZK hA rfl (szI hA s) h2
 conv=>cbv
 refine ⟨Zdo hA (szI hA s) (by omega) (by omega),?_⟩
 conv=>cbv
 refine Zhl hA (ZoL hA s 0) rfl (λ c hc=>?_)
 conv=>cbv
 split
 ·rename_i h
  have h':Ye (YA s 0)≠2:=λ e=>neT hA h (hc.trans e)
  conv=>cbv
  rw [<-hq,ZcI,Zyr (p:=Ye (YA s 0)=2) h'];simp
 rename_i h3
 have h3':Ye (YA s 0)=2:=hc.symm.trans (neF hA h3)
 clear hc
 conv=>cbv
 refine Zi hA (λ (i:Int) s=>s.put (some 20) (.val (.int .i64 i))) (λ i=>0<=i/\i<=(s.size:Int)/\(λ i=>∀k,k<i.toNat->okC (Ye (YA s k))=true) i) (λ i=>((s.size:Int) - i).toNat) 0 ?_ ?_ ?_
 ·conv=>cbv
  exact Zk
 ·exact ⟨Zyk _,by omega,by simp⟩
 rintro R i ⟨hi0,hi1,hi2⟩ hRi
 conv=>cbv
 split
 · rename_i hc
   have hi:i<(s.size:Int):=ZE hA rfl (szI hA s) hc
   have his:A.iAdd i 1=i+1:=Z5 hA _ _
   have hir:A.inR (A.iAdd i 1):=Zy hA his (by unfold Zj;omega)
   have him:((s.size:Int) - A.iAdd i 1).toNat<((s.size:Int) - i).toNat:=by rw [his];omega
   have hin:(λ i=>∀k,k<i.toNat->okC (Ye (YA s k))=true) (i+1)->0<=A.iAdd i 1/\A.iAdd i 1<=(s.size:Int)/\(λ i=>∀k,k<i.toNat->okC (Ye (YA s k))=true) (A.iAdd i 1):=λ h=>by rw [his];exact ⟨by omega,by omega,h⟩
   simp only at hin
   conv=>cbv
   refine ⟨Zdo hA (szI hA s) hi0 hi,?_⟩
   conv=>cbv
   refine Zhl hA (ZoL hA s i) rfl (λ b hb=>?_)
   conv=>cbv
   have good:(b=2\/b=3\/b=5)->∀k,k<(i+1).toNat->okC (Ye (YA s k))=true:=λ h k hk=>by
    rcases Z0l (Z08 (show k<i.toNat+1 by omega)) with h1 | h1
    ·exact hi2 k h1
    ·rw [h1,<-hb,okC];rcases h with h | h | h<;>rw [h]<;>rfl
   split
   ·rename_i c1
    conv=>cbv
    split
    ·rename_i c2
     conv=>cbv
     split
     ·rename_i c3
      conv=>cbv
      rw [<-hq,ZoM (i:=i.toNat) (by omega) (by rw [<-hb,okC,Zyr (neT hA c1),Zyr (neT hA c2),Zyr (neT hA c3)];rfl)]
     ·rename_i c3
      conv=>cbv
      exact ⟨hir,hRi (A.iAdd i 1) _ (by (conv=>cbv);exact Zk) (hin (good (.inr (.inr (neF hA c3))))) him⟩
    ·rename_i c2
     conv=>cbv
     exact ⟨hir,hRi (A.iAdd i 1) _ (by (conv=>cbv);exact Zk) (hin (good (.inr (.inl (neF hA c2))))) him⟩
   ·rename_i c1
    conv=>cbv
    exact ⟨hir,hRi (A.iAdd i 1) _ (by (conv=>cbv);exact Zk) (hin (good (.inl (neF hA c1)))) him⟩
 rename_i hc
 have hi:i=(s.size:Int):=by have:=ZK hA rfl (szI hA s) hc;omega
 conv=>cbv
 rw [<-hq,ZcI,Zyr h1',Zyq h2',Zyq h3']
 have:((List.range s.size).all λ i=>okC (Ye (YA s i)))=true:=by
  rw [Zym]
  intro k hk
  exact hi2 k (by have:=ZyP.1 hk;omega)
 rw [this];rfl
open Go.Proofs Go.RowKit
def Zcz (c:Int):Bool:=decide (97<=c/\c<=122) || decide (65<=c/\c<=90)
def ZfL (c:Int):Bool:=decide (48<=c/\c<=57)
def ZoN (c:Int):Bool:=Zcz c || ZfL c || decide (c=95)
theorem ZoO (c:Int):Zcz c=decide (Ye c=2):=by
 unfold Zcz Ye
 rw [ZyA]
 simp only [Zzd,Zyf]
 constructor
 ·intro h;rw [if_pos h]
 ·intro h
  by_cases h1:(97<=c/\c<=122)\/(65<=c/\c<=90)
  ·exact h1
  ·rw [if_neg h1] at h
   repeat' split at h
   all_goals cases h
theorem Zs7 (c:Int):ZoN c=okC (Ye c):=by
 unfold ZoN Zcz ZfL okC Ye
 rw [ZyA]
 simp only [Zzd,Zyf]
 by_cases h1:(97<=c/\c<=122)\/(65<=c/\c<=90)
 ·rw [if_pos h1];simp [h1]
 ·rw [if_neg h1]
  by_cases h2:48<=c/\c<=57
  ·rw [if_pos h2];simp [h2]
  ·rw [if_neg h2]
   by_cases h3:c=95
   ·rw [if_pos h3];simp [h3]
   ·rw [if_neg h3]
    simp only [h1,h2,h3,or_self,false_iff]
    repeat' split
    all_goals simp
theorem Zv2 {A:Ops} {E:Env} (hA:A=Ze E) (a b:Int):A.iLe a b=decide (a<=b):=by subst hA;rfl
theorem Zht (c:Int):Zc Tryz.prog 297 [.int .u8 c] (.bool (Zcz c)):=by
 refine Zb (clo:=λ _=>false) (rows:=false) Zg Tryz.func297 rfl (enters_of Tryz.func297 (by kernel_rfl) rfl) (λ A q P Y hr hA hq=>?_)
 have fin:∀b:Bool,(b=true↔(97<=c/\c<=122)\/(65<=c/\c<=90))->PV.bool b=q:=λ b h=>by
  rw [<-hq];congr 1;rw [ZyA,h];simp [Zcz]
 conv=>cbv
 split
 ·rename_i h1
  have h1':=leT hA h1
  conv=>cbv
  split
  ·rename_i h2
   have h2':=leT hA h2
   conv=>cbv
   exact fin _ ⟨λ _=>by omega,λ _=>rfl⟩
  ·rename_i h2
   have h2':=leF hA h2
   conv=>cbv
   split
   ·rename_i h3
    conv=>cbv
    refine fin (A.iLe c 90) ?_
    rw [Zv2 hA,decide_eq_true_iff];omega
   ·rename_i h3
    have h3':=leF hA h3
    conv=>cbv
    exact fin _ ⟨λ h=>Bool.noConfusion h,λ h=>by omega⟩
 ·rename_i h1
  have h1':=leF hA h1
  conv=>cbv
  split
  ·rename_i h3
   have h3':=leT hA h3
   conv=>cbv
   refine fin (A.iLe c 90) ?_
   rw [Zv2 hA,decide_eq_true_iff];omega
  ·rename_i h3
   have h3':=leF hA h3
   conv=>cbv
   exact fin _ ⟨λ h=>Bool.noConfusion h,λ h=>by omega⟩
theorem Znn (c:Int):Zc Tryz.prog 306 [.int .u8 c] (.bool (ZfL c)):=by
 refine Zb (clo:=λ _=>false) (rows:=false) Zg Tryz.func306 rfl (enters_of Tryz.func306 (by kernel_rfl) rfl) (λ A q P Y hr hA hq=>?_)
 have fin:∀b:Bool,(b=true↔(48<=c/\c<=57))->PV.bool b=q:=λ b h=>by
  rw [<-hq];congr 1;rw [ZyA,h];simp [ZfL]
 conv=>cbv
 split
 ·rename_i h1
  have h1':=leT hA h1
  conv=>cbv
  refine fin (A.iLe c 57) ?_
  rw [Zv2 hA,decide_eq_true_iff];omega
 ·rename_i h1
  have h1':=leF hA h1
  conv=>cbv
  exact fin _ ⟨λ h=>Bool.noConfusion h,λ h=>by omega⟩
theorem ZqJ (c:Int):Zc Tryz.prog 298 [.int .u8 c] (.bool (ZoN c)):=by
 refine Zb (clo:=λ _=>false) (rows:=false) Zg Tryz.func298 rfl (enters_of Tryz.func298 (by kernel_rfl) rfl) (λ A q P Y hr hA hq=>?_)
 have h1:=Zht c
 have h2:=Znn c
 have hP:ZoN c=(Zcz c || ZfL c || decide (c=95)):=rfl
 rw [hP] at hq
 generalize Zcz c=b1 at h1 hq
 generalize ZfL c=b2 at h2 hq
 conv=>cbv
 refine Za hA (h1) ?_
 conv=>cbv
 cases b1 with
 | true =>
  conv=>cbv
  exact hq
 | false =>
  conv=>cbv
  refine Za hA (h2) ?_
  conv=>cbv
  cases b2 with
  | true =>
   conv=>cbv
   exact hq
  | false =>
   conv=>cbv
   refine Eq.trans ?_ hq
   show PV.bool (A.iEq c 95)=_
   rw [ZxA hA];rfl
theorem ZoP {A:Ops} {E:Env} (hA:A=Ze E) (s:ByteArray) (n:Int):Zc Tryz.prog 297 [.int .u8 (A.sByte s n)] (.bool (Zcz (YA s n.toNat))):=by
 rw [byI hA];exact Zht _
theorem ZoQ {A:Ops} {E:Env} (hA:A=Ze E) (s:ByteArray) (n:Int):Zc Tryz.prog 298 [.int .u8 (A.sByte s n)] (.bool (ZoN (YA s n.toNat))):=by
 rw [byI hA];exact ZqJ _
theorem ZqK (s:ByteArray):Zc Tryz.prog 285 [.str s] (.bool (ZcI s)):=by
 refine Zb (clo:=λ _=>false) (rows:=false) Zg Tryz.func285 rfl (enters_of Tryz.func285 (by kernel_rfl) rfl) (λ A q P Y hr hA hq=>?_)
 conv=>cbv
 split
 ·rename_i h
  have h':=ZE hA (szI hA s) rfl h
  conv=>cbv
  rw [<-hq,ZcI,Zyq (p:=s.size=0) (by omega)];rfl
 rename_i h1
 have h1':=ZK hA (szI hA s) rfl h1
 conv=>cbv
 split
 ·rename_i h
  have h':=ZE hA rfl (szI hA s) h
  conv=>cbv
  rw [<-hq,ZcI,Zyr (p:=(s.size:Int)<=32) (by omega)];simp
 rename_i h2
 have h2':(s.size:Int)<=32:=ZK hA rfl (szI hA s) h2
 conv=>cbv
 refine ⟨Zdo hA (szI hA s) (by omega) (by omega),?_⟩
 conv=>cbv
 refine Qk hA (ZoP hA s 0) rfl (λ c hc=>?_)
 conv=>cbv
 rw [ZoO] at hc
 split
 ·rename_i h
  have h':Ye (YA s 0)≠2:=of_decide_eq_false (hc.symm.trans (Yy hA h))
  conv=>cbv
  rw [<-hq,ZcI,Zyr (p:=Ye (YA s 0)=2) h'];simp
 rename_i h3
 have h3':Ye (YA s 0)=2:=ZyU (hc.symm.trans (YP hA h3))
 clear hc
 conv=>cbv
 refine Zi hA (λ (i:Int) s=>s.put (some 3) (.val (.int .i64 i))) (λ i=>0<=i/\i<=(s.size:Int)/\(λ i=>∀k,k<i.toNat->okC (Ye (YA s k))=true) i) (λ i=>((s.size:Int) - i).toNat) 0 ?_ ?_ ?_
 ·conv=>cbv
  exact Zk
 ·exact ⟨Zyk _,by omega,by simp⟩
 rintro R i ⟨hi0,hi1,hi2⟩ hRi
 conv=>cbv
 split
 · rename_i hc
   have hi:i<(s.size:Int):=ZE hA rfl (szI hA s) hc
   have his:A.iAdd i 1=i+1:=Z5 hA _ _
   have hir:A.inR (A.iAdd i 1):=Zy hA his (by unfold Zj;omega)
   have him:((s.size:Int) - A.iAdd i 1).toNat<((s.size:Int) - i).toNat:=by rw [his];omega
   have hin:(λ i=>∀k,k<i.toNat->okC (Ye (YA s k))=true) (i+1)->0<=A.iAdd i 1/\A.iAdd i 1<=(s.size:Int)/\(λ i=>∀k,k<i.toNat->okC (Ye (YA s k))=true) (A.iAdd i 1):=λ h=>by rw [his];exact ⟨by omega,by omega,h⟩
   simp only at hin
   conv=>cbv
   refine ⟨Zdo hA (szI hA s) hi0 hi,?_⟩
   conv=>cbv
   refine Qk hA (ZoQ hA s i) rfl (λ b hb=>?_)
   conv=>cbv
   rw [Zs7] at hb
   split
   ·rename_i h
    conv=>cbv
    rw [<-hq,ZoM (i:=i.toNat) (by omega) (by rw [<-hb];exact Yy hA h)]
   rename_i h
   have hb1:=YP hA h
   rw [hb1] at hb
   have nx:∀k,k<(i+1).toNat->okC (Ye (YA s k))=true:=λ k hk=>by
    rcases Z0l (Z08 (show k<i.toNat+1 by omega)) with h1 | h1
    ·exact hi2 k h1
    ·rw [h1];exact hb.symm
   conv=>cbv
   exact ⟨hir,hRi (A.iAdd i 1) _ (by (conv=>cbv);exact Zk) (hin nx) him⟩
 rename_i hc
 have hi:i=(s.size:Int):=by have:=ZK hA rfl (szI hA s) hc;omega
 conv=>cbv
 rw [<-hq,ZcI,Zyr (p:=s.size=0) (by omega),Zyq h2',Zyq h3']
 have:((List.range s.size).all λ i=>okC (Ye (YA s i)))=true:=by
  rw [Zym]
  intro k hk
  exact hi2 k (by have:=ZyP.1 hk;omega)
 rw [this];rfl
open Go.Lib Go.Proofs Go.RowKit Go.Shelf Go.Sort
def Zv3:Ren:=⟨λ x=>if x=5 then 128 else if x=7 then 190 else if x=8 then 160 else if x=10 then 244 else if x=11 then 245 else if x=12 then 246 else if x=13 then 247 else if x=14 then 248 else if x=15 then 249 else if x=16 then 139 else if x=17 then 250 else if x=18 then 251 else if x=19 then 226 else if x=20 then 227 else if x=30 then 281 else if x=31 then 272 else if x=32 then 273 else if x=33 then 282 else if x=34 then 283 else if x=35 then 161 else 296,λ x=>if x=0 then 0 else if x=3 then 3 else if x=4 then 4 else if x=5 then 5 else if x=9 then 9 else if x=22 then 29 else if x=23 then 29 else if x=25 then 3 else if x=32 then 36 else if x=35 then 299 else if x=36 then 300 else if x=41 then 88 else if x=44 then 95 else if x=46 then 307 else if x=53 then 342 else if x=57 then 346 else if x=63 then 361 else 362,id⟩
theorem Zv4:SlLaysM.n5 Tryz.prog Zv3 where
 mixed:=by kernel_rfl
 f5:=⟨"slices.Sort[[]int,int]",rfl,by kernel_rfl⟩
 f7:=⟨"slices.pdqsortOrdered[int]",rfl,by kernel_rfl⟩
 f8:=by kernel_rfl
 f10:=⟨"slices.insertionSortOrdered[int]",rfl,by kernel_rfl⟩
 f11:=⟨"slices.heapSortOrdered[int]",rfl,by kernel_rfl⟩
 f12:=⟨"slices.breakPatternsOrdered[int]",rfl,by kernel_rfl⟩
 f13:=⟨"slices.choosePivotOrdered[int]",rfl,by kernel_rfl⟩
 f14:=⟨"slices.reverseRangeOrdered[int]",rfl,by kernel_rfl⟩
 f15:=⟨"slices.partialInsertionSortOrdered[int]",rfl,by kernel_rfl⟩
 f16:=⟨"cmp.Less[int]",rfl,by kernel_rfl⟩
 f17:=⟨"slices.partitionEqualOrdered[int]",rfl,by kernel_rfl⟩
 f18:=⟨"slices.partitionOrdered[int]",rfl,by kernel_rfl⟩
 f19:=by kernel_rfl
 f20:=by kernel_rfl
 f30:=⟨"slices.siftDownOrdered[int]",rfl,by kernel_rfl⟩
 f31:=by kernel_rfl
 f32:=by kernel_rfl
 f33:=⟨"slices.medianAdjacentOrdered[int]",rfl,by kernel_rfl⟩
 f34:=⟨"slices.medianOrdered[int]",rfl,by kernel_rfl⟩
 f35:=⟨"cmp.isNaN[int]",rfl,by kernel_rfl⟩
 f40:=⟨"slices.order2Ordered[int]",rfl,by kernel_rfl⟩
 t0:=Tryz.underlying0
 a0:=Tryz.isAgg0
 z0:=Tryz.sizeOf0
 v0:=Tryz.zeroValue0
 t3:=Tryz.underlying3
 a3:=Tryz.isAgg3
 z3:=Tryz.sizeOf3
 v3:=Tryz.zeroValue3
 t4:=Tryz.underlying4
 a4:=Tryz.isAgg4
 z4:=Tryz.sizeOf4
 v4:=Tryz.zeroValue4
 t5:=Tryz.underlying5
 a5:=Tryz.isAgg5
 z5:=Tryz.sizeOf5
 v5:=Tryz.zeroValue5
 t9:=Tryz.underlying9
 a9:=Tryz.isAgg9
 z9:=Tryz.sizeOf9
 v9:=Tryz.zeroValue9
 t22:=Tryz.underlying29
 a22:=Tryz.isAgg29
 z22:=Tryz.sizeOf29
 v22:=Tryz.zeroValue29
 t23:=Tryz.underlying29
 a23:=Tryz.isAgg29
 z23:=Tryz.sizeOf29
 v23:=Tryz.zeroValue29
 t25:=Tryz.underlying3
 a25:=Tryz.isAgg3
 z25:=Tryz.sizeOf3
 v25:=Tryz.zeroValue3
 t32:=Tryz.underlying36
 a32:=Tryz.isAgg36
 z32:=Tryz.sizeOf36
 v32:=Tryz.zeroValue36
 t35:=Tryz.underlying299
 a35:=Tryz.isAgg299
 z35:=Tryz.sizeOf299
 v35:=Tryz.zeroValue299
 t36:=Tryz.underlying300
 a36:=Tryz.isAgg300
 z36:=Tryz.sizeOf300
 v36:=Tryz.zeroValue300
 t41:=Tryz.underlying88
 a41:=Tryz.isAgg88
 z41:=Tryz.sizeOf88
 v41:=Tryz.zeroValue88
 t44:=Tryz.underlying95
 a44:=Tryz.isAgg95
 z44:=Tryz.sizeOf95
 v44:=Tryz.zeroValue95
 t46:=Tryz.underlying307
 a46:=Tryz.isAgg307
 z46:=Tryz.sizeOf307
 v46:=Tryz.zeroValue307
 t53:=Tryz.underlying342
 a53:=Tryz.isAgg342
 z53:=Tryz.sizeOf342
 v53:=Tryz.zeroValue342
 t57:=Tryz.underlying346
 a57:=Tryz.isAgg346
 z57:=Tryz.sizeOf346
 v57:=Tryz.zeroValue346
 t63:=Tryz.underlying361
 a63:=Tryz.isAgg361
 z63:=Tryz.sizeOf361
 v63:=Tryz.zeroValue361
 t64:=Tryz.underlying362
 a64:=Tryz.isAgg362
 z64:=Tryz.sizeOf362
 v64:=Tryz.zeroValue362
def ZqL:Ren:=⟨λ _=>53,λ x=>if x=0 then 0 else if x=3 then 3 else if x=4 then 4 else 29,id⟩
theorem ZqM:Lays2.n20 Tryz.prog ZqL where
 mixed:=by kernel_rfl
 f20:=by kernel_rfl
 t0:=Tryz.underlying0
 a0:=Tryz.isAgg0
 z0:=Tryz.sizeOf0
 v0:=Tryz.zeroValue0
 t3:=Tryz.underlying3
 a3:=Tryz.isAgg3
 z3:=Tryz.sizeOf3
 v3:=Tryz.zeroValue3
 t4:=Tryz.underlying4
 a4:=Tryz.isAgg4
 z4:=Tryz.sizeOf4
 v4:=Tryz.zeroValue4
 t22:=Tryz.underlying29
 a22:=Tryz.isAgg29
 z22:=Tryz.sizeOf29
 v22:=Tryz.zeroValue29
 i3:=by kernel_rfl
theorem Zki {α:Type} [Inhabited α] [DecidableEq α] (d:Array α) (m:Nat):(compactUpTo d m).length<=m:=by
 unfold compactUpTo
 rw [Zys]
 exact Zy1 (ZyH _ _) (by simp)
theorem ZoR {rows:Bool} {clo:FuncId->Bool} {Y:YS} {bx:List (Option (List SV))} {tk:List (Nat × TypeId)} {ax:Ax} {id n cap:Nat} {zs:List Int} {rest:List SV} (hc:bx[id]?=some (some ((Zd zs).map SV.val++rest))) (hn:n=zs.length) (hz:zs.length<4611686018427387904) :
  ZV ⟨Tryz.prog,tab,clo,rows,Y⟩ 128 [.row id 0 1 n cap] bx tk ax λ r bx' tk' ax'=>r=.val (.tup [])/\(∃d,d.length=zs.length/\d=zs.mergeSort (λ x y=>decide (x<=y))/\bx'=bx.set id (some ((Zd d).map SV.val++rest)))/\tk'=tk/\ax'=ax:=by
 subst hn
 refine Zi6 (E:=⟨Tryz.prog,tab,clo,rows,Y⟩) (enters_of Tryz.func128 (by kernel_rfl) rfl) hc (.val (.tup [])) (λ _=>.tuple #[]) (λ tk G S w b hb=>RV.tup [] [] rfl (by simp)) (λ d=>d=zs.mergeSort λ x y=>decide (x<=y)) λ w b hH hb hcap hmax=>?_
 have h:=AnyM.slices_Sort_int Zv4 b 0 cap zs w hH hb hz
 refine Calls.mono (show Calls Tryz.prog 128 _ w _ from h) ?_
 rintro e w' ⟨rfl,k,os,rfl⟩
 exact ⟨rfl,k,os,_,by simp,rfl,rfl⟩
theorem Zkj {rows:Bool} {clo:FuncId->Bool} {Y:YS} {bx:List (Option (List SV))} {tk:List (Nat × TypeId)} {ax:Ax} {id n cap:Nat} {zs:List Int} {rest:List SV} (hc:bx[id]?=some (some ((Zd zs).map SV.val++rest))) (hn:n=zs.length) (hz:zs.length<4611686018427387904) (hcap:n<=cap) (hmax:cap<=maxLen) :
  ZV ⟨Tryz.prog,tab,clo,rows,Y⟩ 53 [.row id 0 1 n cap] bx tk ax λ r bx' tk' ax'=>r=.row id 0 1 (compactUpTo zs.toArray zs.length).length cap/\(∃d,d.length=zs.length/\True/\bx'=bx.set id (some ((Zd d).map SV.val++rest)))/\tk'=tk/\ax'=ax:=by
 subst hn
 have hle:(compactUpTo zs.toArray zs.length).length<=zs.length:=Zki _ _
 refine Zi6 (E:=⟨Tryz.prog,tab,clo,rows,Y⟩) (enters_of Tryz.func53 (by kernel_rfl) rfl) hc (.row id 0 1 (compactUpTo zs.toArray zs.length).length cap) (λ b=>.slice (some ⟨b,0,none⟩) (compactUpTo zs.toArray zs.length).length cap) (λ tk G S w b hb=>⟨b,hb,rfl,by omega,hmax⟩) (λ d=>True) λ w b hH hb hcap hmax=>?_
 have h:=Any.slices_Compact_int_arr ZqM b 0 cap zs.toArray w hH (by simp;omega) (by simpa using hcap)
 refine Calls.mono (show Calls Tryz.prog 53 _ w _ from h) ?_
 rintro e w' ⟨rfl,k,rfl⟩
 refine ⟨by simp,k,#[],compactUpTo zs.toArray zs.length++List.replicate (zs.length - (compactUpTo zs.toArray zs.length).length) 0,by simp;omega,trivial,?_⟩
 simp [grow]
 rfl
open Go.Proofs Go.RowKit
theorem Zlu (xs:List PV):Zc Tryz.prog 55 [.list 1 xs] (.fn 129 [.ptr [.list 1 xs] 0]):=by
 refine Zb (clo:=λ _=>false) (rows:=false) Zg Tryz.func55 rfl (enters_of Tryz.func55 (by kernel_rfl) rfl) (λ A q P Y hr hA hq=>?_)
 conv=>cbv
 rw [<-hq]
theorem ZqN (l:List Int) {xs:List PV} (hx:xs=Zd l) (hlen:l.length<=1000000):Zde Tryz.prog 129 [.ptr [.list 1 xs] 0] (l.map λ x=>[.int .i64 x]):=by
 refine Zch (clo:=λ _=>false) (rows:=false) Zg Tryz.func129 rfl (enters_of Tryz.func129 (by kernel_rfl) rfl) rfl (λ A P Y Y' y R hr hys hy hA hR=>?_)
 have hR':=λ q (h:q=Y.ys.length\/q=Y.ys.length+1)=>hR q (by rw [hys] at h;exact h)
 have hll:xs.length=l.length:=by rw [hx];simp [Zd]
 have hyl:Y.ys.length=l.length:=by rw [hys];simp
 conv=>cbv
 refine Zi hA (λ (z:Int × Nat) s=>{ s.put (some 7) (.val (.int .i64 z.1)) with ax:=⟨s.ax.mp,z.2⟩ }) (λ z=>z.1=(z.2:Int)/\z.2<=l.length) (λ z=>(l.length - z.1).toNat) (0,0) ?_ ?_ ?_
 ·conv=>cbv
  exact Zk
 ·exact ⟨rfl,by omega⟩
 rintro R2 ⟨i,kk⟩ ⟨hi,hk⟩ hR2
 simp only at hi hk
 conv=>cbv
 split
 ·rename_i hc
  have hlt:i<l.length:=ZE hA rfl (Zl hA hll) hc
  have his:A.iAdd i 1=i+1:=Z5 hA _ _
  conv=>cbv
  refine Zw hA hx (by omega) hlt (λ x hx0=>?_)
  have hyk:Y.ys[kk]?=some [.int .i64 x]:=by
   rw [hys,Zyh,show kk=i.toNat by omega,hx0];rfl
  conv=>cbv
  refine QE hA rfl hy hyk ?_ (λ n' hn'=>?_)
  ·conv=>cbv
   split
   ·rename_i hc
    cases (nT hA hc)
   conv=>cbv
   refine ⟨Zy hA his (by unfold Zj;omega),hR2 (A.iAdd i 1,kk+1) _ ?_ ?_ ?_⟩
   ·conv=>cbv
    exact Zk
   ·exact ⟨by show A.iAdd i 1=_;rw [his];omega,by omega⟩
   ·show (l.length - A.iAdd i 1).toNat<(l.length - i).toNat
    rw [his];omega
  ·conv=>cbv
   split
   ·conv=>cbv
    exact hR' _ (.inr hn')
   ·rename_i hc
    have hf:False:=nF hA hc
    cases hf
 ·rename_i hc
  have hge:(l.length:Int)<=i:=ZK hA rfl (Zl hA hll) hc
  conv=>cbv
  exact hR' _ (.inl (by show kk=_;rw [hyl];omega))
def Zs8 (b:List Int) (rs:List (Option (List SV))) (j cap:Nat):Prop :=
 ∃cells,rs[j]?=some (some cells)/\cap<=cells.length/\b.length<=cap/\cap<=maxLen/\cells.take b.length=(Zd b).map SV.val
def Zs9 (k0:Nat) (b:List Int) (rs:List (Option (List SV))) (arg:SV):Prop :=
 (b=[]/\arg=.lit 0 [])\/∃j cap,arg=.row (k0+j) 0 1 b.length cap/\Zs8 b rs j cap
theorem Zuc {α:Type} (l:List α) (x:α) (r:List α) (n:Nat) (h:n=l.length+1):(l++x::r).take n=l++[x]:=by
 subst h;rw [List.append_cons];exact Zzx (by simp)
theorem ZxE {E:Env} (hE:E.T=tab) {A:Ops} (hA:A=Ze E) {b:List Int} {arg:SV} {rs:List (Option (List SV))} {bx0:List (Option (List SV))} {k0:Nat} (h0:bx0.length=k0) (harg:Zs9 k0 b rs arg) (hb:b.length<=1000000) (i:Int) (sl:List SV) (tk:List (Nat × TypeId)) (ax:Ax) (K:SV->St->Prop)
  (hK:∀(j cap:Nat) (rs':List (Option (List SV))),Zs8 (b++[i]) rs' j cap->K (.row (k0+j) 0 1 (b.length+1) cap) ⟨sl,bx0++rs',tk,ax⟩) :
  A.appR [29,29] [arg,.lit 1 [.int .i64 i]] ⟨sl,bx0++rs,tk,ax⟩ K:=by
 have hk:(E.T 29).k=.slice 3:=by rw [hE];rfl
 have hi:E.T 3=tab 3:=by rw [hE]
 refine Zer hA ?_
 unfold Zcq
 simp only [hk,SV.elems,hi]
 refine ⟨trivial,rfl,by simp,by decide,rfl,?_⟩
 have hfresh:∀(cap:Nat) (junk:List SV),b.length+1<=cap->cap<=maxLen->cap=b.length+1+junk.length->K (.row (bx0++rs).length 0 1 (b.length+1) cap) ⟨sl,bx0++(rs++[some ((Zd b).map SV.val++(.val (.int .i64 i)::junk))]),tk,ax⟩:=by
  intro cap junk hc1 hc2 hc3
  rw [Zyg,h0]
  refine hK _ cap _ ⟨(Zd b).map SV.val++(.val (.int .i64 i)::junk),by simp,by simp [Zd];omega,by simp;omega,hc2,?_⟩
  rw [Zuc _ _ _ _ (by simp [Zd])];simp [Zd,Z7]
 rcases harg with ⟨rfl,rfl⟩ | ⟨j,cap,rfl,cells,h3,h4,h5,h6,h7⟩
 ·refine ⟨.inr rfl,by show (0+1)*(8+1)<=140737488355328;omega,λ cap hc1 hc2=>?_⟩
  have:=hfresh cap (List.replicate (cap - 1) (.val .any)) (by simpa using hc1) hc2 (by simp at hc1 ⊢;omega)
  have e1:(tab 3).size=1:=rfl
  rw [e1]
  simp only [St.newBx,Zz3,Z03,ZyK,Zyt,Zz4,Zy9,ZyW,List.flatMap_nil,Zzp] at this ⊢
  exact this
 ·refine ⟨rfl,by simp only [Zyt];show (b.length+1)*(8+1)<=_;omega,cells,?_,by omega,λ hin=>?_,λ hout cap' hc1 hc2=>?_⟩
  ·show (bx0++rs).getD (k0+j) none=some cells
   rw [Zyj,Zyd (by omega)]
   simp [h0,h3]
  ·simp only [Zyt] at hin
   have e:(St.mk sl (bx0++rs) tk ax).setBx (k0+j) (some (cells.take (0+b.length*1)++(([PV.int IntKind.i64 i].flatMap PV.cells).map SV.val++cells.drop (0+b.length*1+[PV.int IntKind.i64 i].length*1))))=⟨sl,bx0++rs.set j (some (cells.take b.length++(.val (.int .i64 i)::cells.drop (b.length+1)))),tk,ax⟩:=by
    simp only [St.setBx,St.mk.injEq,true_and,and_true]
    rw [ZyT _ _ (by omega)]
    simp [h0,PV.cells]
   rw [e]
   have hjl:j<rs.length:=(ZxZ.1 h3).1
   refine hK j cap _ ⟨_,Zzc hjl,by simp;omega,by simpa using hin,h6,?_⟩
   rw [h7,Zuc _ _ _ _ (by simp [Zd])]
   simp [Zd,Z7]
  ·simp only [Zyt] at hout hc1 ⊢
   have:=hfresh cap' (List.replicate (cap' - (b.length+1)) (.val .any)) hc1 hc2 (by simp;omega)
   simp only [St.newBx,Zz4,List.drop_zero,Zy9,ZyW,List.flatMap_nil,Zzp] at this ⊢
   rw [h7]
   exact this
def Zno (n:Nat):Bool:=n == 5000000+54 || n == 5000000+127 || n == 5000000+189
theorem ZsA (c0 c1 c2 c3:Option (List SV)) (tk:List (Nat × TypeId)) (ax:Ax) (l:List Int) {xs:List PV} (hx:xs=Zd l) (hlen:l.length<=1000000) :
  ZV ⟨Tryz.prog,tab,Zno,true,.none⟩ 189 [.lit 0 [],.val (.fn 129 [.ptr [.list 1 xs] 0])] [c0,c1,c2,c3] tk ax
   (λ r bx' tk' ax'=>∃rs,bx'=[c0,c1,c2,c3]++rs/\tk'=tk/\ax'=ax/\Zs9 4 l rs r):=by
 refine YH (clo:=Zno) (rows:=true) Zg Tryz.func189 rfl (enters_of Tryz.func189 (by kernel_rfl) rfl) (by intro h;simp at h) (λ A P' Y' nb R hA hnb hR=>?_)
 conv=>cbv
 refine YU hA (ZqN l hx hlen) (λ x hx=>?_) (λ (y:SV × List (Option (List SV))) s=>{ s with bx:=[c0,c1,c2,c3,some [y.1]]++y.2 }) (λ k y=>Zs9 5 (l.take k) y.2 y.1) (.lit 0 [],[]) ?_ ?_ ?_ ?_ ?_
 ·obtain ⟨y,_,rfl⟩:=Zyz.1 hx;rfl
 ·exact λ y=>rfl
 ·exact Wk.refl _
 ·exact .inl ⟨rfl,rfl⟩
 ·rintro R2 k ⟨arg,rs⟩ x hk hinv hR2
  rw [Zyh,ZyG] at hk
  obtain ⟨z,hz,rfl⟩:=hk
  have htk:l.take (k+1)=l.take k++[z]:=by rw [ZyD,hz];rfl
  have hle:(l.take k).length<=1000000:=by simp;omega
  simp only at hinv
  have next:∀(j cap:Nat) (rs':List (Option (List SV))),Zs8 (l.take k++[z]) rs' j cap->Zs9 5 (l.take (k+1)) rs' (.row (5+j) 0 1 ((l.take k).length+1) cap):=λ j cap rs' h=>by
   rw [htk]
   exact .inr ⟨j,cap,by simp,h⟩
  have hap:=λ (bx0:List (Option (List SV))) (h0:bx0.length=5) sl K=>ZxE (E:=⟨Tryz.prog,tab,Zno,true,.none⟩) rfl hA h0 hinv hle z sl tk ax K
  have fin:∀(j cap id n:Nat) (rs':List (Option (List SV))),Zs8 (l.take k++[z]) rs' j cap->id=5+j->n=(l.take k).length+1->Zs9 5 (l.take (k+1)) rs' (.row id 0 1 n cap):=λ j cap id n rs' h h1 h2=>by
   rw [h1,h2];exact next j cap rs' h
  rcases id hinv with ⟨hb,rfl⟩ | ⟨j,cap,harg,hrow⟩
  ·conv=>cbv
   refine hap [c0,c1,c2,c3,some [.lit 0 []]] rfl _ _ (λ j' cap' rs' h'=>?_)
   have fin':=λ id n=>fin j' cap' id n rs' h'
   generalize 5+j'=id' at fin' ⊢
   generalize (l.take k).length+1=n' at fin' ⊢
   conv=>cbv
   exact hR2 (.row id' 0 1 n' cap',rs') _ (by (conv=>cbv);exact Zk) (fin' id' n' rfl rfl)
  ·obtain ⟨id,hid⟩:∃id,id=5+j:=⟨_,rfl⟩
   obtain ⟨n,hn⟩:∃n,n=(l.take k).length:=⟨_,rfl⟩
   rw [<-hid,<-hn] at harg
   subst harg
   conv=>cbv
   refine hap [c0,c1,c2,c3,some [.row id 0 1 n cap]] rfl _ _ (λ j' cap' rs' h'=>?_)
   have fin':=λ id n=>fin j' cap' id n rs' h'
   generalize 5+j'=id' at fin' ⊢
   generalize (l.take k).length+1=n' at fin' ⊢
   conv=>cbv
   exact hR2 (.row id' 0 1 n' cap',rs') _ (by (conv=>cbv);exact Zk) (fin' id' n' rfl rfl)
 ·rintro ⟨arg,rs⟩ hinv
  rw [Zyl (by simp)] at hinv
  simp only at hinv
  rcases hinv with ⟨hb,rfl⟩ | ⟨j,cap,harg,hrow⟩
  ·conv=>cbv
   exact hR _ ⟨_,.lit 0 [],Wk.refl _,.inr (.inl ⟨4,rfl,rfl⟩),_::rs,rfl,rfl,rfl,.inl ⟨hb,rfl⟩⟩
  ·obtain ⟨id,hid⟩:∃id,id=5+j:=⟨_,rfl⟩
   obtain ⟨n,hn⟩:∃n,n=l.length:=⟨_,rfl⟩
   rw [<-hid,<-hn] at harg
   subst harg
   conv=>cbv
   refine hR _ ⟨_,.row id 0 1 n cap,Wk.refl _,.inr (.inl ⟨4,rfl,rfl⟩),_::rs,rfl,rfl,rfl,.inr ⟨j+1,cap,?_,?_⟩⟩
   ·rw [hid,hn,show 5+j=4+(j+1) by omega]
   ·obtain ⟨cells,h1,h2⟩:=hrow
    exact ⟨cells,h1,h2⟩
theorem Zv5 (c0 c1 c2 c3:Option (List SV)) (tk:List (Nat × TypeId)) (ax:Ax) (l:List Int) {xs:List PV} (hx:xs=Zd l) (hlen:l.length<=1000000) :
  ZV ⟨Tryz.prog,tab,Zno,true,.none⟩ 127 [.val (.fn 129 [.ptr [.list 1 xs] 0])] [c0,c1,c2,c3] tk ax
   (λ r bx' tk' ax'=>∃rs,bx'=[c0,c1,c2,c3]++rs/\tk'=tk/\ax'=ax/\Zs9 4 l rs r):=by
 refine YH (clo:=Zno) (rows:=true) Zg Tryz.func127 rfl (enters_of Tryz.func127 (by kernel_rfl) rfl) (by intro h;simp at h) (λ A P' Y' nb R hA hnb hR=>?_)
 conv=>cbv
 refine Qg hA (ZsA c0 c1 c2 c3 tk ax l hx hlen) (λ r bx' tk' ax' h=>?_)
 obtain ⟨rs,rfl,rfl,rfl,harg⟩:=h
 rcases harg with ⟨hb,rfl⟩ | ⟨j,cap,harg,hrow⟩
 ·conv=>cbv
  exact hR _ ⟨_,.lit 0 [],Wk.refl _,.inr (.inl ⟨2,rfl,rfl⟩),rs,rfl,rfl,rfl,.inl ⟨hb,rfl⟩⟩
 ·obtain ⟨id,hid⟩:∃id,id=4+j:=⟨_,rfl⟩
  obtain ⟨n,hn⟩:∃n,n=l.length:=⟨_,rfl⟩
  rw [<-hid,<-hn] at harg
  subst harg
  conv=>cbv
  refine hR _ ⟨_,.row id 0 1 n cap,Wk.refl _,.inr (.inl ⟨2,rfl,rfl⟩),rs,rfl,rfl,rfl,.inr ⟨j,cap,?_,hrow⟩⟩
  rw [hid,hn]
theorem Zw8 (c0 c1 c2 c3:Option (List SV)) (tk:List (Nat × TypeId)) (ax:Ax) (l:List Int) {xs:List PV} (hx:xs=Zd l) (hlen:l.length<=1000000) (hl0:0<l.length) :
  ZV ⟨Tryz.prog,tab,Zno,true,.none⟩ 54 [.val (.fn 129 [.ptr [.list 1 xs] 0])] [c0,c1,c2,c3] tk ax
   (λ r bx' tk' ax'=>∃rs,bx'=[c0,c1,c2,c3]++rs/\tk'=tk/\ax'=ax/\∃j cap,r=.row (4+j) 0 1 l.length cap/\Zs8 (l.mergeSort λ x y=>decide (x<=y)) rs j cap):=by
 refine YH (clo:=Zno) (rows:=true) Zg Tryz.func54 rfl (enters_of Tryz.func54 (by kernel_rfl) rfl) (by intro h;simp at h) (λ A P' Y' nb R hA hnb hR=>?_)
 conv=>cbv
 refine Qg hA (Zv5 c0 c1 c2 c3 tk ax l hx hlen) (λ r bx' tk' ax' h=>?_)
 obtain ⟨rs,rfl,rfl,rfl,harg⟩:=h
 rcases harg with ⟨hb,rfl⟩ | ⟨j,cap,harg,hrow⟩
 ·rw [hb] at hl0;cases hl0
 ·obtain ⟨id,hid⟩:∃id,id=4+j:=⟨_,rfl⟩
  obtain ⟨n,hn⟩:∃n,n=l.length:=⟨_,rfl⟩
  rw [<-hid,<-hn] at harg
  subst harg
  obtain ⟨cells,h1,h2,h3,h4,h5⟩:=hrow
  have hcells:cells=(Zd l).map SV.val++cells.drop l.length:=by rw [<-h5,ZyI]
  have hc:([c0,c1,c2,c3]++rs)[id]?=some (some ((Zd l).map SV.val++cells.drop l.length)):=by
   rw [<-hcells,hid,Zyd (by simp)]
   simpa using h1
  have hs:=ZoR (rows:=true) (clo:=Zno) (Y:=.none) (tk:=tk') (ax:=ax') (cap:=cap) hc hn (by omega)
  conv=>cbv
  refine Qg hA hs (λ r bx' tk2 ax2 h=>?_)
  obtain ⟨rfl,⟨d,hd,hds,rfl⟩,rfl,rfl⟩:=h
  have hset:([c0,c1,c2,c3]++rs).set id (some ((Zd d).map SV.val++cells.drop l.length))=[c0,c1,c2,c3]++rs.set j (some ((Zd d).map SV.val++cells.drop l.length)):=by
   rw [hid,ZyT _ _ (by simp)]
   simp
  rw [hset]
  obtain ⟨rs2,hrs2⟩:∃rs2,rs2=rs.set j (some ((Zd d).map SV.val++cells.drop l.length)):=⟨_,rfl⟩
  rw [<-hrs2]
  conv=>cbv
  refine hR _ ⟨_,.row id 0 1 n cap,Wk.refl _,.inr (.inl ⟨2,rfl,rfl⟩),rs2,rfl,rfl,rfl,j,cap,by rw [hid,hn],?_⟩
  have hjl:j<rs.length:=(ZxZ.1 h1).1
  rw [<-hds,hrs2]
  refine ⟨_,Zzc hjl,?_,by rw [hd];exact h3,h4,?_⟩
  ·simp [Zd,hd];omega
  ·rw [Zzx (by simp [Zd])]
open Go.Lib Go.Proofs Go.RowKit
def QW (W:List Way) (w0:Way) (n:Int):Bool :=
 match W[n.toNat]? with
 | some w=>!decide (w.From=w0.From) || !decide (w.To=w0.To)
 | none=>true
theorem ZsB (W:List Way) (w0:Way) (n nv:Int) (ss cs ws ms ks lg:List PV) (hws:ws=Q3 W) (h0:0<=n) (h1:n<W.length) :
  Zc Tryz.prog 52 [.int .i64 n,.ptr [.int .i64 nv,.list 5 ss,.list 3 cs,.list 3 ws,.list 1 ms,.list 6 ks] 0,.ptr [.int .i64 w0.From,.int .i64 w0.To,.list 4 lg] 0] (.bool (QW W w0 n)):=by
 refine Zb (clo:=λ _=>false) (rows:=false) Zg Tryz.func52 rfl (enters_of Tryz.func52 (by kernel_rfl) rfl) (λ A q P Y hr hA hq=>?_)
 obtain ⟨w1,w2,w3⟩:=w0
 have hE:∀w,W[n.toNat]?=some w->QW W ⟨w1,w2,w3⟩ n=(!decide (w.From=w1) || !decide (w.To=w2)):=λ w h=>by simp only [QW,h]
 generalize QW W ⟨w1,w2,w3⟩ n=b at hq hE
 conv=>cbv
 refine ⟨Zm hA (by kernel_rfl),?_⟩
 refine Ym hA hws h0 h1 (λ w v hw hv=>?_)
 obtain ⟨x1,x2,x3⟩:=w
 have hb:=hE _ hw
 conv=>cbv
 split
 ·rename_i h
  have h':x1≠w1:=neT hA h
  conv=>cbv
  rw [<-hq,hb,Zyr h'];rfl
 ·rename_i h
  have h':x1=w1:=neF hA h
  conv=>cbv
  refine Ym hA hws h0 h1 (λ z v' hz hv'=>?_)
  obtain rfl:=Zyc ((hw).symm.trans hz)
  conv=>cbv
  rw [<-hq,hb,Zyq h']
  subst hA;rfl
def Zmb (l:List Int):Bool:=decide ((compactUpTo (l.mergeSort λ x y=>decide (x<=y)).toArray (l.mergeSort λ x y=>decide (x<=y)).length).length=l.length)
def Zfj (t:Zh) (f:Flight):Way:=(t.Ways[(f.Ways.headD 0).toNat]?).getD ⟨0,0,[]⟩
def YW (t:Zh) (f:Flight):Bool :=
 !Zcr 0 4095 f.ID&&!Zcr 0 7 f.Airline&&!Zcr 0 (t.Kinds.length - 1) f.Class&&ZcI f.Call&&!Zcr 1 4 f.Ways.length&&!f.Ways.any (Zcr 0 (t.Ways.length - 1)) &&
  !(decide (f.Window.From<0) || decide (f.Window.To<=f.Window.From) || decide (1440<f.Window.To) || decide (16<f.Window.To - f.Window.From)) &&
  !f.Ways.any (QW t.Ways (Zfj t f))&&Zmb f.Ways
def Z8 (t:Zh) (f:Flight):Int:=if Qe t then if YW t f then 0 else 150 else 140
theorem Zjq (lo hi n:Int):Zc Tryz.prog 50 [.int .i64 lo,.int .i64 hi,.list 1 [.int .i64 n]] (.bool (!Zcr lo hi n)):=by
 have h:=Zma lo hi [n] (xs:=[.int .i64 n]) rfl
 simpa using h
def Zv6 (n:Nat):Bool:=Zno n || n == 1000009
theorem ZsC {A:Ops} {E:Env} {id:Nat} {ops:Array Oper} {c:Code} {nb:Nat × Nat} {st:St} {Q Q2:AX->St->Prop} (st1:St) (hQ:∀s,Q .normal s=QD A E (.seq (.region id ops true) c) nb s Q2)
  (hm:Zbf E true id ops.size=.each) (h1:∀K:St->Prop,K st1->Za5 A E ops ops.size (Array.replicate ops.size false) st K) (h2:QD A E c nb st1 Q2):QD A E .skip nb st Q:=by
 unfold QD
 rw [hQ]
 unfold QD
 unfold QD
 rw [hm]
 exact h1 _ h2
set_option maxHeartbeats 4000000 in
theorem ZoS (t:Zh) (f:Flight):Zc Tryz.prog 14 [Zn t,Zx f] (.int .i64 (Z8 t f)):=by
 refine Zb (clo:=Zv6) (rows:=true) Zg Tryz.func14 rfl (enters_of Tryz.func14 (by kernel_rfl) rfl) (λ A q P Y hr hA hq=>?_)
 have hair:=Zid t
 obtain ⟨ck,hck⟩:∃ck,ck=Z8 t f:=⟨_,rfl⟩
 have hlW:t.Ways.length<=9223372036854775807:=by
  have h1:=Qz.cell (show Qz [.agg _] from hr.mem (p:=Zn t) (by simp)) (c:=.list 3 (Q3 t.Ways)) (by simp)
  have:=h1.len;simpa [Q3] using this
 have hlK:t.Kinds.length<=9223372036854775807:=by
  have h1:=Qz.cell (show Qz [.agg _] from hr.mem (p:=Zn t) (by simp)) (c:=.list 6 (ZY t.Kinds)) (by simp)
  have:=h1.len;simpa [ZY] using this
 rw [<-hck] at hq
 obtain ⟨ss,cs,ws,ms,ks,nv,hss,hcs,hws,hms,hks,hnv,htab⟩:=Qd t
 rw [htab] at hair ⊢
 have hkl:ks.length=t.Kinds.length:=by rw [hks];simp [ZY]
 have hwl:ws.length=t.Ways.length:=by rw [hws];simp [Q3]
 obtain ⟨f1,f2,f3,f4,f5,⟨f6,f7⟩,f8⟩:=f
 obtain ⟨fl,hfl⟩:∃fl,fl=Zd f5:=⟨_,rfl⟩
 have hfl':fl.length=f5.length:=by rw [hfl];simp [Zd]
 rw [Zs _ hfl]
 simp only
 cases hao:Qe t with
 | false =>
  rw [hao] at hair
  have hck':ck=140:=by rw [hck,Z8,hao];rfl
  conv=>cbv
  refine Za hA hair ?_
  conv=>cbv
  split
  ·conv=>cbv
   refine ⟨_,Frz.refl _ _,?_⟩
   conv=>cbv
   exact (by rw [<-hq,hck'])
  ·rename_i h
   have h':(140:Int)=0:=neF hA h
   cases h'
 | true =>
  rw [hao] at hair
  have hck':ck=if YW t ⟨f1,f2,f3,f4,f5,⟨f6,f7⟩,f8⟩ then 0 else 150:=by rw [hck,Z8,hao];rfl
  clear hck hao
  obtain ⟨fb,hfb⟩:∃fb,fb=YW t ⟨f1,f2,f3,f4,f5,⟨f6,f7⟩,f8⟩:=⟨_,rfl⟩
  rw [<-hfb] at hck'
  simp only [YW] at hfb
  have bad:fb=false->PV.int .i64 150=q:=λ h=>by rw [<-hq,hck',h];rfl
  have good:fb=true->PV.int .i64 0=q:=λ h=>by rw [<-hq,hck',h];rfl
  clear hck' hq
  have eK:A.iSub (A.lLen ks) 1=(t.Kinds.length:Int) - 1:=by rw [ZbJ hA,Zl hA hkl]
  have eW:A.iSub (A.lLen ws) 1=(t.Ways.length:Int) - 1:=by rw [ZbJ hA,Zl hA hwl]
  have wK:=Zjq 0 (t.Kinds.length - 1) f3
  have wW:=Zma 0 (t.Ways.length - 1) f5 hfl
  have wL:=Zjq 1 4 f5.length
  rw [<-eK] at wK
  rw [<-eW] at wW
  rw [<-Zl hA hfl'] at wL
  conv=>cbv
  refine Za hA hair ?_
  conv=>cbv
  split
  ·rename_i h
   cases (neT hA h rfl)
  conv=>cbv
  refine Qk hA (Zjq 0 4095 f1) rfl (λ r1 hr1=>?_)
  conv=>cbv
  split
  ·rename_i h
   have h':=Yy hA h
   conv=>cbv
   refine ⟨_,Frz.refl _ _,?_⟩
   conv=>cbv
   exact bad (by rw [hfb,<-hr1,h'];simp)
  rename_i h
  have hr1':=YP hA h
  rw [hr1'] at hr1
  rw [<-hr1] at hfb
  clear h
  conv=>cbv
  refine Qk hA (Zjq 0 7 f2) rfl (λ r2 hr2=>?_)
  conv=>cbv
  split
  ·rename_i h
   have h':=Yy hA h
   conv=>cbv
   refine ⟨_,Frz.refl _ _,?_⟩
   conv=>cbv
   exact bad (by rw [hfb,<-hr2,h'];simp)
  rename_i h
  have hr2':=YP hA h
  rw [hr2'] at hr2
  rw [<-hr2] at hfb
  clear h
  conv=>cbv
  refine ⟨Zy hA eK (by unfold Zj;omega),?_⟩
  refine Qk hA (wK) rfl (λ r3 hr3=>?_)
  conv=>cbv
  split
  ·rename_i h
   have h':=Yy hA h
   conv=>cbv
   refine ⟨_,Frz.refl _ _,?_⟩
   conv=>cbv
   exact bad (by rw [hfb,<-eK,<-hr3,h'];simp)
  rename_i h
  have hr3':=YP hA h
  rw [hr3'] at hr3
  rw [<-eK,<-hr3] at hfb
  clear h
  conv=>cbv
  refine Qk hA (Zub f4) rfl (λ r4 hr4=>?_)
  conv=>cbv
  split
  ·rename_i h
   have h':=Yy hA h
   conv=>cbv
   refine ⟨_,Frz.refl _ _,?_⟩
   conv=>cbv
   exact bad (by rw [hfb,<-hr4,h'];simp)
  rename_i h
  have hr4':=YP hA h
  rw [hr4'] at hr4
  rw [<-hr4] at hfb
  clear h
  conv=>cbv
  refine Qk hA wL rfl (λ r5 hr5=>?_)
  conv=>cbv
  split
  ·rename_i h
   have h':=Yy hA h
   conv=>cbv
   refine ⟨_,Frz.refl _ _,?_⟩
   conv=>cbv
   exact bad (by rw [hfb,<-Zl hA hfl',<-hr5,h'];simp)
  rename_i h
  have hr5':=YP hA h
  rw [hr5'] at hr5
  rw [<-Zl hA hfl',<-hr5] at hfb
  have hn5:1<=f5.length/\f5.length<=4:=by
   rw [Zl hA hfl'] at hr5
   have:=hr5.symm
   simp [Zcr] at this
   omega
  clear h
  conv=>cbv
  refine ⟨Zy hA eW (by unfold Zj;omega),?_⟩
  refine Qk hA wW rfl (λ r6 hr6=>?_)
  conv=>cbv
  split
  ·rename_i h
   have h':=Yy hA h
   conv=>cbv
   refine ⟨_,Frz.refl _ _,?_⟩
   conv=>cbv
   exact bad (by rw [hfb,<-eW,<-hr6,h'];simp)
  rename_i h
  have hr6':=YP hA h
  rw [hr6'] at hr6
  rw [<-eW,<-hr6] at hfb
  clear h
  conv=>cbv
  split
  ·rename_i h
   have h':=ltT hA h
   conv=>cbv
   refine ⟨_,Frz.refl _ _,?_⟩
   conv=>cbv
   exact bad (by rw [hfb,Zyq h'];simp)
  rename_i h
  have h0:=ltF hA h
  rw [Zyr (p:=f6<0) (by omega)] at hfb
  clear h
  conv=>cbv
  split
  ·rename_i h
   have h':=leT hA h
   conv=>cbv
   refine ⟨_,Frz.refl _ _,?_⟩
   conv=>cbv
   exact bad (by rw [hfb,Zyq h'];simp)
  rename_i h
  have h1:=leF hA h
  rw [Zyr (p:=f7<=f6) (by omega)] at hfb
  clear h
  conv=>cbv
  split
  ·rename_i h
   have h':=ltT hA h
   conv=>cbv
   refine ⟨_,Frz.refl _ _,?_⟩
   conv=>cbv
   exact bad (by rw [hfb,Zyq h'];simp)
  rename_i h
  have h2:=ltF hA h
  rw [Zyr (p:=1440<f7) (by omega)] at hfb
  clear h
  have e76:A.iSub f7 f6=f7 - f6:=ZbJ hA _ _
  conv=>cbv
  refine ⟨Zy hA e76 (by unfold Zj;omega),?_⟩
  conv=>cbv
  split
  ·rename_i h
   have h':=ZE hA rfl e76 h
   conv=>cbv
   refine ⟨_,Frz.refl _ _,?_⟩
   conv=>cbv
   exact bad (by rw [hfb,Zyq h'];simp)
  rename_i h
  have h3:=ZK hA rfl e76 h
  rw [Zyr (p:=16<f7 - f6) (by omega)] at hfb
  clear h
  have hin:∀n∈f5,0<=n/\n<t.Ways.length:=λ n hn=>by
   have h1:(f5.any (Zcr 0 (A.iSub (A.lLen ws) 1)))=false:=by simpa using hr6.symm
   rw [eW,Zz1] at h1
   have:=h1 n hn
   simp [Zcr] at this
   omega
  obtain ⟨x,hx0⟩:∃x,f5[0]?=some x:=⟨f5[0]'(by omega),Zya (by omega)⟩
  have hx1:=hin x (Zyb hx0)
  obtain ⟨w0,hw0⟩:∃w0,t.Ways[x.toNat]?=some w0:=⟨t.Ways[x.toNat]'(by omega),Zya (by omega)⟩
  have hhd:Zfj t ⟨f1,f2,f3,f4,f5,⟨f6,f7⟩,f8⟩=w0:=by
   have:f5.headD 0=x:=by
    cases f5 with
    | nil=>simp at hn5
    | cons a r=>simpa using hx0
   simp only [Zfj,this,hw0]
   rfl
  rw [hhd] at hfb
  obtain ⟨lg,hlg⟩:∃lg,lg=Qp w0.Legs:=⟨_,rfl⟩
  have hany:=ZbS (QW t.Ways w0) f5 hfl (λ n hn=>ZsB t.Ways w0 n nv ss cs ws ms ks lg hws (hin n hn).1 (hin n hn).2)
  obtain ⟨x1,x2,x3⟩:=w0
  simp only at hany hlg
  apply ZsC (hQ:=λ _=>rfl)
  case hm=>rfl
  case h1 =>
   intro K hK
   conv=>cbv
   repeat' first
    | exact hK
    | apply And.intro
    | (refine Zw hA hfl (Zyk 0) (by omega) (λ z hz=>?_);obtain rfl:=Zyc (hx0.symm.trans hz);clear hz;conv=>cbv)
    | (refine Ym hA hws hx1.1 hx1.2 (λ z v hz hv=>?_);obtain rfl:=Zyc (hw0.symm.trans hz);obtain rfl:=hlg.trans hv.symm;clear hz hv;conv=>cbv)
  have hstep:∀c0 c1 c2 c3,ZV ⟨Tryz.prog,tab,Zv6,true,.none⟩ 54 [.val (.fn 129 [.ptr [.list 1 fl] 0])] [c0,c1,c2,c3] [] ⟨[],0⟩
    (λ r bx' tk' ax'=>∃rs,bx'=[c0,c1,c2,c3]++rs/\tk'=[]/\ax'=⟨[],0⟩/\∃j cap,r=.row (4+j) 0 1 f5.length cap/\Zs8 (f5.mergeSort λ x y=>decide (x<=y)) rs j cap):=λ c0 c1 c2 c3=>ZV.flags (Zw8 c0 c1 c2 c3 [] ⟨[],0⟩ f5 hfl (by omega) (by omega))
  conv=>cbv
  refine Za hA (Zlu fl) ?_
  conv=>cbv
  refine Qg hA (hstep _ _ _ _) (λ r bx' tk' ax' h=>?_)
  obtain ⟨rs,rfl,rfl,rfl,j,cap,rfl,cells,g1,g2,g3,g4,g5⟩:=h
  obtain ⟨id,hid⟩:∃id,id=4+j:=⟨_,rfl⟩
  obtain ⟨n,hn⟩:∃n,n=f5.length:=⟨_,rfl⟩
  obtain ⟨zs,hzs⟩:∃zs,zs=f5.mergeSort λ x y=>decide (x<=y):=⟨_,rfl⟩
  rw [<-hid,<-hn]
  rw [<-hzs] at g3 g5
  have hzl:zs.length=f5.length:=by rw [hzs,List.length_mergeSort]
  obtain ⟨k,hk⟩:∃k,k=(compactUpTo zs.toArray zs.length).length:=⟨_,rfl⟩
  have honce:Zmb f5=decide (k=n):=by rw [Zmb,<-hzs,<-hk,hn]
  have hcells:cells=(Zd zs).map SV.val++cells.drop zs.length:=by rw [<-g5,ZyI]
  have hcc:∀c0 c1 c2 c3,([c0,c1,c2,c3]++rs)[id]?=some (some ((Zd zs).map SV.val++cells.drop zs.length)):=λ c0 c1 c2 c3=>by
   rw [<-hcells,hid,Zyd (by simp)]
   simpa using g1
  have hset:∀c0 c1 c2 c3 y,([c0,c1,c2,c3]++rs).set id y=[c0,c1,c2,c3]++rs.set j y:=λ c0 c1 c2 c3 y=>by
   rw [hid,ZyT _ _ (by simp)]
   simp
  have hcomp:∀c0 c1 c2 c3,ZV ⟨Tryz.prog,tab,Zv6,true,.none⟩ 53 [.row id 0 1 n cap] ([c0,c1,c2,c3]++rs) [] ⟨[],0⟩
    (λ r bx' tk' ax'=>r=.row id 0 1 k cap/\(∃rs',bx'=[c0,c1,c2,c3]++rs')/\tk'=[]/\ax'=⟨[],0⟩):=λ c0 c1 c2 c3=>by
   have h:=Zkj (clo:=Zv6) (rows:=true) (Y:=.none) (tk:=[]) (ax:=⟨[],0⟩) (n:=n) (cap:=cap) (hcc c0 c1 c2 c3) (by omega) (by omega) (by omega) g4
   rw [<-hk] at h
   refine ⟨h.1,λ B S0 w0 G S w vs a b c d=>(h.2 B S0 w0 G S w vs a b c d).mono ?_⟩
   rintro e w' ⟨v,r,bx',tk',ax',G',S',⟨q1,⟨dd,_,_,q2⟩,q3,q4⟩,h2⟩
   exact ⟨v,r,bx',tk',ax',G',S',⟨q1,⟨_,q2.trans (hset _ _ _ _ _)⟩,q3,q4⟩,h2⟩
  clear hcc hset hcells
  conv=>cbv
  refine Qg hA (hcomp _ _ _ _) (λ r bx' tk' ax' h=>?_)
  obtain ⟨rfl,⟨rs',rfl⟩,rfl,rfl⟩:=h
  conv=>cbv
  refine Qk hA hany rfl (λ r7 hr7=>?_)
  conv=>cbv
  split
  ·conv=>cbv
   refine ⟨_,Frz.refl _ _,?_⟩
   conv=>cbv
   exact bad (by rw [hfb,<-hr7];simp)
  rw [<-hr7,honce] at hfb
  conv=>cbv
  split
  ·rename_i h
   have h':=Zew hA (Zhq hA k) (Zl hA hfl') h
   conv=>cbv
   refine ⟨_,Frz.refl _ _,?_⟩
   conv=>cbv
   exact bad (by rw [hfb,Zyr (by omega)];simp)
  ·rename_i h
   have h':=Zka hA (Zhq hA k) (Zl hA hfl') h
   conv=>cbv
   refine ⟨_,Frz.refl _ _,?_⟩
   conv=>cbv
   exact good (by rw [hfb,Zyq (by omega)];rfl)
end Go.Abs
