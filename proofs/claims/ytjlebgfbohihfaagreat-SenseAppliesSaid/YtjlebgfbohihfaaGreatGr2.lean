/-
  The code of functions, 2.
-/
import Derived.Test.YtjlebgfbohihfaaGreatAmW
namespace Go.Proofs.YtjlebgfbohihfaaGreat.Am

def F170 : AFun := ⟨2,
 (.seq (.ops [o 2 (.box (.t 0)),o 3 (.box (.t 1)),o 4 (.mv (.k (.c (.bool false))))])
 (.seq (.ops [o 5 (.fa 5 (.t 2)),o 6 (.ld (.t 5)),o 7 (.fa 5 (.t 3)),o 8 (.ld (.t 7)),o 9 (.bin 0 .eql (.t 6) (.t 8)),o 4 (.mv (.t 9))])
 .ret)),
 [.tmp 4]⟩
def F171 : AFun := ⟨2,
 (.seq (.ops [o 2 (.box (.t 0)),o 3 (.box (.t 1)),o 4 (.mv (.k (.c (.bool false))))])
 (.seq (.ops [o 5 (.fa 0 (.t 2)),o 6 (.ld (.t 5)),o 7 (.fa 0 (.t 3)),o 8 (.ld (.t 7)),o 9 (.call 172 [(.t 6),(.t 8),(.f 214)]),o 4 (.mv (.t 9))])
 .ret)),
 [.tmp 4]⟩
def F172 : AFun := ⟨3,
 (.seq (.ops [o 6 (.mv (.k (.c (.bool false))))])
 (.seq (.seq (.ops [o 10 (.mv (.t 0)),o 11 (.len 1 (.t 10)),o 12 (.mv (.t 1)),o 13 (.len 1 (.t 12)),o 14 (.bin 0 .neq (.t 11) (.t 13))])
 (.cond (.t 14) (.seq (.ops [o 6 (.mv (.k (.c (.bool false))))])
 .ret)
 .skip))
 (.seq (.seq (.ops [o 15 (.mv (.t 0)),o 16 (.len 1 (.t 15)),o 17 (.mv (ki 0))])
 (.block 0 (.loop [1,2,15,16,17] (.seq (.ops [o 18 (.bin 0 .lss (.t 17) (.t 16))])
 (.seq (.cond (.t 18) .skip
 (.exit 0))
 (.seq (.block 1 (.seq (.ops [o 19 (.mv (.t 17)),o 20 (.ixa 6 (.t 15) (.t 17)),o 21 (.ldn 6 (.t 20)),o 8 (.alloc [(.int .i64 0),(.str (bs [])),(.str (bs [])),(.int .i32 0),.nilslice,(.int .i64 0)]),o 7 (.mv (.t 19)),e (.st 6 (.t 8) (.t 21))])
 (.seq (.ops [o 22 (.mv (.t 1)),o 23 (.mv (.t 7)),o 24 (.ixa 6 (.t 22) (.t 23)),o 25 (.ldn 6 (.t 24)),o 9 (.alloc [(.int .i64 0),(.str (bs [])),(.str (bs [])),(.int .i32 0),.nilslice,(.int .i64 0)]),e (.st 6 (.t 9) (.t 25))])
 (.keep [1,2,8,9,15,16,17] (.seq (.ops [o 26 (.mv (.t 2)),o 27 (.ldn 6 (.t 8)),o 28 (.ldn 6 (.t 9)),o 29 (.callv (.t 26) [(.t 27),(.t 28)]),o 30 (.un .not (.t 29))])
 (.cond (.t 30) (.seq (.ops [o 6 (.mv (.k (.c (.bool false))))])
 .ret)
 .skip))))))
 (.ops [o 31 (.bin 0 .add (.t 17) (ki 1)),o 17 (.mv (.t 31))])))))))
 (.keep [] (.seq (.ops [o 6 (.mv (.k (.c (.bool true))))])
 .ret))))),
 [.tmp 6]⟩
def F173 : AFun := ⟨2,
 (.seq (.ops [o 4 (.mv (.k (.c (.bool false))))])
 (.seq (.seq (.ops [o 6 (.mv (.t 0)),o 7 (.len 1 (.t 6)),o 8 (.mv (.t 1)),o 9 (.len 1 (.t 8)),o 10 (.bin 0 .neq (.t 7) (.t 9))])
 (.cond (.t 10) (.seq (.ops [o 4 (.mv (.k (.c (.bool false))))])
 .ret)
 .skip))
 (.seq (.seq (.ops [o 11 (.mv (.t 0)),o 12 (.len 1 (.t 11)),o 13 (.mv (ki 0))])
 (.block 0 (.loop [0,1,12,13] (.seq (.ops [o 14 (.bin 0 .lss (.t 13) (.t 12))])
 (.seq (.cond (.t 14) .skip
 (.exit 0))
 (.seq (.block 1 (.seq (.ops [o 15 (.mv (.t 13)),o 5 (.mv (.t 15))])
 (.seq (.dops [.op 0 (o 16 (.mv (.t 0))),.op 1 (o 17 (.mv (.t 5))),.op 4 (o 20 (.mv (.t 1))),.op 5 (o 21 (.mv (.t 5))),.op 2 (o 18 (.ixa 2 (.t 16) (.t 17))),.op 6 (o 22 (.ixa 2 (.t 20) (.t 21))),.op 3 (o 19 (.ldn 2 (.t 18))),.op 7 (o 23 (.ldn 2 (.t 22))),.op 8 (o 24 (.eqa true [(.int .i64),(.int .i64)] (.t 19) (.t 23)))])
 (.keep [0,1,12,13,24] (.cond (.t 24) (.seq (.ops [o 4 (.mv (.k (.c (.bool false))))])
 .ret)
 .skip)))))
 (.ops [o 25 (.bin 0 .add (.t 13) (ki 1)),o 13 (.mv (.t 25))])))))))
 (.seq (.ops [o 4 (.mv (.k (.c (.bool true))))])
 .ret)))),
 [.tmp 4]⟩
def F174 : AFun := ⟨2,
 (.seq (.ops [o 4 (.mv (.k (.c (.bool false))))])
 (.seq (.seq (.ops [o 6 (.mv (.t 0)),o 7 (.len 1 (.t 6)),o 8 (.mv (.t 1)),o 9 (.len 1 (.t 8)),o 10 (.bin 0 .neq (.t 7) (.t 9))])
 (.cond (.t 10) (.seq (.ops [o 4 (.mv (.k (.c (.bool false))))])
 .ret)
 .skip))
 (.seq (.seq (.ops [o 11 (.mv (.t 0)),o 12 (.len 1 (.t 11)),o 13 (.mv (ki 0))])
 (.block 0 (.loop [0,1,12,13] (.seq (.ops [o 14 (.bin 0 .lss (.t 13) (.t 12))])
 (.seq (.cond (.t 14) .skip
 (.exit 0))
 (.seq (.block 1 (.seq (.ops [o 15 (.mv (.t 13)),o 5 (.mv (.t 15))])
 (.seq (.dops [.op 0 (o 16 (.mv (.t 0))),.op 1 (o 17 (.mv (.t 5))),.op 4 (o 20 (.mv (.t 1))),.op 5 (o 21 (.mv (.t 5))),.op 2 (o 18 (.ixa 1 (.t 16) (.t 17))),.op 6 (o 22 (.ixa 1 (.t 20) (.t 21))),.op 3 (o 19 (.ld (.t 18))),.op 7 (o 23 (.ld (.t 22))),.op 8 (o 24 (.bin 0 .neq (.t 19) (.t 23)))])
 (.keep [0,1,12,13,24] (.cond (.t 24) (.seq (.ops [o 4 (.mv (.k (.c (.bool false))))])
 .ret)
 .skip)))))
 (.ops [o 25 (.bin 0 .add (.t 13) (ki 1)),o 13 (.mv (.t 25))])))))))
 (.seq (.ops [o 4 (.mv (.k (.c (.bool true))))])
 .ret)))),
 [.tmp 4]⟩
def F175 : AFun := ⟨2,
 (.ops [o 3 (.ld (.t 1)),o 4 (.mv (.t 0)),o 5 (.bin 0 .add (.t 3) (.t 4)),o 6 (.mn [(.t 5),(ki 65537)]),e (.st 1 (.t 1) (.t 6))]),
 []⟩
def F176 : AFun := ⟨1,
 (.seq (.ops [o 2 (.mv (ki 0))])
 (.seq (.ops [o 3 (.mv (.t 0)),o 4 (.bin 0 .shr (.t 3) (.k (.c (.int .u64 16)))),o 5 (.convi .i64 (.t 4)),o 2 (.mv (.t 5))])
 .ret)),
 [.tmp 2]⟩
def F177 : AFun := ⟨2,
 (.seq (.ops [o 4 (.alloc [(.int .i32 0),(.int .i32 0),(.int .i32 0),(.int .i32 0)]),o 5 (.mv (.k (.c (.bool false))))])
 (.seq (.ops [o 23 (.mv (.t 0)),o 24 (.mv (.t 1)),o 25 (.call 122 [(.t 23),(.t 24)]),o 6 (.alloc [(.int .i64 0),(.str (bs [])),(.str (bs [])),(.int .i32 0),.nilslice,(.int .i64 0)]),e (.st 6 (.t 6) (.t 25))])
 (.seq (.ops [o 7 (.mv (.k (.c .nilslice)))])
 (.seq (.ops [o 8 (.mv (ki 1))])
 (.seq (.seq (.ops [o 26 (.fa 4 (.t 6)),o 27 (.ld (.t 26)),o 28 (.len 1 (.t 27)),o 29 (.mv (ki 0))])
 (.block 0 (.loop [0,1,4,6,7,8,27,28,29] (.seq (.ops [o 30 (.bin 0 .lss (.t 29) (.t 28))])
 (.seq (.cond (.t 30) .skip
 (.exit 0))
 (.seq (.block 1 (.seq (.ops [o 31 (.ixa 1 (.t 27) (.t 29)),o 32 (.ld (.t 31)),o 10 (.mv (.t 32))])
 (.seq (.ops [o 34 (.mv (.t 0)),o 35 (.mv (.t 10)),o 36 (.call 123 [(.t 34),(.t 35)]),o 33 (.mv (.t 36)),o 37 (.ext 0 (.t 33)),o 38 (.ext 1 (.t 33)),o 11 (.alloc [(.int .i32 0),(.int .i32 0),(.int .i32 0),(.int .i32 0)]),e (.st 4 (.t 11) (.t 37)),o 12 (.mv (.t 38))])
 (.keep [0,1,4,6,7,8,10,11,12,27,28,29] (.seq (.seq (.ops [o 39 (.mv (.t 12)),o 40 (.un .not (.t 39))])
 (.cond (.t 40) (.seq (.ops [o 41 (.ldn 4 (.t 11)),e (.st 4 (.t 4) (.t 41)),o 5 (.mv (.k (.c (.bool false))))])
 .ret)
 .skip))
 (.keep [0,1,4,6,7,8,10,11,27,28,29] (.dops [.op 0 (o 42 (.mv (.t 7))),.op 1 (o 43 (.ldn 4 (.t 11))),.op 4 (o 46 (.mv (.t 8))),.op 5 (o 47 (.mv (.t 0))),.op 10 (o 52 (.mv (.t 10))),.op 6 (o 48 (.nilck (.t 47))),.op 7 (o 49 (.fa 0 (.t 48))),.op 8 (o 50 (.fa 2 (.t 49))),.op 9 (o 51 (.ld (.t 50))),.op 11 (o 53 (.ixa 2 (.t 51) (.t 52))),.op 12 (o 54 (.fa 1 (.t 53))),.op 13 (o 55 (.ld (.t 54))),.op 14 (o 56 (.mx [(.t 46),(.t 55)])),.eff 2 (o 44 (.mks [(.int .i32 0),(.int .i32 0),(.int .i32 0),(.int .i32 0)] 1 [(0,4,(.t 43))])) [o 51 (.ld (.t 50)),o 55 (.ld (.t 54))],.eff 3 (o 45 (.app 4 16 (.t 42) (.t 44))) [o 51 (.ld (.t 50)),o 55 (.ld (.t 54))],.eff 15 (o 7 (.mv (.t 45))) [o 51 (.ld (.t 50)),o 55 (.ld (.t 54))],.eff 16 (o 8 (.mv (.t 56))) []])))))))
 (.keep [0,1,4,6,7,8,27,28,29] (.ops [o 57 (.bin 0 .add (.t 29) (ki 1)),o 29 (.mv (.t 57))]))))))))
 (.seq (.seq (.ops [o 58 (.mv (.t 0)),o 59 (.nilck (.t 58)),o 60 (.fa 0 (.t 59)),o 61 (.fa 3 (.t 60)),o 62 (.ld (.t 61)),o 63 (.mv (.t 1)),o 64 (.ixa 1 (.t 62) (.t 63)),o 65 (.ld (.t 64)),o 13 (.mv (.t 65))])
 (.keep [0,1,4,6,7,8,13] (.seq (.ops [o 66 (.mv (.t 13)),o 67 (.bin 0 .geq (.t 66) (ki 0))])
 (.cond (.t 67) (.seq (.ops [o 68 (.mv (.t 0)),o 69 (.mv (.t 13)),o 70 (.call 122 [(.t 68),(.t 69)]),o 71 (.fv 4 none (.t 70)),o 14 (.mv (.t 71))])
 (.seq (.seq (.ops [o 72 (.mv (.t 7)),o 73 (.len 1 (.t 72)),o 74 (.mv (ki 0))])
 (.block 2 (.loop [0,4,14,72,73,74] (.seq (.ops [o 75 (.bin 0 .lss (.t 74) (.t 73))])
 (.seq (.cond (.t 75) .skip
 (.exit 2))
 (.seq (.block 3 (.seq (.ops [o 76 (.mv (.t 74)),o 77 (.ixa 4 (.t 72) (.t 74)),o 78 (.ldn 4 (.t 77)),o 16 (.alloc [(.int .i32 0),(.int .i32 0),(.int .i32 0),(.int .i32 0)]),o 15 (.mv (.t 76)),e (.st 4 (.t 16) (.t 78))])
 (.dops [.op 0 (o 79 (.mv (.t 0))),.op 4 (o 83 (.mv (.t 14))),.op 5 (o 84 (.mv (.t 15))),.op 8 (o 87 (.ldn 4 (.t 16))),.op 1 (o 80 (.nilck (.t 79))),.op 2 (o 81 (.fa 22 (.t 80))),.op 6 (o 85 (.ixa 1 (.t 83) (.t 84))),.op 3 (o 82 (.ld (.t 81))),.op 7 (o 86 (.ld (.t 85))),.eff 9 (e (.mup false (.t 82) (.t 86) (.t 87))) []])))
 (.keep [0,4,14,72,73,74] (.ops [o 88 (.bin 0 .add (.t 74) (ki 1)),o 74 (.mv (.t 88))]))))))))
 (.seq (.ops [o 89 (.mv (.t 0)),o 90 (.agg [(.int .i32 0),(.int .i32 0),(.int .i32 0),(.int .i32 0)] []),o 91 (.nilck (.t 89)),o 92 (.fa 23 (.t 91)),e (.st 4 (.t 92) (.t 90))])
 (.seq (.ops [o 93 (.mv (.t 0)),o 94 (.mv (.t 14)),o 95 (.mv (.t 14)),o 96 (.len 1 (.t 95)),o 97 (.bin 0 .sub (.t 96) (ki 1)),o 98 (.ixa 1 (.t 94) (.t 97)),o 99 (.ld (.t 98)),o 100 (.call 63 [(.t 93),(.t 99)]),o 17 (.mv (.t 100))])
 (.keep [0,4,17] (.seq (.ops [o 101 (.mv (.t 0)),o 102 (.nilck (.t 101)),o 103 (.fa 23 (.t 102)),o 104 (.ldn 4 (.t 103)),o 18 (.alloc [(.int .i32 0),(.int .i32 0),(.int .i32 0),(.int .i32 0)]),e (.st 4 (.t 18) (.t 104))])
 (.seq (.ops [o 105 (.mv (.t 0)),o 106 (.agg [(.int .i32 0),(.int .i32 0),(.int .i32 0),(.int .i32 0)] []),o 107 (.nilck (.t 105)),o 108 (.fa 23 (.t 107)),e (.st 4 (.t 108) (.t 106))])
 (.seq (.seq (.ops [o 109 (.mv (.t 17)),o 110 (.bin 0 .eql (.t 109) (ki 0))])
 (.keep [4,17,18,110] (.cond (.t 110) (.ops [o 111 (.agg [(.int .i32 0),(.int .i32 0),(.int .i32 0),(.int .i32 0)] []),e (.st 4 (.t 18) (.t 111))])
 .skip)))
 (.seq (.ops [o 112 (.ldn 4 (.t 18)),o 113 (.mv (.t 17)),o 114 (.bin 0 .neq (.t 113) (ki 2)),e (.st 4 (.t 4) (.t 112)),o 5 (.mv (.t 114))])
 .ret)))))))))
 .skip))))
 (.seq (.seq (.ops [o 115 (.mv (.t 0)),o 116 (.nilck (.t 115)),o 117 (.fa 0 (.t 116)),o 118 (.fa 4 (.t 117)),o 119 (.ld (.t 118)),o 120 (.mv (.t 1)),o 121 (.ixa 1 (.t 119) (.t 120)),o 122 (.ld (.t 121))])
 (.keep [0,1,4,6,7,8,122] (.block 4 (.seq (.ops [o 124 (.bin 0 .eql (.t 122) (ki 23)),o 123 (.mv (.t 124))])
 (.cond (.t 123) (.seq (.ops [o 125 (.mv (.t 0)),o 126 (.mv (.t 1)),o 127 (.mv (.t 7)),o 128 (.call 215 [(.t 125),(.t 126),(.t 127)]),e (.st 4 (.t 4) (.t 128)),o 5 (.mv (.k (.c (.bool true))))])
 .ret)
 (.seq (.ops [o 130 (.bin 0 .eql (.t 122) (ki 22)),o 129 (.mv (.t 130))])
 (.cond (.t 129) (.seq (.dops [.op 0 (o 131 (.mv (.t 0))),.op 1 (o 132 (.mv (.t 7))),.op 5 (o 136 (.mv (.t 7))),.op 2 (o 133 (.ixa 4 (.t 132) (ki 0))),.op 6 (o 137 (.ixa 4 (.t 136) (ki 1))),.op 3 (o 134 (.ixp 4 1 (.t 133) (ki 0))),.op 7 (o 138 (.ldn 4 (.t 137))),.op 4 (o 135 (.ld (.t 134))),.eff 8 (o 139 (.call 216 [(.t 131),(.t 135),(.t 138)])) [],.eff 9 (e (.st 4 (.t 4) (.t 139))) [],.op 10 (o 5 (.mv (.k (.c (.bool true)))))])
 .ret)
 .skip)))))))
 (.keep [0,1,4,6,7,8] (.seq (.seq (.ops [o 140 (.fa 4 (.t 6)),o 141 (.ld (.t 140)),o 142 (.len 1 (.t 141)),o 143 (.mv (ki 0))])
 (.block 5 (.loop [0,1,4,7,8,141,142,143] (.seq (.ops [o 144 (.bin 0 .lss (.t 143) (.t 142))])
 (.seq (.cond (.t 144) .skip
 (.exit 5))
 (.seq (.block 6 (.seq (.ops [o 145 (.mv (.t 143)),o 146 (.ixa 1 (.t 141) (.t 143)),o 147 (.ld (.t 146)),o 19 (.mv (.t 145)),o 20 (.mv (.t 147))])
 (.seq (.ops [o 148 (.mv (.t 0)),o 149 (.nilck (.t 148)),o 150 (.fa 0 (.t 149)),o 151 (.fa 2 (.t 150)),o 152 (.ld (.t 151)),o 153 (.mv (.t 20)),o 154 (.ixa 2 (.t 152) (.t 153)),o 155 (.fa 1 (.t 154)),o 156 (.ld (.t 155)),o 157 (.mv (.t 8)),o 158 (.bin 0 .lss (.t 156) (.t 157))])
 (.keep [0,1,4,7,8,19,141,142,143,158] (.cond (.t 158) (.ops [o 159 (.mv (.t 7)),o 160 (.mv (.t 19)),o 161 (.mv (.t 7)),o 162 (.mv (.t 19)),o 163 (.ixa 4 (.t 161) (.t 162)),o 164 (.ixp 4 1 (.t 163) (ki 0)),o 165 (.ld (.t 164)),o 166 (.mv (.t 8)),o 167 (.call 217 [(.t 165),(.t 166)]),o 168 (.ixa 4 (.t 159) (.t 160)),e (.st 4 (.t 168) (.t 167))])
 .skip)))))
 (.keep [0,1,4,7,8,141,142,143] (.ops [o 169 (.bin 0 .add (.t 143) (ki 1)),o 143 (.mv (.t 169))]))))))))
 (.seq (.ops [o 171 (.mv (.t 0)),o 172 (.nilck (.t 171)),o 173 (.fa 0 (.t 172)),o 174 (.fa 4 (.t 173)),o 175 (.ld (.t 174)),o 176 (.mv (.t 1)),o 177 (.ixa 1 (.t 175) (.t 176)),o 178 (.ld (.t 177)),o 179 (.mv (.t 8)),o 180 (.mv (.t 7)),o 181 (.call 11 [(.t 178),(ki 1),(.t 179),(.t 180)]),o 170 (.mv (.t 181)),o 182 (.ext 0 (.t 170)),o 183 (.ext 1 (.t 170)),o 21 (.alloc [(.int .i32 0),(.int .i32 0),(.int .i32 0),(.int .i32 0)]),e (.st 4 (.t 21) (.t 182)),o 22 (.mv (.t 183))])
 (.keep [4,21] (.seq (.ops [o 184 (.ldn 4 (.t 21)),e (.st 4 (.t 4) (.t 184)),o 5 (.mv (.k (.c (.bool true))))])
 .ret)))))))))))),
 [.celln 4 4,.tmp 5]⟩
def F178 : AFun := ⟨2,
 (.seq (.ops [o 4 (.mv (ki 0)),o 5 (.mv (.k (.c .nilslice)))])
 (.seq (.seq (.ops [o 15 (.mv (.t 0)),o 16 (.mv (.t 1)),o 17 (.call 122 [(.t 15),(.t 16)]),o 18 (.fv 0 none (.t 17)),o 19 (.bin 0 .eql (.t 18) (ki 19))])
 (.cond (.t 19) (.seq (.dops [.op 0 (o 20 (.mv (.t 0))),.op 5 (o 25 (.mv (.t 1))),.op 9 (o 29 (.mv (.t 0))),.op 14 (o 34 (.mv (.t 1))),.op 1 (o 21 (.nilck (.t 20))),.op 10 (o 30 (.nilck (.t 29))),.op 2 (o 22 (.fa 0 (.t 21))),.op 11 (o 31 (.fa 0 (.t 30))),.op 3 (o 23 (.fa 3 (.t 22))),.op 12 (o 32 (.fa 2 (.t 31))),.op 4 (o 24 (.ld (.t 23))),.op 13 (o 33 (.ld (.t 32))),.op 6 (o 26 (.ixa 1 (.t 24) (.t 25))),.op 15 (o 35 (.ixa 2 (.t 33) (.t 34))),.op 7 (o 27 (.ld (.t 26))),.op 16 (o 36 (.fa 1 (.t 35))),.op 17 (o 37 (.ld (.t 36))),.op 19 (o 4 (.mv (.t 27))),.eff 8 (o 28 (.mks [(.int .i64 0)] 4 [(0,1,(ki 0)),(1,1,(ki 1)),(2,1,(ki 2)),(3,1,(ki 3))])) [o 24 (.ld (.t 23)),o 33 (.ld (.t 32)),o 27 (.ld (.t 26)),o 37 (.ld (.t 36))],.op 18 (o 38 (.slc 1 (.t 28) none (some (.t 37)) none)),.op 20 (o 5 (.mv (.t 38)))])
 .ret)
 .skip))
 (.keep [0,1] (.seq (.ops [o 39 (.mv (.t 0)),o 40 (.mv (.t 1)),o 41 (.call 122 [(.t 39),(.t 40)]),o 42 (.fv 4 none (.t 41)),o 43 (.ixa 1 (.t 42) (ki 0)),o 44 (.ld (.t 43)),o 6 (.mv (.t 44))])
 (.seq (.ops [o 46 (.mv (.t 0)),o 47 (.mv (.t 6)),o 48 (.call 178 [(.t 46),(.t 47)]),o 45 (.mv (.t 48)),o 49 (.ext 0 (.t 45)),o 50 (.ext 1 (.t 45)),o 7 (.mv (.t 49)),o 8 (.mv (.t 50))])
 (.keep [0,1,6,7,8] (.seq (.dops [.op 0 (o 52 (.mv (.t 0))),.op 5 (o 57 (.mv (.t 6))),.op 8 (o 60 (.mv (.t 0))),.op 9 (o 61 (.mv (.t 1))),.flt 17 (o 9 (.alloc [(.int .i64 0),(.int .i64 0)])) [],.op 1 (o 53 (.nilck (.t 52))),.op 2 (o 54 (.fa 0 (.t 53))),.op 3 (o 55 (.fa 2 (.t 54))),.op 4 (o 56 (.ld (.t 55))),.op 6 (o 58 (.ixa 2 (.t 56) (.t 57))),.op 7 (o 59 (.ldn 2 (.t 58))),.eff 10 (o 62 (.call 122 [(.t 60),(.t 61)])) [o 9 (.alloc [(.int .i64 0),(.int .i64 0)]),o 56 (.ld (.t 55)),o 59 (.ldn 2 (.t 58))],.op 11 (o 63 (.fv 2 none (.t 62))),.eff 12 (o 64 (.call 181 [(.t 59),(.t 63)])) [o 9 (.alloc [(.int .i64 0),(.int .i64 0)])],.op 13 (o 51 (.mv (.t 64))),.op 14 (o 65 (.ext 0 (.t 51))),.op 15 (o 66 (.ext 1 (.t 51))),.op 16 (o 67 (.ext 2 (.t 51))),.eff 18 (e (.st 2 (.t 9) (.t 65))) [],.op 19 (o 10 (.mv (.t 66))),.op 20 (o 11 (.mv (.t 67)))])
 (.keep [7,8,10] (.seq (.ops [o 68 (.mv (.t 10)),o 69 (.len 1 (.t 68)),o 70 (.mksd [(.int .i64 0)] 8 (.t 69) (.t 69)),o 12 (.mv (.t 70))])
 (.seq (.seq (.ops [o 71 (.mv (.t 10)),o 72 (.len 1 (.t 71)),o 73 (.mv (ki 0))])
 (.block 0 (.loop [7,8,12,71,72,73] (.seq (.ops [o 74 (.bin 0 .lss (.t 73) (.t 72))])
 (.seq (.cond (.t 74) .skip
 (.exit 0))
 (.seq (.block 1 (.seq (.ops [o 75 (.mv (.t 73)),o 76 (.ixa 1 (.t 71) (.t 73)),o 77 (.ld (.t 76)),o 13 (.mv (.t 75)),o 14 (.mv (.t 77))])
 (.ops [o 78 (.mv (.t 12)),o 79 (.mv (.t 13)),o 80 (.mv (.t 8)),o 81 (.mv (.t 14)),o 82 (.ixa 1 (.t 80) (.t 81)),o 83 (.ld (.t 82)),o 84 (.ixa 1 (.t 78) (.t 79)),e (.st 1 (.t 84) (.t 83))])))
 (.keep [7,8,12,71,72,73] (.ops [o 85 (.bin 0 .add (.t 73) (ki 1)),o 73 (.mv (.t 85))]))))))))
 (.seq (.ops [o 86 (.mv (.t 7)),o 87 (.mv (.t 12)),o 4 (.mv (.t 86)),o 5 (.mv (.t 87))])
 .ret))))))))))),
 [.tmp 4,.tmp 5]⟩
def F179 : AFun := ⟨5,
 (.seq (.ops [o 6 (.box (.t 1)),o 7 (.box (.t 2)),o 8 (.box (.t 3)),o 9 (.box (.t 4)),o 10 (.alloc [(.int .i32 0),(.int .i32 0),(.int .i32 0),(.int .i32 0)])])
 (.seq (.ops [o 14 (.fa 1 (.t 8)),o 15 (.ld (.t 14)),o 16 (.fa 1 (.t 9)),o 17 (.ld (.t 16)),o 18 (.mx [(.t 15),(.t 17)]),o 11 (.mv (.t 18))])
 (.keep [0,6,7,8,9,10,11] (.seq (.seq (.ops [o 19 (.fa 1 (.t 8)),o 20 (.ld (.t 19)),o 21 (.mv (.t 11)),o 22 (.bin 0 .lss (.t 20) (.t 21))])
 (.cond (.t 22) (.ops [o 23 (.ixp 4 1 (.t 6) (ki 0)),o 24 (.ld (.t 23)),o 25 (.mv (.t 11)),o 26 (.call 217 [(.t 24),(.t 25)]),e (.st 4 (.t 6) (.t 26))])
 .skip))
 (.keep [0,6,7,8,9,10,11] (.seq (.seq (.ops [o 27 (.fa 1 (.t 9)),o 28 (.ld (.t 27)),o 29 (.mv (.t 11)),o 30 (.bin 0 .lss (.t 28) (.t 29))])
 (.cond (.t 30) (.ops [o 31 (.ixp 4 1 (.t 7) (ki 0)),o 32 (.ld (.t 31)),o 33 (.mv (.t 11)),o 34 (.call 217 [(.t 32),(.t 33)]),e (.st 4 (.t 7) (.t 34))])
 .skip))
 (.keep [0,6,7,8,10,11] (.seq (.dops [.op 0 (o 36 (.mv (.t 0))),.op 2 (o 38 (.fa 0 (.t 8))),.op 4 (o 40 (.mv (.t 11))),.op 5 (o 41 (.ldn 4 (.t 6))),.op 6 (o 42 (.ldn 4 (.t 7))),.flt 12 (o 12 (.alloc [(.int .i32 0),(.int .i32 0),(.int .i32 0),(.int .i32 0)])) [o 41 (.ldn 4 (.t 6)),o 42 (.ldn 4 (.t 7))],.op 3 (o 39 (.ld (.t 38))),.flt 7 (o 43 (.mks [(.int .i32 0),(.int .i32 0),(.int .i32 0),(.int .i32 0)] 2 [(0,4,(.t 41)),(4,4,(.t 42))])) [o 41 (.ldn 4 (.t 6)),o 42 (.ldn 4 (.t 7)),o 39 (.ld (.t 38))],.eff 1 (o 37 (.call 218 [(.t 36)])) [o 41 (.ldn 4 (.t 6)),o 42 (.ldn 4 (.t 7)),o 12 (.alloc [(.int .i32 0),(.int .i32 0),(.int .i32 0),(.int .i32 0)]),o 39 (.ld (.t 38)),o 43 (.mks [(.int .i32 0),(.int .i32 0),(.int .i32 0),(.int .i32 0)] 2 [(0,4,(.t 41)),(4,4,(.t 42))])],.eff 8 (o 44 (.call 11 [(.t 37),(.t 39),(.t 40),(.t 43)])) [o 12 (.alloc [(.int .i32 0),(.int .i32 0),(.int .i32 0),(.int .i32 0)])],.op 9 (o 35 (.mv (.t 44))),.op 10 (o 45 (.ext 0 (.t 35))),.op 11 (o 46 (.ext 1 (.t 35))),.eff 13 (e (.st 4 (.t 12) (.t 45))) [],.op 14 (o 13 (.mv (.t 46)))])
 (.keep [10,12] (.seq (.ops [o 47 (.ldn 4 (.t 12)),e (.st 4 (.t 10) (.t 47))])
 .ret)))))))))),
 [.celln 10 4]⟩
def F180 : AFun := ⟨2,
 (.seq (.ops [o 2 (.box (.t 0)),o 3 (.box (.t 1)),o 4 (.alloc [(.int .i32 0),(.int .i32 0),(.int .i32 0),(.int .i32 0)])])
 (.seq (.ops [o 5 (.ld (.t 3)),o 6 (.len 1 (.t 5)),o 7 (.mkf 219 [] [(.t 2),(.t 3)]),o 8 (.call 25 [(.t 6),(.t 7)]),e (.st 4 (.t 4) (.t 8))])
 .ret)),
 [.celln 4 4]⟩
def F181 : AFun := ⟨2,
 (.seq (.ops [o 2 (.box (.t 0)),o 4 (.alloc [(.int .i64 0),(.int .i64 0)]),o 5 (.mv (.k (.c .nilslice))),o 6 (.mv (ki 0))])
 (.scope (.seq (.seq (.ops [o 13 (.ldn 2 (.t 2)),o 14 (.mks [(.int .i64 0),(.int .i64 0)] 1 [(0,2,(.t 13))]),o 15 (.call 220 [(.t 14)]),o 16 (.un .not (.t 15))])
 (.cond (.t 16) (.seq (.ops [o 17 (.agg [(.int .i64 0),(.int .i64 0)] []),e (.st 2 (.t 4) (.t 17)),o 5 (.mv (.k (.c .nilslice))),o 6 (.mv (ki 2))])
 .ret)
 .skip))
 (.seq (.seq (.ops [o 18 (.ldn 2 (.t 2)),o 19 (.call 221 [(.t 18)]),o 20 (.un .not (.t 19)),o 21 (.mv (.t 20)),⟨(some 22),(.fa 1 (.t 2)),some (21,false)⟩,⟨(some 23),(.ld (.t 22)),some (21,false)⟩,⟨(some 24),(.bin 0 .eql (.t 23) (ki 1)),some (21,false)⟩,o 25 (.pick (.t 21) (.k (.c (.bool true))) (.t 24)),o 26 (.mv (.t 25)),⟨(some 27),(.mv (.t 1)),some (26,false)⟩,⟨(some 28),(.bin 0 .eql (.t 27) (.k (.c (.str (bs []))))),some (26,false)⟩,o 29 (.pick (.t 26) (.k (.c (.bool true))) (.t 28)),o 30 (.mv (.t 29)),⟨(some 31),(.mv (.t 1)),some (30,false)⟩,⟨(some 32),(.len 0 (.t 31)),some (30,false)⟩,⟨(some 33),(.bin 0 .gtr (.t 32) (ki 4)),some (30,false)⟩,o 34 (.pick (.t 30) (.k (.c (.bool true))) (.t 33))])
 (.keep [1,2,4,34] (.cond (.t 34) (.seq (.ops [o 35 (.agg [(.int .i64 0),(.int .i64 0)] []),e (.st 2 (.t 4) (.t 35)),o 5 (.mv (.k (.c .nilslice))),o 6 (.mv (ki 231))])
 .ret)
 .skip)))
 (.seq (.label 0)
 (.seq (.seq (.ops [o 36 (.agg [(.str (bs [])),(.str (bs [])),(.str (bs []))] [(0,1,(.k (.c (.str (bs [120,121,122,119]))))),(1,1,(.k (.c (.str (bs [114,103,98,97]))))),(2,1,(.k (.c (.str (bs [115,116,112,113])))))]),o 37 (.mv (ki 0))])
 (.block 0 (.loop [1,2,4,36,37] (.seq (.ops [o 38 (.bin 0 .lss (.t 37) (ki 3))])
 (.seq (.cond (.t 38) .skip
 (.exit 0))
 (.seq (.block 1 (.seq (.ops [o 39 (.ixv 3 none (.t 36) (.t 37)),o 8 (.mv (.t 39))])
 (.seq (.ops [o 9 (.mv (.k (.c .nilslice)))])
 (.seq (.seq (.ops [o 40 (.mv (.t 1)),o 41 (.rng (.t 40))])
 (.block 2 (.loop [1,2,4,8,9,36,37,41] (.seq (.ops [o 42 (.nxt (.t 41)),o 43 (.ext 0 (.t 42))])
 (.seq (.cond (.t 43) .skip
 (.exit 2))
 (.block 3 (.seq (.ops [o 44 (.ext 2 (.t 42)),o 11 (.mv (.t 44))])
 (.seq (.ops [o 45 (.mv (.t 8)),o 46 (.mv (.t 11)),o 47 (.call 222 [(.t 45),(.t 46)]),o 12 (.mv (.t 47))])
 (.keep [1,2,4,8,9,12,36,37,41] (.seq (.seq (.ops [o 48 (.mv (.t 12)),o 49 (.bin 0 .lss (.t 48) (ki 0)),o 50 (.mv (.t 49)),⟨(some 51),(.mv (.t 12)),some (50,false)⟩,⟨(some 52),(.fa 1 (.t 2)),some (50,false)⟩,⟨(some 53),(.ld (.t 52)),some (50,false)⟩,⟨(some 54),(.bin 0 .geq (.t 51) (.t 53)),some (50,false)⟩,o 55 (.pick (.t 50) (.k (.c (.bool true))) (.t 54))])
 (.keep [1,2,4,8,9,12,36,37,41,55] (.cond (.t 55) (.exit 1)
 .skip)))
 (.ops [o 56 (.mv (.t 9)),o 57 (.mv (.t 12)),o 58 (.mks [(.int .i64 0)] 1 [(0,1,(.t 57))]),o 59 (.app 1 8 (.t 56) (.t 58)),o 9 (.mv (.t 59))])))))))))))
 (.keep [2,4,9] (.seq (.ops [o 60 (.fa 0 (.t 2)),o 61 (.ld (.t 60)),o 62 (.mv (.t 9)),o 63 (.len 1 (.t 62)),o 64 (.agg [(.int .i64 0),(.int .i64 0)] [(0,1,(.t 61)),(1,1,(.t 63))]),o 65 (.mv (.t 9)),e (.st 2 (.t 4) (.t 64)),o 5 (.mv (.t 65)),o 6 (.mv (ki 0))])
 .ret))))))
 (.ops [o 66 (.bin 0 .add (.t 37) (ki 1)),o 37 (.mv (.t 66))])))))))
 (.seq (.ops [o 67 (.agg [(.int .i64 0),(.int .i64 0)] []),e (.st 2 (.t 4) (.t 67)),o 5 (.mv (.k (.c .nilslice))),o 6 (.mv (ki 231))])
 .ret))))))),
 [.celln 4 2,.tmp 5,.tmp 6]⟩
def F182 : AFun := ⟨2,
 (.seq (.ops [o 4 (.mv (.k (.c (.int .i32 0))))])
 (.seq (.ops [o 5 (.mv (.t 0)),o 6 (.mv (.t 1)),o 7 (.mx [(.t 5),(.t 6)]),o 4 (.mv (.t 7))])
 .ret)),
 [.tmp 4]⟩
def F183 : AFun := ⟨2,
 (.seq (.ops [o 4 (.mv (ki 0))])
 (.seq (.ops [o 5 (.mv (.t 0)),o 6 (.mv (.t 1)),o 7 (.call 223 [(.t 5),(.t 6)]),o 4 (.mv (.t 7))])
 .ret)),
 [.tmp 4]⟩
def F184 : AFun := ⟨2,
 (.seq (.ops [o 4 (.mv (ki 0))])
 (.seq (.ops [o 14 (.mv (.t 1)),o 15 (.len 0 (.t 14)),o 5 (.mv (.t 15))])
 (.seq (.block 0 (.seq (.ops [o 17 (.mv (.t 5)),o 18 (.bin 0 .eql (.t 17) (ki 0)),o 19 (.mv (.t 18)),⟨(some 20),(.mv (.t 1)),some (19,false)⟩,⟨(some 21),(.mv (.t 0)),some (19,false)⟩,⟨(some 22),(.bin 0 .eql (.t 20) (.t 21)),some (19,false)⟩,o 23 (.pick (.t 19) (.k (.c (.bool true))) (.t 22)),o 16 (.mv (.t 23))])
 (.cond (.t 16) (.seq (.ops [o 4 (.mv (ki 0))])
 .ret)
 (.seq (.ops [o 25 (.mv (.t 5)),o 26 (.bin 0 .eql (.t 25) (ki 1)),o 24 (.mv (.t 26))])
 (.keep [0,1,5,24] (.cond (.t 24) (.seq (.ops [o 27 (.mv (.t 0)),o 28 (.mv (.t 1)),o 29 (.ixs (.t 28) (ki 0)),o 30 (.call 183 [(.t 27),(.t 29)]),o 4 (.mv (.t 30))])
 .ret)
 (.seq (.ops [o 32 (.mv (.t 5)),o 33 (.mv (.t 0)),o 34 (.len 0 (.t 33)),o 35 (.bin 0 .geq (.t 32) (.t 34)),o 31 (.mv (.t 35))])
 (.cond (.t 31) (.seq (.ops [o 4 (.mv (ki (-1)))])
 .ret)
 (.seq (.ops [o 37 (.mv (.t 5)),o 38 .bad,o 39 (.bin 0 .leq (.t 37) (.t 38)),o 40 (.mv (.t 39)),⟨(some 41),(.mv (.t 0)),some (40,true)⟩,⟨(some 42),(.len 0 (.t 41)),some (40,true)⟩,⟨(some 43),(.bin 0 .leq (.t 42) (ki 64)),some (40,true)⟩,o 44 (.pick (.t 40) (.t 43) (.k (.c (.bool false)))),o 36 (.mv (.t 44))])
 (.keep [0,1,5,36] (.cond (.t 36) (.seq (.ops [o 45 (.mv (.t 0)),o 46 (.mv (.t 1)),o 47 (.call 224 [(.t 45),(.t 46)]),o 4 (.mv (.t 47))])
 .ret)
 .skip)))))))))))
 (.keep [0,1,5] (.seq (.ops [o 48 (.mv (.t 1)),o 49 (.ixs (.t 48) (ki 0)),o 6 (.mv (.t 49))])
 (.seq (.ops [o 50 (.mv (.t 1)),o 51 (.ixs (.t 50) (ki 1)),o 7 (.mv (.t 51))])
 (.seq (.ops [o 8 (.mv (ki 0))])
 (.seq (.ops [o 52 (.mv (.t 0)),o 53 (.len 0 (.t 52)),o 54 (.mv (.t 5)),o 55 (.bin 0 .sub (.t 53) (.t 54)),o 56 (.bin 0 .add (.t 55) (ki 1)),o 9 (.mv (.t 56))])
 (.keep [0,1,5,6,7,8,9] (.seq (.ops [o 10 (.mv (ki 0))])
 (.seq (.block 1 (.loop [0,1,5,6,7,8,9,10] (.seq (.seq (.ops [o 57 (.mv (.t 8)),o 58 (.mv (.t 9)),o 59 (.bin 0 .lss (.t 57) (.t 58))])
 (.cond (.t 59) .skip
 (.exit 1)))
 (.block 2 (.seq (.seq (.ops [o 60 (.mv (.t 0)),o 61 (.mv (.t 8)),o 62 (.ixs (.t 60) (.t 61)),o 63 (.mv (.t 6)),o 64 (.bin 0 .neq (.t 62) (.t 63))])
 (.keep [0,1,5,6,7,8,9,10,64] (.cond (.t 64) (.seq (.ops [o 65 (.mv (.t 0)),o 66 (.mv (.t 8)),o 67 (.bin 0 .add (.t 66) (ki 1)),o 68 (.mv (.t 9)),o 69 (.slcs (.t 65) (some (.t 67)) (some (.t 68))),o 70 (.mv (.t 6)),o 71 (.call 183 [(.t 69),(.t 70)]),o 11 (.mv (.t 71))])
 (.keep [0,1,5,6,7,8,9,10,11] (.seq (.seq (.ops [o 72 (.mv (.t 11)),o 73 (.bin 0 .lss (.t 72) (ki 0))])
 (.cond (.t 73) (.seq (.ops [o 4 (.mv (ki (-1)))])
 .ret)
 .skip))
 (.ops [o 74 (.mv (.t 8)),o 75 (.mv (.t 11)),o 76 (.bin 0 .add (.t 75) (ki 1)),o 77 (.bin 0 .add (.t 74) (.t 76)),o 8 (.mv (.t 77))]))))
 .skip)))
 (.keep [0,1,5,6,7,8,9,10] (.seq (.seq (.ops [o 78 (.mv (.t 0)),o 79 (.mv (.t 8)),o 80 (.bin 0 .add (.t 79) (ki 1)),o 81 (.ixs (.t 78) (.t 80)),o 82 (.mv (.t 7)),o 83 (.bin 0 .eql (.t 81) (.t 82)),o 84 (.mv (.t 83)),⟨(some 85),(.mv (.t 0)),some (84,true)⟩,⟨(some 86),(.mv (.t 8)),some (84,true)⟩,⟨(some 87),(.mv (.t 8)),some (84,true)⟩,⟨(some 88),(.mv (.t 5)),some (84,true)⟩,⟨(some 89),(.bin 0 .add (.t 87) (.t 88)),some (84,true)⟩,⟨(some 90),(.slcs (.t 85) (some (.t 86)) (some (.t 89))),some (84,true)⟩,⟨(some 91),(.mv (.t 1)),some (84,true)⟩,⟨(some 92),(.bin 0 .eql (.t 90) (.t 91)),some (84,true)⟩,o 93 (.pick (.t 84) (.t 92) (.k (.c (.bool false))))])
 (.keep [0,1,5,6,7,8,9,10,93] (.cond (.t 93) (.seq (.ops [o 94 (.mv (.t 8)),o 4 (.mv (.t 94))])
 .ret)
 .skip)))
 (.seq (.ops [o 95 (.mv (.t 8)),o 96 (.bin 0 .add (.t 95) (ki 1)),o 8 (.mv (.t 96))])
 (.seq (.ops [o 97 (.mv (.t 10)),o 98 (.bin 0 .add (.t 97) (ki 1)),o 10 (.mv (.t 98))])
 (.keep [0,1,5,6,7,8,9,10] (.seq (.ops [o 99 (.mv (.t 5)),o 100 .bad,o 101 (.bin 0 .leq (.t 99) (.t 100)),o 102 (.mv (.t 101)),⟨(some 103),(.mv (.t 10)),some (102,true)⟩,⟨(some 104),(.mv (.t 8)),some (102,true)⟩,⟨(some 105),(.call 225 [(.t 104)]),some (102,true)⟩,⟨(some 106),(.bin 0 .gtr (.t 103) (.t 105)),some (102,true)⟩,o 107 (.pick (.t 102) (.t 106) (.k (.c (.bool false))))])
 (.keep [0,1,5,6,7,8,9,10,107] (.cond (.t 107) (.seq (.ops [o 108 (.mv (.t 0)),o 109 (.mv (.t 8)),o 110 (.slcs (.t 108) (some (.t 109)) none),o 111 (.mv (.t 1)),o 112 (.call 224 [(.t 110),(.t 111)]),o 12 (.mv (.t 112))])
 (.keep [8,12] (.seq (.seq (.ops [o 113 (.mv (.t 12)),o 114 (.bin 0 .geq (.t 113) (ki 0))])
 (.cond (.t 114) (.seq (.ops [o 115 (.mv (.t 12)),o 116 (.mv (.t 8)),o 117 (.bin 0 .add (.t 115) (.t 116)),o 4 (.mv (.t 117))])
 .ret)
 .skip))
 (.seq (.ops [o 4 (.mv (ki (-1)))])
 .ret))))
 (.seq (.ops [o 118 (.mv (.t 5)),o 119 .bad,o 120 (.bin 0 .gtr (.t 118) (.t 119)),o 121 (.mv (.t 120)),⟨(some 122),(.mv (.t 10)),some (121,true)⟩,⟨(some 123),(.mv (.t 8)),some (121,true)⟩,⟨(some 124),(.bin 0 .shr (.t 123) (.k (.c (.int .u64 4)))),some (121,true)⟩,⟨(some 125),(.bin 0 .add (ki 4) (.t 124)),some (121,true)⟩,⟨(some 126),(.bin 0 .geq (.t 122) (.t 125)),some (121,true)⟩,o 127 (.pick (.t 121) (.t 126) (.k (.c (.bool false)))),o 128 (.mv (.t 127)),⟨(some 129),(.mv (.t 8)),some (128,true)⟩,⟨(some 130),(.mv (.t 9)),some (128,true)⟩,⟨(some 131),(.bin 0 .lss (.t 129) (.t 130)),some (128,true)⟩,o 132 (.pick (.t 128) (.t 131) (.k (.c (.bool false))))])
 (.keep [0,1,5,6,7,8,9,10,132] (.cond (.t 132) (.seq (.ops [o 133 (.mv (.t 0)),o 134 (.mv (.t 8)),o 135 (.slcs (.t 133) (some (.t 134)) none),o 136 (.mv (.t 1)),o 137 (.call 226 [(.t 135),(.t 136)]),o 13 (.mv (.t 137))])
 (.keep [8,13] (.seq (.seq (.ops [o 138 (.mv (.t 13)),o 139 (.bin 0 .lss (.t 138) (ki 0))])
 (.cond (.t 139) (.seq (.ops [o 4 (.mv (ki (-1)))])
 .ret)
 .skip))
 (.seq (.ops [o 140 (.mv (.t 8)),o 141 (.mv (.t 13)),o 142 (.bin 0 .add (.t 140) (.t 141)),o 4 (.mv (.t 142))])
 .ret))))
 .skip))))))))))))))))
 (.seq (.ops [o 4 (.mv (ki (-1)))])
 .ret)))))))))))),
 [.tmp 4]⟩
def F185 : AFun := ⟨1,
 (.seq (.ops [o 2 (.mv (.k (.c (.int .i32 0)))),o 3 (.mv (ki 0))])
 (.scope (.seq (.seq (.ops [o 15 (.mv (.t 0)),o 16 (.len 0 (.t 15)),o 17 (.bin 0 .gtr (.t 16) (ki 40))])
 (.cond (.t 17) (.seq (.ops [o 2 (.mv (.k (.c (.int .i32 0)))),o 3 (.mv (ki 3))])
 .ret)
 .skip))
 (.seq (.ops [o 19 (.mv (.t 0)),o 20 (.call 227 [(.t 19),(.k (.c (.str (bs [45]))))]),o 18 (.mv (.t 20)),o 21 (.ext 0 (.t 18)),o 22 (.ext 1 (.t 18)),o 4 (.mv (.t 21)),o 5 (.mv (.t 22))])
 (.keep [4,5] (.seq (.ops [o 24 (.mv (.t 4)),o 25 (.call 228 [(.t 24),(.k (.c (.str (bs [46]))))]),o 23 (.mv (.t 25)),o 26 (.ext 0 (.t 23)),o 27 (.ext 1 (.t 23)),o 28 (.ext 2 (.t 23)),o 6 (.mv (.t 26)),o 7 (.mv (.t 27)),o 8 (.mv (.t 28))])
 (.seq (.seq (.ops [o 29 (.mv (.t 6)),o 30 (.mv (.t 7)),o 31 (.bin 0 .add (.t 29) (.t 30)),o 32 (.bin 0 .eql (.t 31) (.k (.c (.str (bs [])))))])
 (.keep [5,6,7,32] (.cond (.t 32) (.seq (.ops [o 2 (.mv (.k (.c (.int .i32 0)))),o 3 (.mv (ki 120))])
 .ret)
 .skip)))
 (.seq (.ops [o 9 (.mv (.k (.c (.bool false))))])
 (.seq (.label 0)
 (.seq (.seq (.ops [o 33 (.mv (.t 6)),o 34 (.mv (.t 7)),o 35 (.bin 0 .add (.t 33) (.t 34)),o 36 (.rng (.t 35))])
 (.block 0 (.loop [5,6,7,9,36] (.seq (.ops [o 37 (.nxt (.t 36)),o 38 (.ext 0 (.t 37))])
 (.seq (.cond (.t 38) .skip
 (.exit 0))
 (.block 1 (.seq (.ops [o 39 (.ext 2 (.t 37)),o 11 (.mv (.t 39))])
 (.seq (.ops [o 40 (.mv (.t 11)),o 41 (.bin 0 .lss (.t 40) (.k (.c (.int .i32 48)))),o 42 (.mv (.t 41)),⟨(some 43),(.mv (.t 11)),some (42,false)⟩,⟨(some 44),(.bin 0 .gtr (.t 43) (.k (.c (.int .i32 57)))),some (42,false)⟩,o 45 (.pick (.t 42) (.k (.c (.bool true))) (.t 44))])
 (.keep [5,6,7,9,36,45] (.cond (.t 45) (.seq (.ops [o 9 (.mv (.k (.c (.bool true))))])
 (.exit 0))
 .skip))))))))))
 (.seq (.seq (.ops [o 46 (.mv (.t 9))])
 (.cond (.t 46) (.seq (.ops [o 2 (.mv (.k (.c (.int .i32 0)))),o 3 (.mv (ki 120))])
 .ret)
 .skip))
 (.seq (.ops [o 12 (.mv (ki 0))])
 (.seq (.seq (.ops [o 47 (.mv (.t 6)),o 48 (.rng (.t 47))])
 (.block 2 (.loop [5,7,12,48] (.seq (.ops [o 49 (.nxt (.t 48)),o 50 (.ext 0 (.t 49))])
 (.seq (.cond (.t 50) .skip
 (.exit 2))
 (.block 3 (.seq (.ops [o 51 (.ext 2 (.t 49)),o 14 (.mv (.t 51))])
 (.ops [o 52 (.mv (.t 12)),o 53 (.bin 0 .mul (.t 52) (ki 10)),o 54 (.mv (.t 14)),o 55 (.bin 0 .sub (.t 54) (.k (.c (.int .i32 48)))),o 56 (.convi .i64 (.t 55)),o 57 (.bin 0 .add (.t 53) (.t 56)),o 58 (.mn [(.t 57),(ki 65536)]),o 12 (.mv (.t 58))]))))))))
 (.keep [5,7,12] (.seq (.ops [o 59 (.mv (.t 12)),o 60 (.bin 0 .shl (.t 59) (.k (.c (.int .u64 17)))),o 61 (.mv (.t 7)),o 62 (.call 229 [(.t 61)]),o 63 (.bin 0 .add (.t 60) (.t 62)),o 12 (.mv (.t 63))])
 (.seq (.ops [o 64 (.mv (.t 12)),o 65 (.bin 0 .add (.t 64) (ki 1)),o 66 (.bin 0 .shr (.t 65) (.k (.c (.int .u64 1)))),o 12 (.mv (.t 66))])
 (.seq (.seq (.ops [o 67 (.mv (.t 5))])
 (.cond (.t 67) (.ops [o 68 (.mv (.t 12)),o 69 (.un .neg (.t 68)),o 12 (.mv (.t 69))])
 .skip))
 (.keep [12] (.seq (.ops [o 70 (.mv (.t 12)),o 71 (.call 82 [(.t 70)]),o 2 (.mv (.t 71)),o 3 (.mv (ki 0))])
 .ret))))))))))))))))))),
 [.tmp 2,.tmp 3]⟩
def F186 : AFun := ⟨1,
 (.seq (.ops [o 2 (.mv (ki 0))])
 (.seq (.seq (.ops [o 3 (.mv (.t 0)),o 4 (.rng (.t 3))])
 (.block 0 (.loop [2,4] (.seq (.ops [o 5 (.nxt (.t 4)),o 6 (.ext 0 (.t 5))])
 (.seq (.cond (.t 6) .skip
 (.exit 0))
 (.block 1 (.ops [o 7 (.mv (.t 2)),o 8 (.bin 0 .add (.t 7) (ki 1)),o 2 (.mv (.t 8))])))))))
 (.seq (.ops [o 9 (.mv (.t 2)),o 2 (.mv (.t 9))])
 .ret))),
 [.tmp 2]⟩
def F188 : AFun := ⟨1,
 (.seq (.ops [o 2 (.mv (.k (.c (.bool false))))])
 (.seq (.seq (.ops [o 3 (.mv (.t 0))])
 (.block 0 (.seq (.seq (.ops [o 5 (.bin 0 .eql (.t 3) (.k (.c (.str (bs [118,111,105,100]))))),o 4 (.mv (.t 5))])
 (.cond (.t 4) .skip
 (.seq (.ops [o 6 (.bin 0 .eql (.t 3) (.k (.c (.str (bs [102,108,111,97,116]))))),o 4 (.mv (.t 6))])
 (.cond (.t 4) .skip
 (.seq (.ops [o 7 (.bin 0 .eql (.t 3) (.k (.c (.str (bs [118,101,99,50]))))),o 4 (.mv (.t 7))])
 (.cond (.t 4) .skip
 (.seq (.ops [o 8 (.bin 0 .eql (.t 3) (.k (.c (.str (bs [118,101,99,51]))))),o 4 (.mv (.t 8))])
 (.cond (.t 4) .skip
 (.seq (.ops [o 9 (.bin 0 .eql (.t 3) (.k (.c (.str (bs [118,101,99,52]))))),o 4 (.mv (.t 9))])
 (.cond (.t 4) .skip
 (.seq (.ops [o 10 (.bin 0 .eql (.t 3) (.k (.c (.str (bs [105,110,116]))))),o 4 (.mv (.t 10))])
 (.keep [3,4] (.cond (.t 4) .skip
 (.seq (.ops [o 11 (.bin 0 .eql (.t 3) (.k (.c (.str (bs [105,118,101,99,50]))))),o 4 (.mv (.t 11))])
 (.cond (.t 4) .skip
 (.seq (.ops [o 12 (.bin 0 .eql (.t 3) (.k (.c (.str (bs [105,118,101,99,51]))))),o 4 (.mv (.t 12))])
 (.cond (.t 4) .skip
 (.seq (.ops [o 13 (.bin 0 .eql (.t 3) (.k (.c (.str (bs [105,118,101,99,52]))))),o 4 (.mv (.t 13))])
 (.cond (.t 4) .skip
 (.seq (.ops [o 14 (.bin 0 .eql (.t 3) (.k (.c (.str (bs [98,111,111,108]))))),o 4 (.mv (.t 14))])
 (.cond (.t 4) .skip
 (.seq (.ops [o 15 (.bin 0 .eql (.t 3) (.k (.c (.str (bs [98,118,101,99,50]))))),o 4 (.mv (.t 15))])
 (.cond (.t 4) .skip
 (.seq (.ops [o 16 (.bin 0 .eql (.t 3) (.k (.c (.str (bs [98,118,101,99,51]))))),o 4 (.mv (.t 16))])
 (.cond (.t 4) .skip
 (.seq (.ops [o 17 (.bin 0 .eql (.t 3) (.k (.c (.str (bs [98,118,101,99,52]))))),o 4 (.mv (.t 17))])
 (.keep [3,4] (.cond (.t 4) .skip
 (.ops [o 18 (.bin 0 .eql (.t 3) (.k (.c (.str (bs [115,97,109,112,108,101,114,50,68]))))),o 4 (.mv (.t 18))])))))))))))))))))))))))))))))
 (.cond (.t 4) (.seq (.ops [o 2 (.mv (.k (.c (.bool true))))])
 .ret)
 .skip))))
 (.keep [] (.seq (.ops [o 2 (.mv (.k (.c (.bool false))))])
 .ret)))),
 [.tmp 2]⟩
def F189 : AFun := ⟨1,
 (.seq (.ops [o 2 (.mv (.k (.c (.bool false))))])
 (.seq (.seq (.ops [o 3 (.mv (.t 0))])
 (.block 0 (.seq (.seq (.ops [o 5 (.bin 0 .eql (.t 3) (.k (.c (.str (bs [105,102]))))),o 4 (.mv (.t 5))])
 (.cond (.t 4) .skip
 (.seq (.ops [o 6 (.bin 0 .eql (.t 3) (.k (.c (.str (bs [101,108,115,101]))))),o 4 (.mv (.t 6))])
 (.cond (.t 4) .skip
 (.seq (.ops [o 7 (.bin 0 .eql (.t 3) (.k (.c (.str (bs [102,111,114]))))),o 4 (.mv (.t 7))])
 (.cond (.t 4) .skip
 (.seq (.ops [o 8 (.bin 0 .eql (.t 3) (.k (.c (.str (bs [114,101,116,117,114,110]))))),o 4 (.mv (.t 8))])
 (.cond (.t 4) .skip
 (.seq (.ops [o 9 (.bin 0 .eql (.t 3) (.k (.c (.str (bs [100,105,115,99,97,114,100]))))),o 4 (.mv (.t 9))])
 (.cond (.t 4) .skip
 (.seq (.ops [o 10 (.bin 0 .eql (.t 3) (.k (.c (.str (bs [116,114,117,101]))))),o 4 (.mv (.t 10))])
 (.keep [0,3,4] (.cond (.t 4) .skip
 (.seq (.ops [o 11 (.bin 0 .eql (.t 3) (.k (.c (.str (bs [102,97,108,115,101]))))),o 4 (.mv (.t 11))])
 (.cond (.t 4) .skip
 (.seq (.ops [o 12 (.bin 0 .eql (.t 3) (.k (.c (.str (bs [119,104,105,108,101]))))),o 4 (.mv (.t 12))])
 (.cond (.t 4) .skip
 (.seq (.ops [o 13 (.bin 0 .eql (.t 3) (.k (.c (.str (bs [100,111]))))),o 4 (.mv (.t 13))])
 (.cond (.t 4) .skip
 (.seq (.ops [o 14 (.bin 0 .eql (.t 3) (.k (.c (.str (bs [98,114,101,97,107]))))),o 4 (.mv (.t 14))])
 (.cond (.t 4) .skip
 (.seq (.ops [o 15 (.bin 0 .eql (.t 3) (.k (.c (.str (bs [99,111,110,116,105,110,117,101]))))),o 4 (.mv (.t 15))])
 (.cond (.t 4) .skip
 (.seq (.ops [o 16 (.bin 0 .eql (.t 3) (.k (.c (.str (bs [105,110]))))),o 4 (.mv (.t 16))])
 (.keep [0,3,4] (.cond (.t 4) .skip
 (.seq (.ops [o 17 (.bin 0 .eql (.t 3) (.k (.c (.str (bs [111,117,116]))))),o 4 (.mv (.t 17))])
 (.cond (.t 4) .skip
 (.seq (.ops [o 18 (.bin 0 .eql (.t 3) (.k (.c (.str (bs [105,110,111,117,116]))))),o 4 (.mv (.t 18))])
 (.cond (.t 4) .skip
 (.seq (.ops [o 19 (.bin 0 .eql (.t 3) (.k (.c (.str (bs [115,116,114,117,99,116]))))),o 4 (.mv (.t 19))])
 (.cond (.t 4) .skip
 (.seq (.ops [o 20 (.bin 0 .eql (.t 3) (.k (.c (.str (bs [112,114,101,99,105,115,105,111,110]))))),o 4 (.mv (.t 20))])
 (.cond (.t 4) .skip
 (.seq (.ops [o 21 (.bin 0 .eql (.t 3) (.k (.c (.str (bs [108,111,119,112]))))),o 4 (.mv (.t 21))])
 (.cond (.t 4) .skip
 (.seq (.ops [o 22 (.bin 0 .eql (.t 3) (.k (.c (.str (bs [109,101,100,105,117,109,112]))))),o 4 (.mv (.t 22))])
 (.keep [0,3,4] (.cond (.t 4) .skip
 (.ops [o 23 (.bin 0 .eql (.t 3) (.k (.c (.str (bs [104,105,103,104,112]))))),o 4 (.mv (.t 23))]))))))))))))))))))))))))))))))))))))))))
 (.cond (.t 4) (.seq (.ops [o 2 (.mv (.k (.c (.bool true))))])
 .ret)
 .skip))))
 (.seq (.ops [o 24 (.mv (.t 0)),o 25 (.call 158 [(.t 24)]),o 26 (.mv (.t 25)),⟨(some 27),(.mv (.t 0)),some (26,false)⟩,⟨(some 28),(.call 188 [(.t 27)]),some (26,false)⟩,o 29 (.pick (.t 26) (.k (.c (.bool true))) (.t 28)),o 2 (.mv (.t 29))])
 .ret))),
 [.tmp 2]⟩
def F190 : AFun := ⟨2,
 (.seq (.ops [o 4 (.mv (.k (.c (.bool false))))])
 (.seq (.ops [o 5 (.mv (.t 0)),o 6 (.mv (.t 1)),o 7 (.call 230 [(.t 5),(.t 6)]),o 8 (.bin 0 .geq (.t 7) (ki 0)),o 4 (.mv (.t 8))])
 .ret)),
 [.tmp 4]⟩
def F191 : AFun := ⟨4,
 (.seq (.ops [o 5 (.box (.t 1)),o 8 (.mv (.k (.c .nilptr)))])
 (.seq (.ops [o 9 (.mv (.t 0)),o 10 (.mv (.t 2)),o 11 (.fa 3 (.t 5)),o 12 (.ld (.t 11)),o 13 (.agg [(.int .i64 0),(.str (bs [])),(.str (bs [])),(.int .i32 0),.nilslice,(.int .i64 0)] [(0,1,(.t 9)),(2,1,(.t 10)),(5,1,(.t 12))]),o 14 (.mv (.t 3)),o 15 (.agg [(.int .i64 0),(.str (bs [])),(.str (bs [])),(.int .i32 0),.nilslice,(.int .i64 0),.nilslice] [(0,6,(.t 13)),(6,1,(.t 14))]),o 16 (.box (.t 15)),o 8 (.mv (.t 16))])
 .ret)),
 [.tmp 8]⟩
def F192 : AFun := ⟨2,
 (.seq (.ops [o 3 (.box (.t 1)),o 4 (.alloc [(.int .i64 0),(.str (bs [])),(.int .i32 0),(.int .i64 0),(.int .i64 0)])])
 (.seq (.ops [o 5 (.mv (.t 0)),o 6 (.mkf 231 [] [(.t 3)]),o 7 (.call 159 [(.t 5),(.t 6)]),e (.st 5 (.t 4) (.t 7))])
 .ret)),
 [.celln 4 5]⟩
def F193 : AFun := ⟨2,
 (.seq (.ops [o 4 (.mv (.k (.c .nilslice)))])
 (.seq (.ops [o 5 (.mv (.k (.c .nilslice)))])
 (.seq (.seq (.ops [o 11 (.mv (.t 0)),o 12 (.mks [(.str (bs []))] 1 [(0,1,(.k (.c (.str (bs [41])))))]),o 13 (.call 196 [(.t 11),(.t 12)]),o 10 (.mv (.t 13)),o 14 (.ext 0 (.t 10)),o 15 (.ext 1 (.t 10)),o 6 (.alloc [(.int .i64 0),(.str (bs [])),(.int .i32 0),(.int .i64 0),(.int .i64 0)]),e (.st 5 (.t 6) (.t 14)),o 7 (.mv (.t 15))])
 (.seq (.ops [o 16 (.mv (.t 7))])
 (.cond (.t 16) (.seq (.ops [o 17 (.mv (.t 5)),o 4 (.mv (.t 17))])
 .ret)
 .skip)))
 (.block 0 (.loop [0,1,5] (.block 1 (.seq (.ops [o 18 (.mv (.t 5)),o 19 (.mv (.t 1)),o 20 (.callv (.t 19) []),o 21 (.mks [.nilptr] 1 [(0,1,(.t 20))]),o 22 (.app 1 8 (.t 18) (.t 21)),o 5 (.mv (.t 22))])
 (.seq (.ops [o 24 (.mv (.t 0)),o 25 (.mks [(.str (bs []))] 1 [(0,1,(.k (.c (.str (bs [44])))))]),o 26 (.call 196 [(.t 24),(.t 25)]),o 23 (.mv (.t 26)),o 27 (.ext 0 (.t 23)),o 28 (.ext 1 (.t 23)),o 8 (.alloc [(.int .i64 0),(.str (bs [])),(.int .i32 0),(.int .i64 0),(.int .i64 0)]),e (.st 5 (.t 8) (.t 27)),o 9 (.mv (.t 28))])
 (.keep [0,1,5,9] (.seq (.ops [o 29 (.mv (.t 9)),o 30 (.un .not (.t 29))])
 (.cond (.t 30) (.seq (.ops [o 31 (.mv (.t 0)),o 32 (.call 192 [(.t 31),(.k (.c (.str (bs [41]))))])])
 (.seq (.ops [o 33 (.mv (.t 5)),o 4 (.mv (.t 33))])
 .ret))
 .skip))))))))))),
 [.tmp 4]⟩
def F194 : AFun := ⟨1,
 (.seq (.ops [o 1 (.mv (.k (.c .nilptr)))])
 (.seq (.ops [o 5 (.ld (.t 0)),o 6 (.call 159 [(.t 5),(.f 160)]),o 2 (.alloc [(.int .i64 0),(.str (bs [])),(.int .i32 0),(.int .i64 0),(.int .i64 0)]),e (.st 5 (.t 2) (.t 6))])
 (.seq (.ops [o 7 (.ld (.t 0)),o 8 (.call 159 [(.t 7),(.f 161)]),o 3 (.alloc [(.int .i64 0),(.str (bs [])),(.int .i32 0),(.int .i64 0),(.int .i64 0)]),e (.st 5 (.t 3) (.t 8))])
 (.seq (.ops [o 9 (.ldn 5 (.t 3)),o 10 (.fa 1 (.t 3)),o 11 (.ld (.t 10)),o 12 (.call 191 [(ki 5),(.t 9),(.t 11),(.k (.c .nilslice))]),o 4 (.mv (.t 12))])
 (.seq (.ops [o 13 (.mv (.t 4)),o 14 (.fa 1 (.t 2)),o 15 (.ld (.t 14)),o 16 (.nilck (.t 13)),o 17 (.fa 0 (.t 16)),o 18 (.fa 1 (.t 17)),e (.st 1 (.t 18) (.t 15))])
 (.keep [4] (.seq (.ops [o 19 (.mv (.t 4)),o 1 (.mv (.t 19))])
 .ret))))))),
 [.tmp 1]⟩
def F195 : AFun := ⟨1,
 (.seq (.ops [o 2 (.mv (.k (.c .nilptr)))])
 (.seq (.ops [o 6 (.mv (.t 0)),o 7 (.call 192 [(.t 6),(.k (.c (.str (bs [123]))))]),o 8 (.call 191 [(ki 6),(.t 7),(.k (.c (.str (bs [])))),(.k (.c .nilslice))]),o 3 (.mv (.t 8))])
 (.block 0 (.loop [0,3] (.block 1 (.seq (.seq (.ops [o 10 (.mv (.t 0)),o 11 (.mks [(.str (bs []))] 1 [(0,1,(.k (.c (.str (bs [125])))))]),o 12 (.call 196 [(.t 10),(.t 11)]),o 9 (.mv (.t 12)),o 13 (.ext 0 (.t 9)),o 14 (.ext 1 (.t 9)),o 4 (.alloc [(.int .i64 0),(.str (bs [])),(.int .i32 0),(.int .i64 0),(.int .i64 0)]),e (.st 5 (.t 4) (.t 13)),o 5 (.mv (.t 14))])
 (.seq (.ops [o 15 (.mv (.t 5))])
 (.cond (.t 15) (.seq (.ops [o 16 (.mv (.t 3)),o 2 (.mv (.t 16))])
 .ret)
 .skip)))
 (.dops [.op 0 (o 17 (.mv (.t 3))),.op 1 (o 18 (.mv (.t 3))),.op 5 (o 22 (.mv (.t 0))),.op 2 (o 19 (.nilck (.t 18))),.op 3 (o 20 (.fa 6 (.t 19))),.op 4 (o 21 (.ld (.t 20))),.eff 6 (o 23 (.call 232 [(.t 22)])) [o 21 (.ld (.t 20))],.eff 7 (o 24 (.mks [.nilptr] 1 [(0,1,(.t 23))])) [o 21 (.ld (.t 20))],.eff 8 (o 25 (.app 1 8 (.t 21) (.t 24))) [],.op 9 (o 26 (.nilck (.t 17))),.op 10 (o 27 (.fa 6 (.t 26))),.eff 11 (e (.st 1 (.t 27) (.t 25))) []]))))))),
 [.tmp 2]⟩
def F196 : AFun := ⟨2,
 (.seq (.ops [o 4 (.alloc [(.int .i64 0),(.str (bs [])),(.int .i32 0),(.int .i64 0),(.int .i64 0)]),o 5 (.mv (.k (.c (.bool false))))])
 (.seq (.ops [o 7 (.mv (.t 0)),o 8 (.call 157 [(.t 7),(ki 0)]),o 6 (.alloc [(.int .i64 0),(.str (bs [])),(.int .i32 0),(.int .i64 0),(.int .i64 0)]),e (.st 5 (.t 6) (.t 8))])
 (.seq (.seq (.ops [o 9 (.ldn 5 (.t 6)),o 10 (.mv (.t 1)),o 11 (.call 162 [(.t 9),(.t 10)]),o 12 (.un .not (.t 11))])
 (.cond (.t 12) (.seq (.ops [o 13 (.agg [(.int .i64 0),(.str (bs [])),(.int .i32 0),(.int .i64 0),(.int .i64 0)] []),e (.st 5 (.t 4) (.t 13)),o 5 (.mv (.k (.c (.bool false))))])
 .ret)
 .skip))
 (.keep [0,4,6] (.seq (.ops [o 14 (.mv (.t 0)),o 15 (.nilck (.t 14)),o 16 (.fa 1 (.t 15)),o 17 (.ld (.t 16)),o 18 (.bin 0 .add (.t 17) (ki 1)),o 19 (.nilck (.t 14)),o 20 (.fa 1 (.t 19)),e (.st 1 (.t 20) (.t 18))])
 (.seq (.ops [o 21 (.ldn 5 (.t 6)),e (.st 5 (.t 4) (.t 21)),o 5 (.mv (.k (.c (.bool true))))])
 .ret)))))),
 [.celln 4 5,.tmp 5]⟩
def F197 : AFun := ⟨1,
 (.seq (.ops [o 2 (.mv (.k (.c .nilptr)))])
 (.seq (.ops [o 6 (.mv (.t 0)),o 7 (.call 233 [(.t 6)]),o 3 (.mv (.t 7))])
 (.seq (.seq (.ops [o 8 (.mv (.t 3)),o 9 (.nilck (.t 8)),o 10 (.fa 0 (.t 9)),o 11 (.fa 0 (.t 10)),o 12 (.ld (.t 11)),o 13 (.bin 0 .neq (.t 12) (ki 19)),o 14 (.mv (.t 13)),⟨(some 15),(.mv (.t 3)),some (14,true)⟩,⟨(some 16),(.nilck (.t 15)),some (14,true)⟩,⟨(some 17),(.fa 0 (.t 16)),some (14,true)⟩,⟨(some 18),(.fa 0 (.t 17)),some (14,true)⟩,⟨(some 19),(.ld (.t 18)),some (14,true)⟩,⟨(some 20),(.bin 0 .neq (.t 19) (ki 18)),some (14,true)⟩,o 21 (.pick (.t 14) (.t 20) (.k (.c (.bool false))))])
 (.keep [0,3,21] (.cond (.t 21) (.seq (.ops [o 22 (.mv (.t 3)),o 2 (.mv (.t 22))])
 .ret)
 .skip)))
 (.seq (.seq (.ops [o 24 (.mv (.t 0)),o 25 (.mks [(.str (bs []))] 5 [(0,1,(.k (.c (.str (bs [61]))))),(1,1,(.k (.c (.str (bs [43,61]))))),(2,1,(.k (.c (.str (bs [45,61]))))),(3,1,(.k (.c (.str (bs [42,61]))))),(4,1,(.k (.c (.str (bs [47,61])))))]),o 26 (.call 196 [(.t 24),(.t 25)]),o 23 (.mv (.t 26)),o 27 (.ext 0 (.t 23)),o 28 (.ext 1 (.t 23)),o 4 (.alloc [(.int .i64 0),(.str (bs [])),(.int .i32 0),(.int .i64 0),(.int .i64 0)]),e (.st 5 (.t 4) (.t 27)),o 5 (.mv (.t 28))])
 (.seq (.ops [o 29 (.mv (.t 5))])
 (.keep [0,3,4,29] (.cond (.t 29) (.seq (.dops [.op 0 (o 30 (.ldn 5 (.t 4))),.op 1 (o 31 (.fa 1 (.t 4))),.op 3 (o 33 (.mv (.t 3))),.op 4 (o 34 (.mv (.t 0))),.op 2 (o 32 (.ld (.t 31))),.eff 5 (o 35 (.call 197 [(.t 34)])) [o 30 (.ldn 5 (.t 4)),o 32 (.ld (.t 31))],.eff 6 (o 36 (.mks [.nilptr] 2 [(0,1,(.t 33)),(1,1,(.t 35))])) [o 30 (.ldn 5 (.t 4)),o 32 (.ld (.t 31))],.eff 7 (o 37 (.call 191 [(ki 13),(.t 30),(.t 32),(.t 36)])) [],.op 8 (o 2 (.mv (.t 37)))])
 .ret)
 .skip))))
 (.seq (.ops [o 38 (.mv (.t 3)),o 2 (.mv (.t 38))])
 .ret))))),
 [.tmp 2]⟩
def F198 : AFun := ⟨1,
 (.seq (.ops [o 1 (.box (.t 0)),o 2 (.mv (.k (.c .nilslice))),o 3 (.mv (.k (.c (.bool false))))])
 (.seq (.ops [o 7 (.fa 4 (.t 1)),o 8 (.ld (.t 7)),o 9 (.len 1 (.t 8)),o 4 (.alloc [(.int .i64 0)]),e (.st 1 (.t 4) (.t 9))])
 (.seq (.ops [o 10 (.mkf 234 [] [(.t 4)]),o 5 (.mv (.t 10))])
 (.seq (.seq (.ops [o 11 (.fa 0 (.t 1)),o 12 (.ld (.t 11))])
 (.block 0 (.seq (.ops [o 14 (.bin 0 .eql (.t 12) (ki 1)),o 13 (.mv (.t 14))])
 (.keep [4,5,12,13] (.cond (.t 13) (.seq (.ops [o 15 (.mv (.t 5)),o 16 (.callv (.t 15) [(ki 0)]),o 2 (.mv (.t 16)),o 3 (.mv (.k (.c (.bool true))))])
 .ret)
 (.seq (.ops [o 18 (.bin 0 .eql (.t 12) (ki 2)),o 17 (.mv (.t 18))])
 (.cond (.t 17) (.seq (.dops [.op 0 (o 19 (.mv (.t 5))),.op 2 (o 21 (.ld (.t 4))),.op 3 (o 22 (.bin 0 .gtr (.t 21) (ki 0))),.eff 1 (o 20 (.callv (.t 19) [(ki 1)])) [o 21 (.ld (.t 4))],.op 4 (o 2 (.mv (.t 20))),.op 5 (o 3 (.mv (.t 22)))])
 .ret)
 (.seq (.seq (.ops [o 24 (.bin 0 .eql (.t 12) (ki 3)),o 23 (.mv (.t 24))])
 (.cond (.t 23) .skip
 (.ops [o 25 (.bin 0 .eql (.t 12) (ki 9)),o 23 (.mv (.t 25))])))
 (.cond (.t 23) (.seq (.dops [.op 0 (o 26 (.mv (.t 5))),.op 2 (o 28 (.ld (.t 4))),.op 3 (o 29 (.bin 0 .leq (.t 28) (ki 1))),.eff 1 (o 27 (.callv (.t 26) [(ki 5)])) [o 28 (.ld (.t 4))],.op 4 (o 2 (.mv (.t 27))),.op 5 (o 3 (.mv (.t 29)))])
 .ret)
 (.seq (.ops [o 31 (.bin 0 .eql (.t 12) (ki 4)),o 30 (.mv (.t 31))])
 (.cond (.t 30) (.seq (.seq (.ops [o 32 (.ld (.t 4)),o 33 (.bin 0 .eql (.t 32) (ki 0))])
 (.cond (.t 33) (.seq (.ops [o 2 (.mv (.k (.c .nilslice))),o 3 (.mv (.k (.c (.bool false))))])
 .ret)
 .skip))
 (.keep [4,5] (.seq (.ops [o 34 (.mv (.t 5)),o 35 (.callv (.t 34) [(ki 2)]),o 6 (.mv (.t 35))])
 (.seq (.ops [o 36 (.mv (.t 6)),o 37 (.ld (.t 4)),o 38 (.bin 0 .sub (.t 37) (ki 1)),o 39 (.ixa 1 (.t 36) (.t 38)),e (.st 1 (.t 39) (ki 3))])
 (.seq (.ops [o 40 (.mv (.t 6)),o 2 (.mv (.t 40)),o 3 (.mv (.k (.c (.bool true))))])
 .ret)))))
 (.seq (.ops [o 42 (.bin 0 .eql (.t 12) (ki 6)),o 41 (.mv (.t 42))])
 (.cond (.t 41) (.seq (.ops [o 43 (.mv (.t 5)),o 44 (.callv (.t 43) [(ki 4)]),o 2 (.mv (.t 44)),o 3 (.mv (.k (.c (.bool true))))])
 .ret)
 (.seq (.ops [o 46 (.bin 0 .eql (.t 12) (ki 7)),o 45 (.mv (.t 46))])
 (.keep [4,5,12,45] (.cond (.t 45) (.seq (.dops [.op 1 (o 48 (.ld (.t 4))),.op 4 (o 51 (.ld (.t 4))),.op 2 (o 49 (.mn [(.t 48),(ki 3)])),.op 5 (o 52 (.bin 0 .eql (.t 51) (ki 2))),.op 6 (o 53 (.mv (.t 52))),.op 7 (⟨(some 54),(.ld (.t 4)),some (53,false)⟩),.op 8 (⟨(some 55),(.bin 0 .eql (.t 54) (ki 3)),some (53,false)⟩),.op 9 (o 56 (.pick (.t 53) (.k (.c (.bool true))) (.t 55))),.eff 0 (o 47 (.mks [(.int .i64 0)] 3 [(0,1,(ki 5)),(1,1,(ki 4)),(2,1,(ki 4))])) [o 48 (.ld (.t 4)),o 51 (.ld (.t 4)),⟨(some 54),(.ld (.t 4)),some (53,false)⟩],.op 3 (o 50 (.slc 1 (.t 47) none (some (.t 49)) none)),.op 10 (o 2 (.mv (.t 50))),.op 11 (o 3 (.mv (.t 56)))])
 .ret)
 (.seq (.ops [o 58 (.bin 0 .eql (.t 12) (ki 8)),o 57 (.mv (.t 58))])
 (.cond (.t 57) (.seq (.dops [.op 1 (o 60 (.ld (.t 4))),.op 2 (o 61 (.bin 0 .eql (.t 60) (ki 3))),.eff 0 (o 59 (.mks [(.int .i64 0)] 3 [(0,1,(ki 6)),(1,1,(ki 6)),(2,1,(ki 4))])) [o 60 (.ld (.t 4))],.op 3 (o 2 (.mv (.t 59))),.op 4 (o 3 (.mv (.t 61)))])
 .ret)
 (.seq (.seq (.ops [o 63 (.bin 0 .eql (.t 12) (ki 11)),o 62 (.mv (.t 63))])
 (.cond (.t 62) .skip
 (.seq (.ops [o 64 (.bin 0 .eql (.t 12) (ki 16)),o 62 (.mv (.t 64))])
 (.cond (.t 62) .skip
 (.ops [o 65 (.bin 0 .eql (.t 12) (ki 18)),o 62 (.mv (.t 65))])))))
 (.cond (.t 62) (.seq (.dops [.op 0 (o 66 (.mv (.t 5))),.op 2 (o 68 (.ld (.t 4))),.op 3 (o 69 (.bin 0 .eql (.t 68) (ki 1))),.eff 1 (o 67 (.callv (.t 66) [(ki 5)])) [o 68 (.ld (.t 4))],.op 4 (o 2 (.mv (.t 67))),.op 5 (o 3 (.mv (.t 69)))])
 .ret)
 (.seq (.seq (.ops [o 71 (.bin 0 .eql (.t 12) (ki 13)),o 70 (.mv (.t 71))])
 (.cond (.t 70) .skip
 (.ops [o 72 (.bin 0 .eql (.t 12) (ki 15)),o 70 (.mv (.t 72))])))
 (.keep [4,5,12,70] (.cond (.t 70) (.seq (.dops [.op 0 (o 73 (.mv (.t 5))),.op 2 (o 75 (.ld (.t 4))),.op 3 (o 76 (.bin 0 .eql (.t 75) (ki 2))),.eff 1 (o 74 (.callv (.t 73) [(ki 5)])) [o 75 (.ld (.t 4))],.op 4 (o 2 (.mv (.t 74))),.op 5 (o 3 (.mv (.t 76)))])
 .ret)
 (.seq (.ops [o 78 (.bin 0 .eql (.t 12) (ki 14)),o 77 (.mv (.t 78))])
 (.cond (.t 77) (.seq (.dops [.op 0 (o 79 (.mv (.t 5))),.op 2 (o 81 (.ld (.t 4))),.op 3 (o 82 (.bin 0 .eql (.t 81) (ki 3))),.eff 1 (o 80 (.callv (.t 79) [(ki 5)])) [o 81 (.ld (.t 4))],.op 4 (o 2 (.mv (.t 80))),.op 5 (o 3 (.mv (.t 82)))])
 .ret)
 (.seq (.ops [o 84 (.bin 0 .eql (.t 12) (ki 17)),o 83 (.mv (.t 84))])
 (.cond (.t 83) (.seq (.ops [o 85 (.mv (.t 5)),o 86 (.callv (.t 85) [(ki 5)]),o 2 (.mv (.t 86)),o 3 (.mv (.k (.c (.bool true))))])
 .ret)
 .skip)))))))))))))))))))))))))))
 (.keep [4] (.seq (.dops [.op 0 (o 87 (.ld (.t 4))),.op 2 (o 2 (.mv (.k (.c .nilslice)))),.op 1 (o 88 (.bin 0 .eql (.t 87) (ki 0))),.op 3 (o 3 (.mv (.t 88)))])
 .ret)))))),
 [.tmp 2,.tmp 3]⟩
def F199 : AFun := ⟨3,
 (.seq (.ops [o 3 (.box (.t 0)),o 6 (.mv (.k (.c (.bool false))))])
 (.seq (.ops [o 8 (.fa 0 (.t 3)),o 9 (.ld (.t 8)),o 10 (.bin 0 .eql (.t 9) (ki 2)),o 11 (.mv (.t 10)),⟨(some 12),(.fa 0 (.t 3)),some (11,false)⟩,⟨(some 13),(.ld (.t 12)),some (11,false)⟩,⟨(some 14),(.bin 0 .eql (.t 13) (ki 4)),some (11,false)⟩,o 15 (.pick (.t 11) (.k (.c (.bool true))) (.t 14)),o 16 (.mv (.t 15)),⟨(some 17),(.fa 0 (.t 3)),some (16,false)⟩,⟨(some 18),(.ld (.t 17)),some (16,false)⟩,⟨(some 19),(.bin 0 .eql (.t 18) (ki 5)),some (16,false)⟩,o 20 (.pick (.t 16) (.k (.c (.bool true))) (.t 19)),o 7 (.mv (.t 20))])
 (.keep [1,2,3,7] (.seq (.seq (.ops [o 21 (.mv (.t 7)),o 22 (.fa 1 (.t 3)),o 23 (.ld (.t 22)),o 24 (.call 188 [(.t 23)]),o 25 (.bin 1 .neq (.t 21) (.t 24)),o 26 (.mv (.t 25)),⟨(some 27),(.mv (.t 7)),some (26,false)⟩,⟨(some 28),(.un .not (.t 27)),some (26,false)⟩,⟨(some 29),(.mv (.t 28)),some (26,false)⟩,⟨(some 30),(.fa 1 (.t 3)),some (29,true)⟩,⟨(some 31),(.ld (.t 30)),some (29,true)⟩,⟨(some 32),(.bin 0 .neq (.t 31) (.k (.c (.str (bs []))))),some (29,true)⟩,⟨(some 33),(.pick (.t 29) (.t 32) (.k (.c (.bool false)))),some (26,false)⟩,o 34 (.pick (.t 26) (.k (.c (.bool true))) (.t 33)),o 35 (.mv (.t 34)),⟨(some 36),(.fa 5 (.t 3)),some (35,false)⟩,⟨(some 37),(.ld (.t 36)),some (35,false)⟩,⟨(some 38),(.bin 0 .lss (.t 37) (ki 0)),some (35,false)⟩,o 39 (.pick (.t 35) (.k (.c (.bool true))) (.t 38))])
 (.keep [1,2,3,39] (.cond (.t 39) (.seq (.ops [o 6 (.mv (.k (.c (.bool false))))])
 .ret)
 .skip)))
 (.seq (.seq (.ops [o 40 (.fa 3 (.t 3)),o 41 (.ld (.t 40)),o 42 (.bin 0 .neq (.t 41) (.k (.c (.int .i32 0)))),o 43 (.mv (.t 42)),⟨(some 44),(.fa 0 (.t 3)),some (43,true)⟩,⟨(some 45),(.ld (.t 44)),some (43,true)⟩,⟨(some 46),(.bin 0 .neq (.t 45) (ki 20)),some (43,true)⟩,o 47 (.pick (.t 43) (.t 46) (.k (.c (.bool false)))),o 48 (.mv (.t 47)),⟨(some 49),(.fa 0 (.t 3)),some (48,true)⟩,⟨(some 50),(.ld (.t 49)),some (48,true)⟩,⟨(some 51),(.bin 0 .neq (.t 50) (ki 21)),some (48,true)⟩,o 52 (.pick (.t 48) (.t 51) (.k (.c (.bool false))))])
 (.keep [1,2,3,52] (.cond (.t 52) (.seq (.ops [o 6 (.mv (.k (.c (.bool false))))])
 .ret)
 .skip)))
 (.seq (.seq (.ops [o 53 (.fa 0 (.t 3)),o 54 (.ld (.t 53))])
 (.block 0 (.seq (.seq (.ops [o 56 (.bin 0 .eql (.t 54) (ki 1)),o 55 (.mv (.t 56))])
 (.cond (.t 55) .skip
 (.seq (.ops [o 57 (.bin 0 .eql (.t 54) (ki 6)),o 55 (.mv (.t 57))])
 (.cond (.t 55) .skip
 (.seq (.ops [o 58 (.bin 0 .eql (.t 54) (ki 7)),o 55 (.mv (.t 58))])
 (.cond (.t 55) .skip
 (.seq (.ops [o 59 (.bin 0 .eql (.t 54) (ki 9)),o 55 (.mv (.t 59))])
 (.keep [1,2,3,54,55] (.cond (.t 55) .skip
 (.seq (.ops [o 60 (.bin 0 .eql (.t 54) (ki 10)),o 55 (.mv (.t 60))])
 (.cond (.t 55) .skip
 (.seq (.ops [o 61 (.bin 0 .eql (.t 54) (ki 11)),o 55 (.mv (.t 61))])
 (.cond (.t 55) .skip
 (.seq (.ops [o 62 (.bin 0 .eql (.t 54) (ki 12)),o 55 (.mv (.t 62))])
 (.cond (.t 55) .skip
 (.ops [o 63 (.bin 0 .eql (.t 54) (ki 14)),o 55 (.mv (.t 63))]))))))))))))))))
 (.cond (.t 55) (.seq (.ops [o 64 (.fa 2 (.t 3)),o 65 (.ld (.t 64)),o 66 (.bin 0 .eql (.t 65) (.k (.c (.str (bs []))))),o 6 (.mv (.t 66))])
 .ret)
 (.seq (.ops [o 68 (.bin 0 .eql (.t 54) (ki 2)),o 67 (.mv (.t 68))])
 (.keep [1,2,3,54,67] (.cond (.t 67) (.seq (.ops [o 69 (.fa 2 (.t 3)),o 70 (.ld (.t 69)),o 71 (.bin 0 .eql (.t 70) (.k (.c (.str (bs []))))),o 72 (.mv (.t 71)),⟨(some 73),(.fa 2 (.t 3)),some (72,false)⟩,⟨(some 74),(.ld (.t 73)),some (72,false)⟩,⟨(some 75),(.bin 0 .eql (.t 74) (.k (.c (.str (bs [99,111,110,115,116]))))),some (72,false)⟩,o 76 (.pick (.t 72) (.k (.c (.bool true))) (.t 75)),o 77 (.mv (.t 76)),⟨(some 78),(.fa 2 (.t 3)),some (77,false)⟩,⟨(some 79),(.ld (.t 78)),some (77,false)⟩,⟨(some 80),(.call 158 [(.t 79)]),some (77,false)⟩,⟨(some 81),(.mv (.t 80)),some (77,false)⟩,⟨(some 82),(.mv (.t 1)),some (81,true)⟩,⟨(some 83),(.un .not (.t 82)),some (81,true)⟩,⟨(some 84),(.pick (.t 81) (.t 83) (.k (.c (.bool false)))),some (77,false)⟩,o 85 (.pick (.t 77) (.k (.c (.bool true))) (.t 84)),o 6 (.mv (.t 85))])
 .ret)
 (.seq (.seq (.ops [o 87 (.bin 0 .eql (.t 54) (ki 3)),o 86 (.mv (.t 87))])
 (.cond (.t 86) .skip
 (.seq (.ops [o 88 (.bin 0 .eql (.t 54) (ki 4)),o 86 (.mv (.t 88))])
 (.cond (.t 86) .skip
 (.seq (.ops [o 89 (.bin 0 .eql (.t 54) (ki 5)),o 86 (.mv (.t 89))])
 (.cond (.t 86) .skip
 (.seq (.ops [o 90 (.bin 0 .eql (.t 54) (ki 8)),o 86 (.mv (.t 90))])
 (.cond (.t 86) .skip
 (.seq (.ops [o 91 (.bin 0 .eql (.t 54) (ki 18)),o 86 (.mv (.t 91))])
 (.keep [2,3,54,86] (.cond (.t 86) .skip
 (.ops [o 92 (.bin 0 .eql (.t 54) (ki 19)),o 86 (.mv (.t 92))]))))))))))))
 (.cond (.t 86) (.seq (.ops [o 93 (.fa 2 (.t 3)),o 94 (.ld (.t 93)),o 95 (.call 235 [(.t 94)]),o 6 (.mv (.t 95))])
 .ret)
 (.seq (.ops [o 97 (.bin 0 .eql (.t 54) (ki 17)),o 96 (.mv (.t 97))])
 (.keep [2,3,54,96] (.cond (.t 96) (.seq (.ops [o 98 (.fa 2 (.t 3)),o 99 (.ld (.t 98)),o 100 (.call 235 [(.t 99)]),o 101 (.mv (.t 100)),⟨(some 102),(.fa 2 (.t 3)),some (101,false)⟩,⟨(some 103),(.ld (.t 102)),some (101,false)⟩,⟨(some 104),(.call 188 [(.t 103)]),some (101,false)⟩,o 105 (.pick (.t 101) (.k (.c (.bool true))) (.t 104)),o 6 (.mv (.t 105))])
 .ret)
 (.seq (.ops [o 107 (.bin 0 .eql (.t 54) (ki 13)),o 106 (.mv (.t 107))])
 (.cond (.t 106) (.seq (.ops [o 108 (.mks [(.str (bs []))] 5 [(0,1,(.k (.c (.str (bs [61]))))),(1,1,(.k (.c (.str (bs [43,61]))))),(2,1,(.k (.c (.str (bs [45,61]))))),(3,1,(.k (.c (.str (bs [42,61]))))),(4,1,(.k (.c (.str (bs [47,61])))))]),o 109 (.fa 2 (.t 3)),o 110 (.ld (.t 109)),o 111 (.call 190 [(.t 108),(.t 110)]),o 6 (.mv (.t 111))])
 .ret)
 (.seq (.ops [o 113 (.bin 0 .eql (.t 54) (ki 16)),o 112 (.mv (.t 113))])
 (.cond (.t 112) (.seq (.ops [o 114 (.fa 2 (.t 3)),o 115 (.ld (.t 114)),o 116 (.bin 0 .eql (.t 115) (.k (.c (.str (bs [45]))))),o 117 (.mv (.t 116)),⟨(some 118),(.fa 2 (.t 3)),some (117,false)⟩,⟨(some 119),(.ld (.t 118)),some (117,false)⟩,⟨(some 120),(.bin 0 .eql (.t 119) (.k (.c (.str (bs [33]))))),some (117,false)⟩,o 121 (.pick (.t 117) (.k (.c (.bool true))) (.t 120)),o 6 (.mv (.t 121))])
 .ret)
 (.seq (.ops [o 123 (.bin 0 .eql (.t 54) (ki 15)),o 122 (.mv (.t 123))])
 (.cond (.t 122) (.seq (.ops [o 124 (.call 237 []),o 125 (.mkf 238 [] [(.t 3)]),o 126 (.call 236 [(.t 124),(.t 125)]),o 6 (.mv (.t 126))])
 .ret)
 (.seq (.ops [o 128 (.bin 0 .eql (.t 54) (ki 20)),o 127 (.mv (.t 128))])
 (.cond (.t 127) (.seq (.ops [o 129 (.fa 2 (.t 3)),o 130 (.ld (.t 129)),o 131 (.bin 0 .eql (.t 130) (.k (.c (.str (bs []))))),o 132 (.mv (.t 131)),⟨(some 133),(.fa 3 (.t 3)),some (132,true)⟩,⟨(some 134),(.ld (.t 133)),some (132,true)⟩,⟨(some 135),(.bin 0 .and (.t 134) (.k (.c (.int .i32 65535)))),some (132,true)⟩,⟨(some 136),(.bin 0 .eql (.t 135) (.k (.c (.int .i32 0)))),some (132,true)⟩,o 137 (.pick (.t 132) (.t 136) (.k (.c (.bool false)))),o 138 (.mv (.t 137)),⟨(some 139),(.fa 3 (.t 3)),some (138,true)⟩,⟨(some 140),(.ld (.t 139)),some (138,true)⟩,⟨(some 141),(.bin 0 .gtr (.t 140) (.k (.c (.int .i32 (-2147483648))))),some (138,true)⟩,o 142 (.pick (.t 138) (.t 141) (.k (.c (.bool false)))),o 143 (.mv (.t 142)),⟨(some 144),(.mv (.t 2)),some (143,true)⟩,⟨(some 145),(.mv (.t 144)),some (143,true)⟩,⟨(some 146),(.fa 3 (.t 3)),some (145,false)⟩,⟨(some 147),(.ld (.t 146)),some (145,false)⟩,⟨(some 148),(.bin 0 .geq (.t 147) (.k (.c (.int .i32 0)))),some (145,false)⟩,⟨(some 149),(.pick (.t 145) (.k (.c (.bool true))) (.t 148)),some (143,true)⟩,o 150 (.pick (.t 143) (.t 149) (.k (.c (.bool false)))),o 6 (.mv (.t 150))])
 .ret)
 (.seq (.ops [o 152 (.bin 0 .eql (.t 54) (ki 21)),o 151 (.mv (.t 152))])
 (.cond (.t 151) (.seq (.ops [o 153 (.fa 2 (.t 3)),o 154 (.ld (.t 153)),o 155 (.bin 0 .eql (.t 154) (.k (.c (.str (bs []))))),o 156 (.mv (.t 155)),⟨(some 157),(.fa 3 (.t 3)),some (156,true)⟩,⟨(some 158),(.ld (.t 157)),some (156,true)⟩,⟨(some 159),(.bin 0 .geq (.t 158) (.k (.c (.int .i32 0)))),some (156,true)⟩,o 160 (.pick (.t 156) (.t 159) (.k (.c (.bool false)))),o 6 (.mv (.t 160))])
 .ret)
 (.seq (.ops [o 162 (.bin 0 .eql (.t 54) (ki 22)),o 161 (.mv (.t 162))])
 (.keep [3,161] (.cond (.t 161) (.seq (.ops [o 163 (.fa 2 (.t 3)),o 164 (.ld (.t 163)),o 165 (.bin 0 .eql (.t 164) (.k (.c (.str (bs [116,114,117,101]))))),o 166 (.mv (.t 165)),⟨(some 167),(.fa 2 (.t 3)),some (166,false)⟩,⟨(some 168),(.ld (.t 167)),some (166,false)⟩,⟨(some 169),(.bin 0 .eql (.t 168) (.k (.c (.str (bs [102,97,108,115,101]))))),some (166,false)⟩,o 170 (.pick (.t 166) (.k (.c (.bool true))) (.t 169)),o 6 (.mv (.t 170))])
 .ret)
 .skip)))))))))))))))))))))))))
 (.keep [] (.seq (.ops [o 6 (.mv (.k (.c (.bool false))))])
 .ret)))))))),
 [.tmp 6]⟩
def F200 : AFun := ⟨1,
 (.ops [o 1 (.ld (.t 0)),o 2 (.nilck (.t 1)),o 3 (.fa 1 (.t 2)),o 4 (.ld (.t 3)),o 5 (.bin 0 .sub (.t 4) (ki 1)),o 6 (.nilck (.t 1)),o 7 (.fa 1 (.t 6)),e (.st 1 (.t 7) (.t 5))]),
 []⟩
def F201 : AFun := ⟨1,
 (.ops [o 1 (.ld (.t 0)),o 2 (.nilck (.t 1)),o 3 (.fa 3 (.t 2)),e (.st 1 (.t 3) (.k (.c (.bool false))))]),
 []⟩
def F202 : AFun := ⟨2,
 (.seq (.ops [o 4 (.mv (.k (.c (.bool false))))])
 (.seq (.seq (.ops [o 5 (.mv (.t 0))])
 (.block 0 (.seq (.ops [o 7 (.bin 0 .eql (.t 5) (ki 0)),o 6 (.mv (.t 7))])
 (.cond (.t 6) (.seq (.ops [o 8 (.mv (.t 1)),o 9 (.bin 0 .eql (.t 8) (ki 2)),o 10 (.mv (.t 9)),⟨(some 11),(.mv (.t 1)),some (10,false)⟩,⟨(some 12),(.bin 0 .eql (.t 11) (ki 4)),some (10,false)⟩,o 13 (.pick (.t 10) (.k (.c (.bool true))) (.t 12)),o 4 (.mv (.t 13))])
 .ret)
 (.seq (.ops [o 15 (.bin 0 .eql (.t 5) (ki 1)),o 14 (.mv (.t 15))])
 (.cond (.t 14) (.seq (.ops [o 16 (.mv (.t 1)),o 17 (.bin 0 .eql (.t 16) (ki 3)),o 4 (.mv (.t 17))])
 .ret)
 (.seq (.ops [o 19 (.bin 0 .eql (.t 5) (ki 2)),o 18 (.mv (.t 19))])
 (.cond (.t 18) (.seq (.ops [o 20 (.mv (.t 1)),o 21 (.bin 0 .eql (.t 20) (ki 5)),o 4 (.mv (.t 21))])
 .ret)
 (.seq (.ops [o 23 (.bin 0 .eql (.t 5) (ki 3)),o 22 (.mv (.t 23))])
 (.cond (.t 22) (.seq (.ops [o 24 (.mv (.t 1)),o 25 (.bin 0 .eql (.t 24) (ki 6)),o 4 (.mv (.t 25))])
 .ret)
 (.seq (.ops [o 27 (.bin 0 .eql (.t 5) (ki 4)),o 26 (.mv (.t 27))])
 (.cond (.t 26) (.seq (.ops [o 28 (.mv (.t 1)),o 29 (.bin 0 .eql (.t 28) (ki 2)),o 30 (.mv (.t 29)),⟨(some 31),(.mv (.t 1)),some (30,false)⟩,⟨(some 32),(.bin 0 .geq (.t 31) (ki 6)),some (30,false)⟩,⟨(some 33),(.mv (.t 32)),some (30,false)⟩,⟨(some 34),(.mv (.t 1)),some (33,true)⟩,⟨(some 35),(.bin 0 .leq (.t 34) (ki 12)),some (33,true)⟩,⟨(some 36),(.pick (.t 33) (.t 35) (.k (.c (.bool false)))),some (30,false)⟩,o 37 (.pick (.t 30) (.k (.c (.bool true))) (.t 36)),o 4 (.mv (.t 37))])
 .ret)
 (.seq (.ops [o 39 (.bin 0 .eql (.t 5) (ki 6)),o 38 (.mv (.t 39))])
 (.keep [1,38] (.cond (.t 38) (.seq (.ops [o 40 (.mv (.t 1)),o 41 (.bin 0 .eql (.t 40) (ki 20)),o 4 (.mv (.t 41))])
 .ret)
 .skip)))))))))))))))
 (.keep [1] (.seq (.ops [o 42 (.mv (.t 1)),o 43 (.bin 0 .geq (.t 42) (ki 13)),o 44 (.mv (.t 43)),⟨(some 45),(.mv (.t 1)),some (44,true)⟩,⟨(some 46),(.bin 0 .leq (.t 45) (ki 22)),some (44,true)⟩,o 47 (.pick (.t 44) (.t 46) (.k (.c (.bool false)))),o 4 (.mv (.t 47))])
 .ret)))),
 [.tmp 4]⟩
def F203 : AFun := ⟨2,
 (.seq (.ops [o 4 (.mv (.k (.c (.bool false))))])
 (.seq (.ops [o 6 (.mv (.t 0)),o 7 (.nilck (.t 6)),o 8 (.fa 0 (.t 7)),o 9 (.ld (.t 8)),o 10 (.mv (.t 1)),o 11 (.ixa 6 (.t 9) (.t 10)),o 12 (.ldn 6 (.t 11)),o 5 (.alloc [(.int .i64 0),(.str (bs [])),(.str (bs [])),(.int .i32 0),.nilslice,(.int .i64 0)]),e (.st 6 (.t 5) (.t 12))])
 (.seq (.block 0 (.seq (.ops [o 14 (.fa 0 (.t 5)),o 15 (.ld (.t 14)),o 16 (.bin 0 .eql (.t 15) (ki 7)),o 17 (.mv (.t 16)),⟨(some 18),(.fa 4 (.t 5)),some (17,true)⟩,⟨(some 19),(.ld (.t 18)),some (17,true)⟩,⟨(some 20),(.len 1 (.t 19)),some (17,true)⟩,⟨(some 21),(.bin 0 .eql (.t 20) (ki 2)),some (17,true)⟩,o 22 (.pick (.t 17) (.t 21) (.k (.c (.bool false)))),o 13 (.mv (.t 22))])
 (.keep [0,5,13] (.cond (.t 13) (.seq (.ops [o 4 (.mv (.k (.c (.bool true))))])
 .ret)
 (.seq (.seq (.ops [o 24 (.fa 0 (.t 5)),o 25 (.ld (.t 24)),o 26 (.bin 0 .eql (.t 25) (ki 7)),o 23 (.mv (.t 26))])
 (.cond (.t 23) .skip
 (.ops [o 27 (.fa 0 (.t 5)),o 28 (.ld (.t 27)),o 29 (.bin 0 .eql (.t 28) (ki 8)),o 23 (.mv (.t 29))])))
 (.cond (.t 23) (.seq (.ops [o 30 (.mv (.t 0)),o 31 (.fa 4 (.t 5)),o 32 (.ld (.t 31)),o 33 (.ixa 1 (.t 32) (ki 2)),o 34 (.ld (.t 33)),o 35 (.call 203 [(.t 30),(.t 34)]),o 4 (.mv (.t 35))])
 .ret)
 .skip))))))
 (.keep [] (.seq (.ops [o 4 (.mv (.k (.c (.bool false))))])
 .ret))))),
 [.tmp 4]⟩
def F204 : AFun := ⟨2,
 (.seq (.ops [o 4 (.mv (.k (.c (.int .u32 0)))),o 5 (.mv (.k (.c (.int .u32 0))))])
 (.seq (.ops [o 7 (.mv (.t 0)),o 8 (.convi .u64 (.t 7)),o 9 (.mv (.t 1)),o 10 (.convi .u64 (.t 9)),o 11 (.bin 0 .mul (.t 8) (.t 10)),o 6 (.mv (.t 11))])
 (.seq (.ops [o 12 (.mv (.t 6)),o 13 (.bin 0 .shr (.t 12) (.k (.c (.int .u64 32)))),o 14 (.convi .u32 (.t 13)),o 15 (.mv (.t 6)),o 16 (.convi .u32 (.t 15)),o 4 (.mv (.t 14)),o 5 (.mv (.t 16))])
 .ret))),
 [.tmp 4,.tmp 5]⟩
def F205 : AFun := ⟨2,
 (.seq (.ops [o 4 (.mv (.k (.c (.int .u64 0)))),o 5 (.mv (.k (.c (.int .u64 0))))])
 (.seq (.ops [o 14 (.mv (.t 0)),o 15 (.bin 0 .and (.t 14) (.k (.c (.int .u64 4294967295)))),o 6 (.mv (.t 15))])
 (.seq (.ops [o 16 (.mv (.t 0)),o 17 (.bin 0 .shr (.t 16) (.k (.c (.int .u64 32)))),o 7 (.mv (.t 17))])
 (.seq (.ops [o 18 (.mv (.t 1)),o 19 (.bin 0 .and (.t 18) (.k (.c (.int .u64 4294967295)))),o 8 (.mv (.t 19))])
 (.seq (.ops [o 20 (.mv (.t 1)),o 21 (.bin 0 .shr (.t 20) (.k (.c (.int .u64 32)))),o 9 (.mv (.t 21))])
 (.keep [0,1,6,7,8,9] (.seq (.ops [o 22 (.mv (.t 6)),o 23 (.mv (.t 8)),o 24 (.bin 0 .mul (.t 22) (.t 23)),o 10 (.mv (.t 24))])
 (.seq (.ops [o 25 (.mv (.t 7)),o 26 (.mv (.t 8)),o 27 (.bin 0 .mul (.t 25) (.t 26)),o 28 (.mv (.t 10)),o 29 (.bin 0 .shr (.t 28) (.k (.c (.int .u64 32)))),o 30 (.bin 0 .add (.t 27) (.t 29)),o 11 (.mv (.t 30))])
 (.keep [0,1,6,7,9,11] (.seq (.ops [o 31 (.mv (.t 11)),o 32 (.bin 0 .and (.t 31) (.k (.c (.int .u64 4294967295)))),o 12 (.mv (.t 32))])
 (.seq (.ops [o 33 (.mv (.t 11)),o 34 (.bin 0 .shr (.t 33) (.k (.c (.int .u64 32)))),o 13 (.mv (.t 34))])
 (.seq (.ops [o 35 (.mv (.t 12)),o 36 (.mv (.t 6)),o 37 (.mv (.t 9)),o 38 (.bin 0 .mul (.t 36) (.t 37)),o 39 (.bin 0 .add (.t 35) (.t 38)),o 12 (.mv (.t 39))])
 (.keep [0,1,7,9,12,13] (.seq (.ops [o 40 (.mv (.t 7)),o 41 (.mv (.t 9)),o 42 (.bin 0 .mul (.t 40) (.t 41)),o 43 (.mv (.t 13)),o 44 (.bin 0 .add (.t 42) (.t 43)),o 45 (.mv (.t 12)),o 46 (.bin 0 .shr (.t 45) (.k (.c (.int .u64 32)))),o 47 (.bin 0 .add (.t 44) (.t 46)),o 4 (.mv (.t 47))])
 (.keep [0,1,4] (.seq (.ops [o 48 (.mv (.t 0)),o 49 (.mv (.t 1)),o 50 (.bin 0 .mul (.t 48) (.t 49)),o 5 (.mv (.t 50))])
 .ret)))))))))))))))),
 [.tmp 4,.tmp 5]⟩
def F206 : AFun := ⟨1,
 (.dops [.op 0 (o 1 (.ld (.t 0))),.op 1 (o 2 (.ld (.t 0))),.op 5 (o 6 (.ld (.t 0))),.op 2 (o 3 (.nilck (.t 2))),.op 6 (o 7 (.nilck (.t 6))),.op 3 (o 4 (.fa 9 (.t 3))),.op 7 (o 8 (.fa 9 (.t 7))),.op 4 (o 5 (.ld (.t 4))),.op 8 (o 9 (.ld (.t 8))),.op 9 (o 10 (.len 1 (.t 9))),.op 10 (o 11 (.bin 0 .sub (.t 10) (ki 1))),.op 11 (o 12 (.slc 1 (.t 5) none (some (.t 11)) none)),.op 12 (o 13 (.nilck (.t 1))),.op 13 (o 14 (.fa 9 (.t 13))),.eff 14 (e (.st 1 (.t 14) (.t 12))) []]),
 []⟩
def F207 : AFun := ⟨2,
 (.seq (.ops [o 4 (.alloc [(.int .i64 0),(.str (bs [])),(.str (bs [])),(.int .i32 0),.nilslice,(.int .i64 0)])])
 (.seq (.ops [o 5 (.mv (.t 0)),o 6 (.nilck (.t 5)),o 7 (.fa 0 (.t 6)),o 8 (.fa 0 (.t 7)),o 9 (.fa 0 (.t 8)),o 10 (.ld (.t 9)),o 11 (.mv (.t 1)),o 12 (.ixa 6 (.t 10) (.t 11)),o 13 (.ldn 6 (.t 12)),e (.st 6 (.t 4) (.t 13))])
 .ret)),
 [.celln 4 6]⟩
def F208 : AFun := ⟨2,
 (.seq (.ops [o 4 (.alloc [(.int .i64 0),(.int .i64 0)])])
 (.seq (.seq (.ops [o 8 (.mv (.t 1)),o 9 (.len 1 (.t 8)),o 10 (.mv (ki 0))])
 (.block 0 (.loop [0,4,8,9,10] (.seq (.ops [o 11 (.bin 0 .lss (.t 10) (.t 9))])
 (.seq (.cond (.t 11) .skip
 (.exit 0))
 (.seq (.block 1 (.seq (.ops [o 12 (.ixa 1 (.t 8) (.t 10)),o 13 (.ld (.t 12)),o 6 (.mv (.t 13))])
 (.seq (.ops [o 14 (.mv (.t 0)),o 15 (.mv (.t 6)),o 16 (.call 169 [(.t 14),(.t 15)]),o 7 (.alloc [(.int .i64 0),(.int .i64 0)]),e (.st 2 (.t 7) (.t 16))])
 (.seq (.ops [o 17 (.fa 0 (.t 7)),o 18 (.ld (.t 17)),o 19 (.bin 0 .neq (.t 18) (ki 0))])
 (.keep [0,4,7,8,9,10,19] (.cond (.t 19) (.seq (.ops [o 20 (.ldn 2 (.t 7)),e (.st 2 (.t 4) (.t 20))])
 .ret)
 .skip))))))
 (.ops [o 21 (.bin 0 .add (.t 10) (ki 1)),o 10 (.mv (.t 21))])))))))
 (.seq (.ops [o 22 (.agg [(.int .i64 0),(.int .i64 0)] []),e (.st 2 (.t 4) (.t 22))])
 .ret))),
 [.celln 4 2]⟩
def F209 : AFun := ⟨3,
 (.seq (.ops [o 3 (.box (.t 0)),o 4 (.box (.t 1)),o 6 (.alloc [(.int .i64 0),(.int .i64 0)])])
 (.seq (.dops [.op 0 (o 17 (.ld (.t 3))),.op 1 (o 18 (.ld (.t 4))),.op 3 (o 20 (.ld (.t 3))),.op 4 (o 21 (.mv (.t 2))),.flt 6 (o 7 (.alloc [(.int .i64 0),(.str (bs [])),(.str (bs [])),(.int .i32 0),.nilslice,(.int .i64 0)])) [o 17 (.ld (.t 3)),o 18 (.ld (.t 4)),o 20 (.ld (.t 3))],.flt 7 (o 8 (.alloc [(.int .i64 0),(.str (bs [])),(.str (bs [])),(.int .i32 0),.nilslice,(.int .i64 0)])) [o 17 (.ld (.t 3)),o 18 (.ld (.t 4)),o 20 (.ld (.t 3))],.eff 2 (o 19 (.call 207 [(.t 17),(.t 18)])) [o 20 (.ld (.t 3)),o 7 (.alloc [(.int .i64 0),(.str (bs [])),(.str (bs [])),(.int .i32 0),.nilslice,(.int .i64 0)]),o 8 (.alloc [(.int .i64 0),(.str (bs [])),(.str (bs [])),(.int .i32 0),.nilslice,(.int .i64 0)])],.eff 5 (o 22 (.call 207 [(.t 20),(.t 21)])) [o 7 (.alloc [(.int .i64 0),(.str (bs [])),(.str (bs [])),(.int .i32 0),.nilslice,(.int .i64 0)]),o 8 (.alloc [(.int .i64 0),(.str (bs [])),(.str (bs [])),(.int .i32 0),.nilslice,(.int .i64 0)])],.eff 8 (e (.st 6 (.t 7) (.t 19))) [],.eff 9 (e (.st 6 (.t 8) (.t 22))) []])
 (.keep [2,3,4,6,7,8] (.seq (.ops [o 24 (.fa 1 (.t 8)),o 25 (.ld (.t 24)),o 26 (.call 239 [(.t 25)]),o 23 (.mv (.t 26)),o 27 (.ext 0 (.t 23)),o 28 (.ext 1 (.t 23)),o 9 (.alloc [(.int .i64 0),(.int .i64 0)]),e (.st 2 (.t 9) (.t 27)),o 10 (.mv (.t 28))])
 (.keep [2,3,4,6,7,8,9] (.seq (.dops [.op 0 (o 29 (.ld (.t 3))),.op 4 (o 33 (.ld (.t 4))),.op 5 (o 34 (.ld (.t 3))),.op 10 (o 39 (.ld (.t 4))),.op 11 (o 40 (.mv (.t 2))),.op 12 (o 41 (.ldn 2 (.t 9))),.op 1 (o 30 (.nilck (.t 29))),.op 6 (o 35 (.nilck (.t 34))),.op 2 (o 31 (.fa 10 (.t 30))),.op 7 (o 36 (.fa 0 (.t 35))),.op 3 (o 32 (.ld (.t 31))),.op 8 (o 37 (.fa 2 (.t 36))),.op 9 (o 38 (.ld (.t 37))),.op 13 (o 42 (.ixa 1 (.t 32) (.t 33))),.eff 14 (e (.st 1 (.t 42) (.t 40))) [o 39 (.ld (.t 4)),o 41 (.ldn 2 (.t 9))],.op 15 (o 43 (.ixa 2 (.t 38) (.t 39))),.eff 16 (e (.st 2 (.t 43) (.t 41))) []])
 (.keep [3,4,6,7,8,9] (.seq (.ops [o 44 (.fa 2 (.t 8)),o 45 (.ld (.t 44)),o 46 (.bin 0 .eql (.t 45) (.k (.c (.str (bs [97,116,116,114,105,98,117,116,101]))))),o 47 (.mv (.t 46)),⟨(some 48),(.fa 2 (.t 8)),some (47,false)⟩,⟨(some 49),(.ld (.t 48)),some (47,false)⟩,⟨(some 50),(.bin 0 .eql (.t 49) (.k (.c (.str (bs [118,97,114,121,105,110,103]))))),some (47,false)⟩,o 51 (.pick (.t 47) (.k (.c (.bool true))) (.t 50)),o 11 (.mv (.t 51))])
 (.keep [3,4,6,7,8,9,11] (.seq (.block 0 (.seq (.seq (.ops [o 53 (.fa 0 (.t 9)),o 54 (.ld (.t 53)),o 55 (.bin 0 .eql (.t 54) (ki 0)),o 52 (.mv (.t 55))])
 (.cond (.t 52) .skip
 (.ops [o 56 (.fa 0 (.t 9)),o 57 (.ld (.t 56)),o 58 (.bin 0 .eql (.t 57) (ki 4)),o 59 (.mv (.t 58)),⟨(some 60),(.fa 2 (.t 8)),some (59,true)⟩,⟨(some 61),(.ld (.t 60)),some (59,true)⟩,⟨(some 62),(.bin 0 .neq (.t 61) (.k (.c (.str (bs [117,110,105,102,111,114,109]))))),some (59,true)⟩,o 63 (.pick (.t 59) (.t 62) (.k (.c (.bool false)))),o 52 (.mv (.t 63))])))
 (.keep [3,4,6,7,8,9,11,52] (.cond (.t 52) (.seq (.ops [o 64 (.ld (.t 3)),o 65 (.ld (.t 4)),o 66 (.call 240 [(.t 64),(ki 230),(.t 65)]),e (.st 2 (.t 6) (.t 66))])
 .ret)
 (.seq (.ops [o 68 (.fa 2 (.t 8)),o 69 (.ld (.t 68)),o 70 (.bin 0 .eql (.t 69) (.k (.c (.str (bs [97,116,116,114,105,98,117,116,101]))))),o 71 (.mv (.t 70)),⟨(some 72),(.ld (.t 3)),some (71,true)⟩,⟨(some 73),(.nilck (.t 72)),some (71,true)⟩,⟨(some 74),(.fa 0 (.t 73)),some (71,true)⟩,⟨(some 75),(.fa 1 (.t 74)),some (71,true)⟩,⟨(some 76),(.ld (.t 75)),some (71,true)⟩,⟨(some 77),(.bin 0 .neq (.t 76) (ki 1)),some (71,true)⟩,o 78 (.pick (.t 71) (.t 77) (.k (.c (.bool false)))),o 67 (.mv (.t 78))])
 (.keep [3,4,6,7,8,9,11,67] (.cond (.t 67) (.seq (.ops [o 79 (.ld (.t 3)),o 80 (.ld (.t 4)),o 81 (.call 240 [(.t 79),(ki 241),(.t 80)]),e (.st 2 (.t 6) (.t 81))])
 .ret)
 (.seq (.ops [o 83 (.mv (.t 11)),o 84 (.mv (.t 83)),⟨(some 85),(.fa 0 (.t 9)),some (84,true)⟩,⟨(some 86),(.ld (.t 85)),some (84,true)⟩,⟨(some 87),(.bin 0 .neq (.t 86) (ki 1)),some (84,true)⟩,o 88 (.pick (.t 84) (.t 87) (.k (.c (.bool false)))),o 82 (.mv (.t 88))])
 (.keep [3,4,6,7,8,9,11,82] (.cond (.t 82) (.seq (.ops [o 89 (.ld (.t 3)),o 90 (.ld (.t 4)),o 91 (.call 240 [(.t 89),(ki 230),(.t 90)]),e (.st 2 (.t 6) (.t 91))])
 .ret)
 (.seq (.seq (.ops [o 93 (.mv (.t 11)),o 94 (.mv (.t 93)),⟨(some 95),(.fa 2 (.t 8)),some (94,false)⟩,⟨(some 96),(.ld (.t 95)),some (94,false)⟩,⟨(some 97),(.bin 0 .eql (.t 96) (.k (.c (.str (bs [117,110,105,102,111,114,109]))))),some (94,false)⟩,o 98 (.pick (.t 94) (.k (.c (.bool true))) (.t 97)),o 99 (.mv (.t 98)),⟨(some 100),(.fa 4 (.t 7)),some (99,true)⟩,⟨(some 101),(.ld (.t 100)),some (99,true)⟩,⟨(some 102),(.len 1 (.t 101)),some (99,true)⟩,⟨(some 103),(.bin 0 .gtr (.t 102) (ki 0)),some (99,true)⟩,o 104 (.pick (.t 99) (.t 103) (.k (.c (.bool false)))),o 92 (.mv (.t 104))])
 (.keep [3,4,6,7,8,9,92] (.cond (.t 92) .skip
 (.ops [o 105 (.fa 2 (.t 8)),o 106 (.ld (.t 105)),o 107 (.bin 0 .eql (.t 106) (.k (.c (.str (bs [99,111,110,115,116]))))),o 108 (.mv (.t 107)),⟨(some 109),(.fa 4 (.t 7)),some (108,true)⟩,⟨(some 110),(.ld (.t 109)),some (108,true)⟩,⟨(some 111),(.len 1 (.t 110)),some (108,true)⟩,⟨(some 112),(.bin 0 .eql (.t 111) (ki 0)),some (108,true)⟩,o 113 (.pick (.t 108) (.t 112) (.k (.c (.bool false)))),o 92 (.mv (.t 113))]))))
 (.keep [3,4,6,7,8,9,92] (.cond (.t 92) (.seq (.ops [o 114 (.ld (.t 3)),o 115 (.ld (.t 4)),o 116 (.call 240 [(.t 114),(ki 244),(.t 115)]),e (.st 2 (.t 6) (.t 116))])
 .ret)
 .skip)))))))))))))
 (.seq (.seq (.ops [o 117 (.fa 4 (.t 7)),o 118 (.ld (.t 117)),o 119 (.len 1 (.t 118)),o 120 (.mv (ki 0))])
 (.block 1 (.loop [3,4,6,7,8,9,118,119,120] (.seq (.ops [o 121 (.bin 0 .lss (.t 120) (.t 119))])
 (.seq (.cond (.t 121) .skip
 (.exit 1))
 (.seq (.block 2 (.seq (.ops [o 122 (.ixa 1 (.t 118) (.t 120)),o 123 (.ld (.t 122)),o 13 (.mv (.t 123))])
 (.seq (.seq (.ops [o 124 (.ld (.t 3)),o 125 (.mv (.t 13)),o 126 (.call 169 [(.t 124),(.t 125)]),o 14 (.alloc [(.int .i64 0),(.int .i64 0)]),e (.st 2 (.t 14) (.t 126))])
 (.keep [3,4,6,7,8,9,13,14,118,119,120] (.seq (.ops [o 127 (.fa 0 (.t 14)),o 128 (.ld (.t 127)),o 129 (.bin 0 .neq (.t 128) (ki 0))])
 (.cond (.t 129) (.seq (.ops [o 130 (.ldn 2 (.t 14)),e (.st 2 (.t 6) (.t 130))])
 .ret)
 .skip))))
 (.keep [3,4,6,7,8,9,13,118,119,120] (.seq (.seq (.dops [.op 0 (o 131 (.ld (.t 3))),.op 5 (o 136 (.mv (.t 13))),.op 8 (o 139 (.ldn 2 (.t 9))),.op 1 (o 132 (.nilck (.t 131))),.op 2 (o 133 (.fa 0 (.t 132))),.op 3 (o 134 (.fa 2 (.t 133))),.op 4 (o 135 (.ld (.t 134))),.op 6 (o 137 (.ixa 2 (.t 135) (.t 136))),.op 7 (o 138 (.ldn 2 (.t 137))),.op 9 (o 140 (.eqa true [(.int .i64),(.int .i64)] (.t 138) (.t 139)))])
 (.keep [3,4,6,7,8,9,13,118,119,120,140] (.cond (.t 140) (.seq (.ops [o 141 (.ld (.t 3)),o 142 (.ld (.t 4)),o 143 (.call 240 [(.t 141),(ki 230),(.t 142)]),e (.st 2 (.t 6) (.t 143))])
 .ret)
 .skip)))
 (.keep [3,4,6,7,8,9,13,118,119,120] (.seq (.ops [o 144 (.fa 2 (.t 8)),o 145 (.ld (.t 144)),o 146 (.bin 0 .eql (.t 145) (.k (.c (.str (bs [99,111,110,115,116]))))),o 147 (.mv (.t 146)),⟨(some 148),(.ld (.t 3)),some (147,false)⟩,⟨(some 149),(.nilck (.t 148)),some (147,false)⟩,⟨(some 150),(.fa 9 (.t 149)),some (147,false)⟩,⟨(some 151),(.ld (.t 150)),some (147,false)⟩,⟨(some 152),(.len 1 (.t 151)),some (147,false)⟩,⟨(some 153),(.bin 0 .eql (.t 152) (ki 1)),some (147,false)⟩,o 154 (.pick (.t 147) (.k (.c (.bool true))) (.t 153)),o 155 (.mv (.t 154)),⟨(some 156),(.ld (.t 3)),some (155,true)⟩,⟨(some 157),(.mv (.t 13)),some (155,true)⟩,⟨(some 158),(.call 241 [(.t 156),(.t 157)]),some (155,true)⟩,⟨(some 159),(.un .not (.t 158)),some (155,true)⟩,o 160 (.pick (.t 155) (.t 159) (.k (.c (.bool false))))])
 (.keep [3,4,6,7,8,9,118,119,120,160] (.cond (.t 160) (.seq (.ops [o 161 (.ld (.t 3)),o 162 (.ld (.t 4)),o 163 (.call 240 [(.t 161),(ki 244),(.t 162)]),e (.st 2 (.t 6) (.t 163))])
 .ret)
 .skip)))))))))
 (.ops [o 164 (.bin 0 .add (.t 120) (ki 1)),o 120 (.mv (.t 164))])))))))
 (.keep [3,4,6,7,8] (.seq (.seq (.ops [o 165 (.ld (.t 3)),o 166 (.fa 2 (.t 7)),o 167 (.ld (.t 166)),o 168 (.ld (.t 4)),o 169 (.call 242 [(.t 165),(.t 167),(.t 168)]),o 15 (.alloc [(.int .i64 0),(.int .i64 0)]),e (.st 2 (.t 15) (.t 169))])
 (.seq (.ops [o 170 (.fa 0 (.t 15)),o 171 (.ld (.t 170)),o 172 (.bin 0 .neq (.t 171) (ki 0))])
 (.keep [3,4,6,8,15,172] (.cond (.t 172) (.seq (.ops [o 173 (.ldn 2 (.t 15)),e (.st 2 (.t 6) (.t 173))])
 .ret)
 .skip))))
 (.seq (.ops [o 174 (.mkf 243 [] [(.t 4),(.t 3)]),o 16 (.mv (.t 174))])
 (.seq (.seq (.ops [o 175 (.fa 2 (.t 8)),o 176 (.ld (.t 175))])
 (.block 3 (.seq (.ops [o 178 (.bin 0 .eql (.t 176) (.k (.c (.str (bs [97,116,116,114,105,98,117,116,101]))))),o 177 (.mv (.t 178))])
 (.cond (.t 177) (.seq (.ops [o 179 (.mv (.t 16)),o 180 (.ld (.t 3)),o 181 (.nilck (.t 180)),o 182 (.fa 0 (.t 181)),o 183 (.fa 5 (.t 182)),o 184 (.callv (.t 179) [(.t 183),(ki 8)]),e (.st 2 (.t 6) (.t 184))])
 .ret)
 (.seq (.ops [o 186 (.bin 0 .eql (.t 176) (.k (.c (.str (bs [117,110,105,102,111,114,109]))))),o 185 (.mv (.t 186))])
 (.keep [3,6,16,176,185] (.cond (.t 185) (.seq (.ops [o 187 (.mv (.t 16)),o 188 (.ld (.t 3)),o 189 (.nilck (.t 188)),o 190 (.fa 0 (.t 189)),o 191 (.fa 6 (.t 190)),o 192 (.callv (.t 187) [(.t 191),(ki 32)]),e (.st 2 (.t 6) (.t 192))])
 .ret)
 (.seq (.ops [o 194 (.bin 0 .eql (.t 176) (.k (.c (.str (bs [118,97,114,121,105,110,103]))))),o 193 (.mv (.t 194))])
 (.cond (.t 193) (.seq (.ops [o 195 (.mv (.t 16)),o 196 (.ld (.t 3)),o 197 (.nilck (.t 196)),o 198 (.fa 0 (.t 197)),o 199 (.fa 7 (.t 198)),o 200 (.callv (.t 195) [(.t 199),(ki 4)]),e (.st 2 (.t 6) (.t 200))])
 .ret)
 .skip)))))))))
 (.keep [6] (.seq (.ops [o 201 (.agg [(.int .i64 0),(.int .i64 0)] []),e (.st 2 (.t 6) (.t 201))])
 .ret))))))))))))))))),
 [.celln 6 2]⟩
def F210 : AFun := ⟨2,
 (.seq (.ops [o 2 (.box (.t 0)),o 4 (.alloc [(.int .i64 0),(.int .i64 0)])])
 (.seq (.ops [o 10 (.ld (.t 2)),o 11 (.mv (.t 1)),o 12 (.call 207 [(.t 10),(.t 11)]),o 5 (.alloc [(.int .i64 0),(.str (bs [])),(.str (bs [])),(.int .i32 0),.nilslice,(.int .i64 0)]),e (.st 6 (.t 5) (.t 12))])
 (.seq (.ops [o 13 (.fa 4 (.t 5)),o 14 (.ld (.t 13)),o 15 (.len 1 (.t 14)),o 16 (.bin 0 .sub (.t 15) (ki 1)),o 6 (.alloc [(.int .i64 0)]),e (.st 1 (.t 6) (.t 16))])
 (.keep [1,2,4,5,6] (.seq (.ops [o 18 (.fa 1 (.t 5)),o 19 (.ld (.t 18)),o 20 (.call 239 [(.t 19)]),o 17 (.mv (.t 20)),o 21 (.ext 0 (.t 17)),o 22 (.ext 1 (.t 17)),o 7 (.alloc [(.int .i64 0),(.int .i64 0)]),e (.st 2 (.t 7) (.t 21)),o 8 (.mv (.t 22))])
 (.seq (.dops [.op 0 (o 23 (.ld (.t 2))),.op 5 (o 28 (.mv (.t 1))),.op 6 (o 29 (.ld (.t 2))),.op 7 (o 30 (.ldn 2 (.t 7))),.op 8 (o 31 (.ldn 2 (.t 7))),.op 1 (o 24 (.nilck (.t 23))),.op 2 (o 25 (.fa 0 (.t 24))),.op 3 (o 26 (.fa 2 (.t 25))),.op 4 (o 27 (.ld (.t 26))),.op 9 (o 32 (.ixa 2 (.t 27) (.t 28))),.eff 10 (e (.st 2 (.t 32) (.t 30))) [o 29 (.ld (.t 2)),o 31 (.ldn 2 (.t 7))],.op 11 (o 33 (.nilck (.t 29))),.op 12 (o 34 (.fa 11 (.t 33))),.eff 13 (e (.st 2 (.t 34) (.t 31))) []])
 (.keep [1,2,4,5,6,7] (.seq (.block 0 (.seq (.ops [o 36 (.fa 0 (.t 7)),o 37 (.ld (.t 36)),o 38 (.bin 0 .eql (.t 37) (ki 4)),o 35 (.mv (.t 38))])
 (.cond (.t 35) (.seq (.ops [o 39 (.ld (.t 2)),o 40 (.mv (.t 1)),o 41 (.call 240 [(.t 39),(ki 230),(.t 40)]),e (.st 2 (.t 4) (.t 41))])
 .ret)
 (.seq (.ops [o 43 (.fa 2 (.t 5)),o 44 (.ld (.t 43)),o 45 (.bin 0 .eql (.t 44) (.k (.c (.str (bs [109,97,105,110]))))),o 46 (.mv (.t 45)),⟨(some 47),(.fa 0 (.t 7)),some (46,true)⟩,⟨(some 48),(.ld (.t 47)),some (46,true)⟩,⟨(some 49),(.bin 0 .neq (.t 48) (ki 0)),some (46,true)⟩,⟨(some 50),(.mv (.t 49)),some (46,true)⟩,⟨(some 51),(.ld (.t 6)),some (50,false)⟩,⟨(some 52),(.bin 0 .gtr (.t 51) (ki 0)),some (50,false)⟩,⟨(some 53),(.pick (.t 50) (.k (.c (.bool true))) (.t 52)),some (46,true)⟩,o 54 (.pick (.t 46) (.t 53) (.k (.c (.bool false)))),o 42 (.mv (.t 54))])
 (.keep [1,2,4,5,6,42] (.cond (.t 42) (.seq (.ops [o 55 (.ld (.t 2)),o 56 (.mv (.t 1)),o 57 (.call 240 [(.t 55),(ki 243),(.t 56)]),e (.st 2 (.t 4) (.t 57))])
 .ret)
 .skip))))))
 (.seq (.ops [o 58 (.ld (.t 2)),o 59 (.mkf 245 [] [(.t 5),(.t 6),(.t 2)]),o 60 (.call 167 [(.t 58),(.t 59)]),o 9 (.alloc [(.int .i64 0),(.int .i64 0)]),e (.st 2 (.t 9) (.t 60))])
 (.keep [1,2,4,5,9] (.seq (.seq (.ops [o 61 (.fa 0 (.t 9)),o 62 (.ld (.t 61)),o 63 (.bin 0 .eql (.t 62) (ki 0))])
 (.cond (.t 63) (.ops [o 64 (.ld (.t 2)),o 65 (.fa 2 (.t 5)),o 66 (.ld (.t 65)),o 67 (.mv (.t 1)),o 68 (.call 242 [(.t 64),(.t 66),(.t 67)]),e (.st 2 (.t 9) (.t 68))])
 .skip))
 (.seq (.seq (.ops [o 69 (.fa 0 (.t 9)),o 70 (.ld (.t 69)),o 71 (.bin 0 .eql (.t 70) (ki 0)),o 72 (.mv (.t 71)),⟨(some 73),(.fa 2 (.t 5)),some (72,true)⟩,⟨(some 74),(.ld (.t 73)),some (72,true)⟩,⟨(some 75),(.bin 0 .eql (.t 74) (.k (.c (.str (bs [109,97,105,110]))))),some (72,true)⟩,o 76 (.pick (.t 72) (.t 75) (.k (.c (.bool false))))])
 (.keep [1,2,4,9,76] (.cond (.t 76) (.ops [o 77 (.ld (.t 2)),o 78 (.mv (.t 1)),o 79 (.nilck (.t 77)),o 80 (.fa 0 (.t 79)),o 81 (.fa 8 (.t 80)),e (.st 1 (.t 81) (.t 78))])
 .skip)))
 (.seq (.ops [o 82 (.ldn 2 (.t 9)),e (.st 2 (.t 4) (.t 82))])
 .ret))))))))))))),
 [.celln 4 2]⟩
def F211 : AFun := ⟨2,
 (.seq (.ops [o 2 (.alloc [(.int .i64 0),(.int .i64 0)])])
 (.seq (.ops [o 3 (.ld (.t 0)),o 4 (.fa 4 (.t 1)),o 5 (.ld (.t 4)),o 6 (.call 208 [(.t 3),(.t 5)]),e (.st 2 (.t 2) (.t 6))])
 .ret)),
 [.celln 2 2]⟩
def F212 : AFun := ⟨2,
 (.seq (.ops [o 2 (.box (.t 0)),o 3 (.box (.t 1)),o 4 (.alloc [(.int .i64 0),(.int .i64 0)])])
 (.seq (.ops [o 12 (.ld (.t 2)),o 13 (.ld (.t 3)),o 14 (.call 207 [(.t 12),(.t 13)]),o 5 (.alloc [(.int .i64 0),(.str (bs [])),(.str (bs [])),(.int .i32 0),.nilslice,(.int .i64 0)]),e (.st 6 (.t 5) (.t 14))])
 (.seq (.seq (.ops [o 15 (.fa 0 (.t 5)),o 16 (.ld (.t 15))])
 (.block 0 (.seq (.ops [o 18 (.bin 0 .eql (.t 16) (ki 7)),o 17 (.mv (.t 18))])
 (.cond (.t 17) (.seq (.dops [.op 0 (o 19 (.ld (.t 2))),.op 1 (o 20 (.fa 4 (.t 5))),.flt 6 (o 6 (.alloc [(.int .i64 0),(.int .i64 0)])) [o 19 (.ld (.t 2))],.op 2 (o 21 (.ld (.t 20))),.op 3 (o 22 (.ixa 1 (.t 21) (ki 0))),.op 4 (o 23 (.ld (.t 22))),.eff 5 (o 24 (.call 169 [(.t 19),(.t 23)])) [o 6 (.alloc [(.int .i64 0),(.int .i64 0)])],.eff 7 (e (.st 2 (.t 6) (.t 24))) []])
 (.keep [2,3,4,5,6] (.seq (.seq (.ops [o 25 (.fa 0 (.t 6)),o 26 (.ld (.t 25)),o 27 (.bin 0 .eql (.t 26) (ki 0))])
 (.cond (.t 27) (.dops [.op 0 (o 28 (.ld (.t 2))),.op 1 (o 29 (.ld (.t 2))),.op 6 (o 34 (.fa 4 (.t 5))),.op 14 (o 42 (.ld (.t 3))),.op 2 (o 30 (.nilck (.t 29))),.op 7 (o 35 (.ld (.t 34))),.op 3 (o 31 (.fa 0 (.t 30))),.op 8 (o 36 (.ixa 1 (.t 35) (ki 0))),.op 4 (o 32 (.fa 2 (.t 31))),.op 9 (o 37 (.ld (.t 36))),.op 5 (o 33 (.ld (.t 32))),.op 10 (o 38 (.ixa 2 (.t 33) (.t 37))),.op 11 (o 39 (.ldn 2 (.t 38))),.eff 12 (o 40 (.call 18 [(ki 3)])) [o 28 (.ld (.t 2)),o 29 (.ld (.t 2)),o 42 (.ld (.t 3)),o 35 (.ld (.t 34)),o 37 (.ld (.t 36)),o 33 (.ld (.t 32)),o 39 (.ldn 2 (.t 38))],.op 13 (o 41 (.eqa false [(.int .i64),(.int .i64)] (.t 39) (.t 40))),.eff 15 (o 43 (.call 244 [(.t 28),(.t 41),(ki 230),(.t 42)])) [],.eff 16 (e (.st 2 (.t 6) (.t 43))) []])
 .skip))
 (.keep [2,4,5,6] (.seq (.seq (.ops [o 44 (.fa 4 (.t 5)),o 45 (.ld (.t 44)),o 46 (.slc 1 (.t 45) (some (ki 1)) none none),o 47 (.len 1 (.t 46)),o 48 (.mv (ki 0))])
 (.block 1 (.loop [2,4,6,46,47,48] (.seq (.ops [o 49 (.bin 0 .lss (.t 48) (.t 47))])
 (.seq (.cond (.t 49) .skip
 (.exit 1))
 (.seq (.block 2 (.seq (.ops [o 50 (.ixa 1 (.t 46) (.t 48)),o 51 (.ld (.t 50)),o 8 (.mv (.t 51))])
 (.seq (.ops [o 52 (.fa 0 (.t 6)),o 53 (.ld (.t 52)),o 54 (.bin 0 .eql (.t 53) (ki 0))])
 (.cond (.t 54) (.ops [o 55 (.ld (.t 2)),o 56 (.mv (.t 8)),o 57 (.call 118 [(.t 55),(.t 56)]),e (.st 2 (.t 6) (.t 57))])
 .skip))))
 (.keep [2,4,6,46,47,48] (.ops [o 58 (.bin 0 .add (.t 48) (ki 1)),o 48 (.mv (.t 58))]))))))))
 (.seq (.ops [o 59 (.ldn 2 (.t 6)),e (.st 2 (.t 4) (.t 59))])
 .ret))))))
 (.seq (.ops [o 61 (.bin 0 .eql (.t 16) (ki 8)),o 60 (.mv (.t 61))])
 (.keep [2,3,4,5,16,60] (.cond (.t 60) (.seq (.dops [.op 0 (o 62 (.fa 4 (.t 5))),.op 4 (o 66 (.fa 4 (.t 5))),.op 1 (o 63 (.ld (.t 62))),.op 5 (o 67 (.ld (.t 66))),.op 2 (o 64 (.ixa 1 (.t 63) (ki 0))),.op 6 (o 68 (.ixa 1 (.t 67) (ki 1))),.op 3 (o 65 (.ld (.t 64))),.op 7 (o 69 (.ld (.t 68))),.op 8 (o 9 (.mv (.t 65))),.op 9 (o 10 (.mv (.t 69)))])
 (.keep [2,3,4,5,9,10] (.seq (.ops [o 70 (.call 18 [(ki 2)]),o 11 (.alloc [(.int .i64 0),(.int .i64 0)]),e (.st 2 (.t 11) (.t 70))])
 (.seq (.dops [.op 0 (o 71 (.ld (.t 2))),.op 5 (o 76 (.ld (.t 3))),.op 6 (o 77 (.ld (.t 2))),.op 11 (o 82 (.mv (.t 9))),.op 12 (o 83 (.ld (.t 2))),.op 17 (o 88 (.mv (.t 10))),.op 18 (o 89 (.ldn 2 (.t 11))),.op 19 (o 90 (.ldn 2 (.t 11))),.op 20 (o 91 (.ldn 2 (.t 11))),.op 1 (o 72 (.nilck (.t 71))),.op 7 (o 78 (.nilck (.t 77))),.op 13 (o 84 (.nilck (.t 83))),.op 2 (o 73 (.fa 0 (.t 72))),.op 8 (o 79 (.fa 0 (.t 78))),.op 14 (o 85 (.fa 0 (.t 84))),.op 3 (o 74 (.fa 2 (.t 73))),.op 9 (o 80 (.fa 2 (.t 79))),.op 15 (o 86 (.fa 2 (.t 85))),.op 4 (o 75 (.ld (.t 74))),.op 10 (o 81 (.ld (.t 80))),.op 16 (o 87 (.ld (.t 86))),.op 21 (o 92 (.ixa 2 (.t 75) (.t 76))),.eff 22 (e (.st 2 (.t 92) (.t 89))) [o 90 (.ldn 2 (.t 11)),o 91 (.ldn 2 (.t 11))],.op 23 (o 93 (.ixa 2 (.t 81) (.t 82))),.eff 24 (e (.st 2 (.t 93) (.t 90))) [o 91 (.ldn 2 (.t 11))],.op 25 (o 94 (.ixa 2 (.t 87) (.t 88))),.eff 26 (e (.st 2 (.t 94) (.t 91))) []])
 (.keep [2,3,4,5,9,10] (.seq (.seq (.dops [.op 0 (o 95 (.ld (.t 2))),.op 1 (o 96 (.mv (.t 10))),.op 5 (o 100 (.ld (.t 2))),.op 6 (o 101 (.mv (.t 9))),.eff 2 (o 97 (.call 207 [(.t 95),(.t 96)])) [o 100 (.ld (.t 2))],.op 3 (o 98 (.fv 3 none (.t 97))),.eff 4 (o 99 (.call 176 [(.t 98)])) [o 100 (.ld (.t 2))],.eff 7 (o 102 (.call 207 [(.t 100),(.t 101)])) [],.op 8 (o 103 (.fv 3 none (.t 102))),.eff 9 (o 104 (.call 176 [(.t 103)])) [],.op 10 (o 105 (.bin 0 .sub (.t 99) (.t 104))),.op 11 (o 106 (.bin 0 .gtr (.t 105) (ki 64)))])
 (.keep [2,3,4,5,106] (.cond (.t 106) (.seq (.ops [o 107 (.ld (.t 2)),o 108 (.ld (.t 3)),o 109 (.call 240 [(.t 107),(ki 242),(.t 108)]),e (.st 2 (.t 4) (.t 109))])
 .ret)
 .skip)))
 (.seq (.ops [o 110 (.ld (.t 2)),o 111 (.mkf 246 [] [(.t 2),(.t 5),(.t 3)]),o 112 (.call 167 [(.t 110),(.t 111)]),e (.st 2 (.t 4) (.t 112))])
 .ret)))))))
 (.seq (.ops [o 114 (.bin 0 .eql (.t 16) (ki 9)),o 113 (.mv (.t 114))])
 (.cond (.t 113) (.seq (.seq (.ops [o 115 (.fa 4 (.t 5)),o 116 (.ld (.t 115)),o 117 (.len 1 (.t 116)),o 118 (.bin 0 .eql (.t 117) (ki 0))])
 (.cond (.t 118) (.seq (.dops [.op 0 (o 119 (.ld (.t 2))),.op 1 (o 120 (.ld (.t 2))),.op 5 (o 124 (.agg [(.int .i64 0),(.int .i64 0)] [])),.op 7 (o 126 (.ld (.t 3))),.op 2 (o 121 (.nilck (.t 120))),.op 3 (o 122 (.fa 11 (.t 121))),.op 4 (o 123 (.ldn 2 (.t 122))),.op 6 (o 125 (.eqa false [(.int .i64),(.int .i64)] (.t 123) (.t 124))),.eff 8 (o 127 (.call 244 [(.t 119),(.t 125),(ki 230),(.t 126)])) [],.eff 9 (e (.st 2 (.t 4) (.t 127))) []])
 .ret)
 .skip))
 (.keep [2,3,4,5] (.seq (.ops [o 128 (.mkf 250 [] [(.t 2),(.t 5)]),o 129 (.mkf 251 [] [(.t 2),(.t 5),(.t 3)]),o 130 (.mks [.nilfn] 2 [(0,1,(.t 128)),(1,1,(.t 129))]),o 131 (.call 247 [(.t 130)]),e (.st 2 (.t 4) (.t 131))])
 .ret)))
 (.seq (.ops [o 133 (.bin 0 .eql (.t 16) (ki 10)),o 132 (.mv (.t 133))])
 (.cond (.t 132) (.seq (.dops [.op 0 (o 134 (.ld (.t 2))),.op 1 (o 135 (.ld (.t 2))),.op 7 (o 141 (.ld (.t 3))),.op 2 (o 136 (.nilck (.t 135))),.op 3 (o 137 (.fa 0 (.t 136))),.op 4 (o 138 (.fa 1 (.t 137))),.op 5 (o 139 (.ld (.t 138))),.op 6 (o 140 (.bin 0 .eql (.t 139) (ki 2))),.eff 8 (o 142 (.call 244 [(.t 134),(.t 140),(ki 241),(.t 141)])) [],.eff 9 (e (.st 2 (.t 4) (.t 142))) []])
 .ret)
 (.seq (.ops [o 144 (.bin 0 .eql (.t 16) (ki 11)),o 143 (.mv (.t 144))])
 (.cond (.t 143) (.seq (.dops [.op 0 (o 145 (.ld (.t 2))),.op 1 (o 146 (.fa 4 (.t 5))),.op 2 (o 147 (.ld (.t 146))),.op 3 (o 148 (.ixa 1 (.t 147) (ki 0))),.op 4 (o 149 (.ld (.t 148))),.eff 5 (o 150 (.call 169 [(.t 145),(.t 149)])) [],.eff 6 (e (.st 2 (.t 4) (.t 150))) []])
 .ret)
 .skip)))))))))))))
 (.keep [4] (.seq (.ops [o 151 (.agg [(.int .i64 0),(.int .i64 0)] []),e (.st 2 (.t 4) (.t 151))])
 .ret))))),
 [.celln 4 2]⟩
def F213 : AFun := ⟨2,
 (.seq (.ops [o 4 (.alloc [(.int .i64 0),(.int .i64 0)])])
 (.seq (.ops [o 21 (.mv (.t 0)),o 22 (.mv (.t 1)),o 23 (.call 207 [(.t 21),(.t 22)]),o 5 (.alloc [(.int .i64 0),(.str (bs [])),(.str (bs [])),(.int .i32 0),.nilslice,(.int .i64 0)]),e (.st 6 (.t 5) (.t 23))])
 (.seq (.seq (.ops [o 24 (.mv (.t 0)),o 25 (.fa 4 (.t 5)),o 26 (.ld (.t 25)),o 27 (.call 208 [(.t 24),(.t 26)]),o 6 (.alloc [(.int .i64 0),(.int .i64 0)]),e (.st 2 (.t 6) (.t 27))])
 (.seq (.ops [o 28 (.fa 0 (.t 6)),o 29 (.ld (.t 28)),o 30 (.bin 0 .neq (.t 29) (ki 0))])
 (.keep [0,1,4,5,6,30] (.cond (.t 30) (.seq (.ops [o 31 (.ldn 2 (.t 6)),e (.st 2 (.t 4) (.t 31))])
 .ret)
 .skip))))
 (.seq (.ops [o 7 (.mv (.k (.c .nilslice)))])
 (.seq (.seq (.ops [o 32 (.fa 4 (.t 5)),o 33 (.ld (.t 32)),o 34 (.len 1 (.t 33)),o 35 (.mv (ki 0))])
 (.block 0 (.loop [0,1,4,5,7,33,34,35] (.seq (.ops [o 36 (.bin 0 .lss (.t 35) (.t 34))])
 (.seq (.cond (.t 36) .skip
 (.exit 0))
 (.seq (.block 1 (.seq (.ops [o 37 (.ixa 1 (.t 33) (.t 35)),o 38 (.ld (.t 37)),o 9 (.mv (.t 38))])
 (.ops [o 39 (.mv (.t 7)),o 40 (.mv (.t 0)),o 41 (.nilck (.t 40)),o 42 (.fa 0 (.t 41)),o 43 (.fa 2 (.t 42)),o 44 (.ld (.t 43)),o 45 (.mv (.t 9)),o 46 (.ixa 2 (.t 44) (.t 45)),o 47 (.ldn 2 (.t 46)),o 48 (.mks [(.int .i64 0),(.int .i64 0)] 1 [(0,2,(.t 47))]),o 49 (.app 2 16 (.t 39) (.t 48)),o 7 (.mv (.t 49))])))
 (.keep [0,1,4,5,7,33,34,35] (.ops [o 50 (.bin 0 .add (.t 35) (ki 1)),o 35 (.mv (.t 50))]))))))))
 (.seq (.seq (.ops [o 51 (.fa 0 (.t 5)),o 52 (.ld (.t 51))])
 (.block 2 (.seq (.ops [o 54 (.bin 0 .eql (.t 52) (ki 13)),o 53 (.mv (.t 54))])
 (.cond (.t 53) (.seq (.seq (.ops [o 55 (.mv (.t 0)),o 56 (.fa 4 (.t 5)),o 57 (.ld (.t 56)),o 58 (.ixa 1 (.t 57) (ki 0)),o 59 (.ld (.t 58)),o 60 (.call 252 [(.t 55),(.t 59)]),o 61 (.un .not (.t 60))])
 (.keep [0,1,4,5,7,61] (.cond (.t 61) (.seq (.ops [o 62 (.mv (.t 0)),o 63 (.mv (.t 1)),o 64 (.call 240 [(.t 62),(ki 241),(.t 63)]),e (.st 2 (.t 4) (.t 64))])
 .ret)
 .skip)))
 (.seq (.dops [.op 0 (o 66 (.fa 2 (.t 5))),.op 2 (o 68 (.mv (.t 7))),.op 5 (o 71 (.mv (.t 7))),.flt 12 (o 10 (.alloc [(.int .i64 0),(.int .i64 0)])) [],.op 1 (o 67 (.ld (.t 66))),.op 3 (o 69 (.ixa 2 (.t 68) (ki 0))),.op 6 (o 72 (.ixa 2 (.t 71) (ki 1))),.op 4 (o 70 (.ldn 2 (.t 69))),.op 7 (o 73 (.ldn 2 (.t 72))),.eff 8 (o 74 (.call 253 [(.t 67),(.t 70),(.t 73)])) [o 10 (.alloc [(.int .i64 0),(.int .i64 0)])],.op 9 (o 65 (.mv (.t 74))),.op 10 (o 75 (.ext 0 (.t 65))),.op 11 (o 76 (.ext 1 (.t 65))),.eff 13 (e (.st 2 (.t 10) (.t 75))) [],.op 14 (o 11 (.mv (.t 76)))])
 (.keep [0,1,4,10,11] (.seq (.ops [o 77 (.mv (.t 0)),o 78 (.mv (.t 1)),o 79 (.ldn 2 (.t 10)),o 80 (.mv (.t 11)),o 81 (.call 254 [(.t 77),(.t 78),(.t 79),(.t 80)]),e (.st 2 (.t 4) (.t 81))])
 .ret))))
 (.seq (.ops [o 83 (.bin 0 .eql (.t 52) (ki 14)),o 82 (.mv (.t 83))])
 (.keep [0,1,4,5,7,52,82] (.cond (.t 82) (.seq (.dops [.op 0 (o 85 (.mv (.t 7))),.op 3 (o 88 (.mv (.t 7))),.op 6 (o 91 (.mv (.t 7))),.flt 13 (o 12 (.alloc [(.int .i64 0),(.int .i64 0)])) [],.op 1 (o 86 (.ixa 2 (.t 85) (ki 0))),.op 4 (o 89 (.ixa 2 (.t 88) (ki 1))),.op 7 (o 92 (.ixa 2 (.t 91) (ki 2))),.op 2 (o 87 (.ldn 2 (.t 86))),.op 5 (o 90 (.ldn 2 (.t 89))),.op 8 (o 93 (.ldn 2 (.t 92))),.eff 9 (o 94 (.call 255 [(.t 87),(.t 90),(.t 93)])) [o 12 (.alloc [(.int .i64 0),(.int .i64 0)])],.op 10 (o 84 (.mv (.t 94))),.op 11 (o 95 (.ext 0 (.t 84))),.op 12 (o 96 (.ext 1 (.t 84))),.eff 14 (e (.st 2 (.t 12) (.t 95))) [],.op 15 (o 13 (.mv (.t 96)))])
 (.keep [0,1,4,12,13] (.seq (.ops [o 97 (.mv (.t 0)),o 98 (.mv (.t 1)),o 99 (.ldn 2 (.t 12)),o 100 (.mv (.t 13)),o 101 (.call 254 [(.t 97),(.t 98),(.t 99),(.t 100)]),e (.st 2 (.t 4) (.t 101))])
 .ret)))
 (.seq (.ops [o 103 (.bin 0 .eql (.t 52) (ki 15)),o 102 (.mv (.t 103))])
 (.cond (.t 102) (.seq (.dops [.op 0 (o 105 (.fa 2 (.t 5))),.op 2 (o 107 (.mv (.t 7))),.op 5 (o 110 (.mv (.t 7))),.flt 12 (o 14 (.alloc [(.int .i64 0),(.int .i64 0)])) [],.op 1 (o 106 (.ld (.t 105))),.op 3 (o 108 (.ixa 2 (.t 107) (ki 0))),.op 6 (o 111 (.ixa 2 (.t 110) (ki 1))),.op 4 (o 109 (.ldn 2 (.t 108))),.op 7 (o 112 (.ldn 2 (.t 111))),.eff 8 (o 113 (.call 256 [(.t 106),(.t 109),(.t 112)])) [o 14 (.alloc [(.int .i64 0),(.int .i64 0)])],.op 9 (o 104 (.mv (.t 113))),.op 10 (o 114 (.ext 0 (.t 104))),.op 11 (o 115 (.ext 1 (.t 104))),.eff 13 (e (.st 2 (.t 14) (.t 114))) [],.op 14 (o 15 (.mv (.t 115)))])
 (.keep [0,1,4,14,15] (.seq (.ops [o 116 (.mv (.t 0)),o 117 (.mv (.t 1)),o 118 (.ldn 2 (.t 14)),o 119 (.mv (.t 15)),o 120 (.call 254 [(.t 116),(.t 117),(.t 118),(.t 119)]),e (.st 2 (.t 4) (.t 120))])
 .ret)))
 (.seq (.ops [o 122 (.bin 0 .eql (.t 52) (ki 16)),o 121 (.mv (.t 122))])
 (.cond (.t 121) (.seq (.dops [.op 0 (o 124 (.fa 2 (.t 5))),.op 2 (o 126 (.mv (.t 7))),.flt 9 (o 16 (.alloc [(.int .i64 0),(.int .i64 0)])) [],.op 1 (o 125 (.ld (.t 124))),.op 3 (o 127 (.ixa 2 (.t 126) (ki 0))),.op 4 (o 128 (.ldn 2 (.t 127))),.eff 5 (o 129 (.call 257 [(.t 125),(.t 128)])) [o 16 (.alloc [(.int .i64 0),(.int .i64 0)])],.op 6 (o 123 (.mv (.t 129))),.op 7 (o 130 (.ext 0 (.t 123))),.op 8 (o 131 (.ext 1 (.t 123))),.eff 10 (e (.st 2 (.t 16) (.t 130))) [],.op 11 (o 17 (.mv (.t 131)))])
 (.keep [0,1,4,16,17] (.seq (.ops [o 132 (.mv (.t 0)),o 133 (.mv (.t 1)),o 134 (.ldn 2 (.t 16)),o 135 (.mv (.t 17)),o 136 (.call 254 [(.t 132),(.t 133),(.t 134),(.t 135)]),e (.st 2 (.t 4) (.t 136))])
 .ret)))
 (.seq (.ops [o 138 (.bin 0 .eql (.t 52) (ki 18)),o 137 (.mv (.t 138))])
 (.cond (.t 137) (.seq (.seq (.ops [o 139 (.mv (.t 7)),o 140 (.ixa 2 (.t 139) (ki 0)),o 141 (.fa 0 (.t 140)),o 142 (.ld (.t 141)),o 143 (.bin 0 .eql (.t 142) (ki 0)),o 144 (.mv (.t 143)),⟨(some 145),(.mv (.t 7)),some (144,false)⟩,⟨(some 146),(.ixa 2 (.t 145) (ki 0)),some (144,false)⟩,⟨(some 147),(.fa 0 (.t 146)),some (144,false)⟩,⟨(some 148),(.ld (.t 147)),some (144,false)⟩,⟨(some 149),(.bin 0 .eql (.t 148) (ki 4)),some (144,false)⟩,o 150 (.pick (.t 144) (.k (.c (.bool true))) (.t 149))])
 (.keep [0,1,4,5,7,150] (.cond (.t 150) (.seq (.ops [o 151 (.mv (.t 0)),o 152 (.mv (.t 1)),o 153 (.call 240 [(.t 151),(ki 230),(.t 152)]),e (.st 2 (.t 4) (.t 153))])
 .ret)
 .skip)))
 (.seq (.dops [.op 0 (o 155 (.mv (.t 7))),.op 3 (o 158 (.fa 2 (.t 5))),.flt 10 (o 18 (.alloc [(.int .i64 0),(.int .i64 0)])) [],.op 1 (o 156 (.ixa 2 (.t 155) (ki 0))),.op 4 (o 159 (.ld (.t 158))),.op 2 (o 157 (.ldn 2 (.t 156))),.eff 5 (o 160 (.call 181 [(.t 157),(.t 159)])) [o 18 (.alloc [(.int .i64 0),(.int .i64 0)])],.op 6 (o 154 (.mv (.t 160))),.op 7 (o 161 (.ext 0 (.t 154))),.op 8 (o 162 (.ext 1 (.t 154))),.op 9 (o 163 (.ext 2 (.t 154))),.eff 11 (e (.st 2 (.t 18) (.t 161))) [],.op 12 (o 19 (.mv (.t 162))),.op 13 (o 20 (.mv (.t 163)))])
 (.keep [0,1,4,18,20] (.seq (.seq (.ops [o 164 (.mv (.t 20)),o 165 (.bin 0 .neq (.t 164) (ki 0))])
 (.cond (.t 165) (.seq (.ops [o 166 (.mv (.t 0)),o 167 (.mv (.t 1)),o 168 (.call 240 [(.t 166),(ki 231),(.t 167)]),e (.st 2 (.t 4) (.t 168))])
 .ret)
 .skip))
 (.dops [.op 0 (o 169 (.mv (.t 0))),.op 5 (o 174 (.mv (.t 1))),.op 6 (o 175 (.ldn 2 (.t 18))),.op 1 (o 170 (.nilck (.t 169))),.op 2 (o 171 (.fa 0 (.t 170))),.op 3 (o 172 (.fa 2 (.t 171))),.op 4 (o 173 (.ld (.t 172))),.op 7 (o 176 (.ixa 2 (.t 173) (.t 174))),.eff 8 (e (.st 2 (.t 176) (.t 175))) []])))))
 (.seq (.ops [o 178 (.bin 0 .eql (.t 52) (ki 17)),o 177 (.mv (.t 178))])
 (.keep [0,1,4,7,52,177] (.cond (.t 177) (.seq (.ops [o 179 (.mv (.t 0)),o 180 (.mv (.t 1)),o 181 (.mv (.t 7)),o 182 (.call 258 [(.t 179),(.t 180),(.t 181)]),e (.st 2 (.t 4) (.t 182))])
 .ret)
 (.seq (.ops [o 184 (.bin 0 .eql (.t 52) (ki 19)),o 183 (.mv (.t 184))])
 (.cond (.t 183) (.seq (.ops [o 185 (.mv (.t 0)),o 186 (.mv (.t 1)),o 187 (.call 259 [(.t 185),(.t 186)]),e (.st 2 (.t 4) (.t 187))])
 .ret)
 (.seq (.ops [o 189 (.bin 0 .eql (.t 52) (ki 20)),o 188 (.mv (.t 189))])
 (.cond (.t 188) (.dops [.op 0 (o 190 (.mv (.t 0))),.op 5 (o 195 (.mv (.t 1))),.op 1 (o 191 (.nilck (.t 190))),.op 2 (o 192 (.fa 0 (.t 191))),.op 3 (o 193 (.fa 2 (.t 192))),.op 4 (o 194 (.ld (.t 193))),.eff 6 (o 196 (.call 18 [(ki 2)])) [o 194 (.ld (.t 193))],.op 7 (o 197 (.ixa 2 (.t 194) (.t 195))),.eff 8 (e (.st 2 (.t 197) (.t 196))) []])
 (.seq (.ops [o 199 (.bin 0 .eql (.t 52) (ki 21)),o 198 (.mv (.t 199))])
 (.cond (.t 198) (.dops [.op 0 (o 200 (.mv (.t 0))),.op 5 (o 205 (.mv (.t 1))),.op 1 (o 201 (.nilck (.t 200))),.op 2 (o 202 (.fa 0 (.t 201))),.op 3 (o 203 (.fa 2 (.t 202))),.op 4 (o 204 (.ld (.t 203))),.eff 6 (o 206 (.call 18 [(ki 1)])) [o 204 (.ld (.t 203))],.op 7 (o 207 (.ixa 2 (.t 204) (.t 205))),.eff 8 (e (.st 2 (.t 207) (.t 206))) []])
 (.seq (.ops [o 209 (.bin 0 .eql (.t 52) (ki 22)),o 208 (.mv (.t 209))])
 (.cond (.t 208) (.dops [.op 0 (o 210 (.mv (.t 0))),.op 5 (o 215 (.mv (.t 1))),.op 1 (o 211 (.nilck (.t 210))),.op 2 (o 212 (.fa 0 (.t 211))),.op 3 (o 213 (.fa 2 (.t 212))),.op 4 (o 214 (.ld (.t 213))),.eff 6 (o 216 (.call 18 [(ki 3)])) [o 214 (.ld (.t 213))],.op 7 (o 217 (.ixa 2 (.t 214) (.t 215))),.eff 8 (e (.st 2 (.t 217) (.t 216))) []])
 .skip))))))))))))))))))))))))
 (.keep [4] (.seq (.ops [o 218 (.agg [(.int .i64 0),(.int .i64 0)] []),e (.st 2 (.t 4) (.t 218))])
 .ret)))))))),
 [.celln 4 2]⟩
def F214 : AFun := ⟨2,
 (.seq (.ops [o 2 (.box (.t 0)),o 3 (.box (.t 1)),o 4 (.mv (.k (.c (.bool false))))])
 (.seq (.ops [o 5 (.fa 0 (.t 2)),o 6 (.ld (.t 5)),o 7 (.fa 0 (.t 3)),o 8 (.ld (.t 7)),o 9 (.bin 0 .eql (.t 6) (.t 8)),o 10 (.mv (.t 9)),⟨(some 11),(.fa 1 (.t 2)),some (10,true)⟩,⟨(some 12),(.ld (.t 11)),some (10,true)⟩,⟨(some 13),(.fa 1 (.t 3)),some (10,true)⟩,⟨(some 14),(.ld (.t 13)),some (10,true)⟩,⟨(some 15),(.bin 0 .eql (.t 12) (.t 14)),some (10,true)⟩,o 16 (.pick (.t 10) (.t 15) (.k (.c (.bool false)))),o 17 (.mv (.t 16)),⟨(some 18),(.fa 2 (.t 2)),some (17,true)⟩,⟨(some 19),(.ld (.t 18)),some (17,true)⟩,⟨(some 20),(.fa 2 (.t 3)),some (17,true)⟩,⟨(some 21),(.ld (.t 20)),some (17,true)⟩,⟨(some 22),(.bin 0 .eql (.t 19) (.t 21)),some (17,true)⟩,o 23 (.pick (.t 17) (.t 22) (.k (.c (.bool false)))),o 24 (.mv (.t 23)),⟨(some 25),(.fa 3 (.t 2)),some (24,true)⟩,⟨(some 26),(.ld (.t 25)),some (24,true)⟩,⟨(some 27),(.fa 3 (.t 3)),some (24,true)⟩,⟨(some 28),(.ld (.t 27)),some (24,true)⟩,⟨(some 29),(.bin 0 .eql (.t 26) (.t 28)),some (24,true)⟩,o 30 (.pick (.t 24) (.t 29) (.k (.c (.bool false)))),o 31 (.mv (.t 30)),⟨(some 32),(.fa 4 (.t 2)),some (31,true)⟩,⟨(some 33),(.ld (.t 32)),some (31,true)⟩,⟨(some 34),(.fa 4 (.t 3)),some (31,true)⟩,⟨(some 35),(.ld (.t 34)),some (31,true)⟩,⟨(some 36),(.call 174 [(.t 33),(.t 35)]),some (31,true)⟩,o 37 (.pick (.t 31) (.t 36) (.k (.c (.bool false)))),o 4 (.mv (.t 37))])
 .ret)),
 [.tmp 4]⟩
def F215 : AFun := ⟨3,
 (.seq (.ops [o 6 (.alloc [(.int .i32 0),(.int .i32 0),(.int .i32 0),(.int .i32 0)])])
 (.seq (.ops [o 15 (.mv (.t 0)),o 16 (.nilck (.t 15)),o 17 (.fa 0 (.t 16)),o 18 (.fa 2 (.t 17)),o 19 (.ld (.t 18)),o 20 (.mv (.t 1)),o 21 (.ixa 2 (.t 19) (.t 20)),o 22 (.ldn 2 (.t 21)),o 7 (.alloc [(.int .i64 0),(.int .i64 0)]),e (.st 2 (.t 7) (.t 22))])
 (.seq (.ops [o 8 (.alloc [.nilslice])])
 (.keep [0,1,2,6,7,8] (.seq (.seq (.ops [o 23 (.mv (.t 0)),o 24 (.mv (.t 1)),o 25 (.call 122 [(.t 23),(.t 24)]),o 26 (.fv 4 none (.t 25)),o 27 (.len 1 (.t 26)),o 28 (.mv (ki 0))])
 (.block 0 (.loop [0,2,6,7,8,26,27,28] (.seq (.ops [o 29 (.bin 0 .lss (.t 28) (.t 27))])
 (.seq (.cond (.t 29) .skip
 (.exit 0))
 (.seq (.block 1 (.seq (.ops [o 30 (.mv (.t 28)),o 31 (.ixa 1 (.t 26) (.t 28)),o 32 (.ld (.t 31)),o 9 (.mv (.t 30)),o 10 (.mv (.t 32))])
 (.seq (.ops [o 33 (.mv (.t 0)),o 34 (.nilck (.t 33)),o 35 (.fa 0 (.t 34)),o 36 (.fa 2 (.t 35)),o 37 (.ld (.t 36)),o 38 (.mv (.t 10)),o 39 (.ixa 2 (.t 37) (.t 38)),o 40 (.ldn 2 (.t 39)),o 11 (.alloc [(.int .i64 0),(.int .i64 0)]),e (.st 2 (.t 11) (.t 40))])
 (.keep [0,2,6,7,8,9,11,26,27,28] (.seq (.ops [o 41 (.fa 1 (.t 11)),o 42 (.ld (.t 41)),o 43 (.mv (ki 0))])
 (.block 2 (.loop [0,2,6,7,8,9,11,26,27,28,42,43] (.seq (.ops [o 44 (.bin 0 .lss (.t 43) (.t 42))])
 (.seq (.cond (.t 44) .skip
 (.exit 2))
 (.seq (.block 3 (.seq (.ops [o 45 (.mv (.t 43)),o 12 (.mv (.t 45))])
 (.keep [0,2,6,7,8,9,11,12,26,27,28,42,43] (.seq (.dops [.op 0 (o 47 (.fa 0 (.t 11))),.op 2 (o 49 (.fa 0 (.t 7))),.op 4 (o 51 (.mv (.t 2))),.op 5 (o 52 (.mv (.t 9))),.op 6 (o 53 (.mv (.t 12))),.op 1 (o 48 (.ld (.t 47))),.op 3 (o 50 (.ld (.t 49))),.op 7 (o 54 (.ixa 4 (.t 51) (.t 52))),.op 8 (o 55 (.ixp 4 1 (.t 54) (.t 53))),.op 9 (o 56 (.ld (.t 55))),.eff 10 (o 57 (.call 13 [(.t 48),(.t 50),(.t 56)])) [],.op 11 (o 46 (.mv (.t 57))),.op 12 (o 58 (.ext 0 (.t 46))),.op 13 (o 59 (.ext 1 (.t 46))),.op 14 (o 13 (.mv (.t 58))),.op 15 (o 14 (.mv (.t 59)))])
 (.keep [0,2,6,7,8,9,11,13,26,27,28,42,43] (.ops [o 60 (.ld (.t 8)),o 61 (.mv (.t 13)),o 62 (.mks [(.int .i32 0)] 1 [(0,1,(.t 61))]),o 63 (.app 1 4 (.t 60) (.t 62)),e (.st 1 (.t 8) (.t 63))]))))))
 (.keep [0,2,6,7,8,9,11,26,27,28,42,43] (.ops [o 64 (.bin 0 .add (.t 43) (ki 1)),o 43 (.mv (.t 64))]))))))))))))
 (.ops [o 65 (.bin 0 .add (.t 28) (ki 1)),o 28 (.mv (.t 65))])))))))
 (.keep [6,7,8] (.seq (.seq (.ops [o 66 (.ld (.t 8)),o 67 (.len 1 (.t 66)),o 68 (.bin 0 .eql (.t 67) (ki 1))])
 (.cond (.t 68) (.seq (.dops [.op 0 (o 69 (.ld (.t 8))),.op 3 (o 72 (.fa 1 (.t 7))),.op 1 (o 70 (.ixa 1 (.t 69) (ki 0))),.op 4 (o 73 (.ld (.t 72))),.op 2 (o 71 (.ld (.t 70))),.eff 5 (o 74 (.call 217 [(.t 71),(.t 73)])) [],.eff 6 (e (.st 4 (.t 6) (.t 74))) []])
 .ret)
 .skip))
 (.seq (.ops [o 75 (.fa 1 (.t 7)),o 76 (.ld (.t 75)),o 77 (.mkf 260 [] [(.t 8)]),o 78 (.call 25 [(.t 76),(.t 77)]),e (.st 4 (.t 6) (.t 78))])
 .ret)))))))),
 [.celln 6 4]⟩
def F216 : AFun := ⟨3,
 (.seq (.ops [o 5 (.box (.t 2)),o 6 (.alloc [(.int .i32 0),(.int .i32 0),(.int .i32 0),(.int .i32 0)])])
 (.seq (.ops [o 10 (.agg [(.int .i32 0),(.int .i32 0),(.int .i32 0),(.int .i32 0)] [(0,1,(.k (.c (.int .i32 0)))),(1,1,(.k (.c (.int .i32 0)))),(2,1,(.k (.c (.int .i32 0)))),(3,1,(.k (.c (.int .i32 65536))))]),o 7 (.alloc [(.int .i32 0),(.int .i32 0),(.int .i32 0),(.int .i32 0)]),e (.st 4 (.t 7) (.t 10))])
 (.seq (.seq (.ops [o 11 (.mv (.t 1)),o 12 (.bin 0 .lss (.t 11) (.k (.c (.int .i32 0)))),o 13 (.mv (.t 12)),⟨(some 14),(.mv (.t 1)),some (13,false)⟩,⟨(some 15),(.convi .i64 (.t 14)),some (13,false)⟩,⟨(some 16),(.mv (.t 0)),some (13,false)⟩,⟨(some 17),(.nilck (.t 16)),some (13,false)⟩,⟨(some 18),(.fa 9 (.t 17)),some (13,false)⟩,⟨(some 19),(.fa 12 (.t 18)),some (13,false)⟩,⟨(some 20),(.ld (.t 19)),some (13,false)⟩,⟨(some 21),(.len 1 (.t 20)),some (13,false)⟩,⟨(some 22),(.bin 0 .geq (.t 15) (.t 21)),some (13,false)⟩,o 23 (.pick (.t 13) (.k (.c (.bool true))) (.t 22))])
 (.keep [0,1,5,6,7,23] (.cond (.t 23) (.seq (.ops [o 24 (.ldn 4 (.t 7)),e (.st 4 (.t 6) (.t 24))])
 .ret)
 .skip)))
 (.seq (.dops [.op 0 (o 26 (.mv (.t 0))),.op 5 (o 31 (.mv (.t 1))),.op 8 (o 34 (.ixp 4 1 (.t 5) (ki 0))),.op 10 (o 36 (.ixp 4 1 (.t 5) (ki 1))),.flt 16 (o 8 (.alloc [(.int .i32 0),(.int .i32 0),(.int .i32 0),(.int .i32 0)])) [],.op 1 (o 27 (.nilck (.t 26))),.op 9 (o 35 (.ld (.t 34))),.op 11 (o 37 (.ld (.t 36))),.op 2 (o 28 (.fa 9 (.t 27))),.op 3 (o 29 (.fa 12 (.t 28))),.op 4 (o 30 (.ld (.t 29))),.op 6 (o 32 (.ixa 6 (.t 30) (.t 31))),.op 7 (o 33 (.ldn 6 (.t 32))),.eff 12 (o 38 (.call 261 [(.t 33),(.t 35),(.t 37),(.k (.c (.int .i32 0)))])) [o 8 (.alloc [(.int .i32 0),(.int .i32 0),(.int .i32 0),(.int .i32 0)])],.op 13 (o 25 (.mv (.t 38))),.op 14 (o 39 (.ext 0 (.t 25))),.op 15 (o 40 (.ext 1 (.t 25))),.eff 17 (e (.st 4 (.t 8) (.t 39))) [],.op 18 (o 9 (.mv (.t 40)))])
 (.keep [6,7,8,9] (.seq (.seq (.ops [o 41 (.mv (.t 9)),o 42 (.bin 0 .neq (.t 41) (ki 0))])
 (.cond (.t 42) (.seq (.ops [o 43 (.ldn 4 (.t 7)),e (.st 4 (.t 6) (.t 43))])
 .ret)
 .skip))
 (.seq (.ops [o 44 (.ldn 4 (.t 8)),e (.st 4 (.t 6) (.t 44))])
 .ret))))))),
 [.celln 6 4]⟩
def F217 : AFun := ⟨2,
 (.seq (.ops [o 2 (.box (.t 0)),o 4 (.alloc [(.int .i32 0),(.int .i32 0),(.int .i32 0),(.int .i32 0)])])
 (.seq (.ops [o 5 (.mv (.t 1)),o 6 (.mkf 262 [] [(.t 2)]),o 7 (.call 25 [(.t 5),(.t 6)]),e (.st 4 (.t 4) (.t 7))])
 .ret)),
 [.celln 4 4]⟩
def F218 : AFun := ⟨1,
 (.seq (.ops [o 2 (.mv (ki 0))])
 (.seq (.ops [o 3 .mkm,e (.mup true (.t 3) (.k (.c (.str (bs [43])))) (ki 24)),e (.mup true (.t 3) (.k (.c (.str (bs [45])))) (ki 25)),e (.mup true (.t 3) (.k (.c (.str (bs [42])))) (ki 26)),e (.mup true (.t 3) (.k (.c (.str (bs [47])))) (ki 27)),e (.mup true (.t 3) (.k (.c (.str (bs [60])))) (ki 29)),e (.mup true (.t 3) (.k (.c (.str (bs [62])))) (ki 30)),e (.mup true (.t 3) (.k (.c (.str (bs [60,61])))) (ki 31)),e (.mup true (.t 3) (.k (.c (.str (bs [62,61])))) (ki 32)),e (.mup true (.t 3) (.k (.c (.str (bs [61,61])))) (ki 33)),e (.mup true (.t 3) (.k (.c (.str (bs [33,61])))) (ki 34)),o 4 (.mv (.t 3)),o 5 (.mv (.t 0)),o 6 (.lk true (.c (.int .i64 0)) false (.t 4) (.t 5)),o 2 (.mv (.t 6))])
 .ret)),
 [.tmp 2]⟩
def F219 : AFun := ⟨3,
 (.seq (.ops [o 4 (.mv (.k (.c (.int .i32 0))))])
 (.seq (.ops [o 5 (.ld (.t 2)),o 6 (.mv (.t 0)),o 7 (.ixa 1 (.t 5) (.t 6)),o 8 (.ld (.t 7)),o 9 (.ixp 4 1 (.t 1) (.t 8)),o 10 (.ld (.t 9)),o 4 (.mv (.t 10))])
 .ret)),
 [.tmp 4]⟩
def F220 : AFun := ⟨1,
 (.seq (.ops [o 2 (.mv (.k (.c (.bool false))))])
 (.seq (.seq (.ops [o 6 (.mv (.t 0)),o 7 (.len 1 (.t 6)),o 8 (.mv (ki 0))])
 (.block 0 (.loop [6,7,8] (.seq (.ops [o 9 (.bin 0 .lss (.t 8) (.t 7))])
 (.seq (.cond (.t 9) .skip
 (.exit 0))
 (.seq (.block 1 (.seq (.ops [o 10 (.ixa 2 (.t 6) (.t 8)),o 11 (.ldn 2 (.t 10)),o 4 (.alloc [(.int .i64 0),(.int .i64 0)]),e (.st 2 (.t 4) (.t 11))])
 (.seq (.ops [o 12 (.fa 1 (.t 4)),o 13 (.ld (.t 12)),o 14 (.bin 0 .geq (.t 13) (ki 1)),o 15 (.mv (.t 14)),⟨(some 16),(.fa 1 (.t 4)),some (15,true)⟩,⟨(some 17),(.ld (.t 16)),some (15,true)⟩,⟨(some 18),(.bin 0 .leq (.t 17) (ki 4)),some (15,true)⟩,o 19 (.pick (.t 15) (.t 18) (.k (.c (.bool false)))),o 5 (.mv (.t 19))])
 (.keep [4,5,6,7,8] (.seq (.seq (.ops [o 20 (.fa 0 (.t 4)),o 21 (.ld (.t 20))])
 (.block 2 (.seq (.ops [o 23 (.bin 0 .eql (.t 21) (ki 0)),o 22 (.mv (.t 23))])
 (.cond (.t 22) (.ops [o 24 (.fa 1 (.t 4)),o 25 (.ld (.t 24)),o 26 (.bin 0 .eql (.t 25) (ki 0)),o 5 (.mv (.t 26))])
 (.seq (.ops [o 28 (.bin 0 .eql (.t 21) (ki 4)),o 27 (.mv (.t 28))])
 (.cond (.t 27) (.ops [o 29 (.fa 1 (.t 4)),o 30 (.ld (.t 29)),o 31 (.bin 0 .eql (.t 30) (ki 1)),o 5 (.mv (.t 31))])
 (.seq (.seq (.ops [o 33 (.bin 0 .eql (.t 21) (ki 1)),o 32 (.mv (.t 33))])
 (.cond (.t 32) .skip
 (.seq (.ops [o 34 (.bin 0 .eql (.t 21) (ki 2)),o 32 (.mv (.t 34))])
 (.keep [5,6,7,8,21,32] (.cond (.t 32) .skip
 (.ops [o 35 (.bin 0 .eql (.t 21) (ki 3)),o 32 (.mv (.t 35))]))))))
 (.cond (.t 32) .skip
 (.ops [o 5 (.mv (.k (.c (.bool false))))])))))))))
 (.keep [5,6,7,8] (.seq (.ops [o 36 (.mv (.t 5)),o 37 (.un .not (.t 36))])
 (.cond (.t 37) (.seq (.ops [o 2 (.mv (.k (.c (.bool false))))])
 .ret)
 .skip))))))))
 (.ops [o 38 (.bin 0 .add (.t 8) (ki 1)),o 8 (.mv (.t 38))])))))))
 (.seq (.ops [o 2 (.mv (.k (.c (.bool true))))])
 .ret))),
 [.tmp 2]⟩
def F221 : AFun := ⟨1,
 (.seq (.ops [o 1 (.box (.t 0)),o 2 (.mv (.k (.c (.bool false))))])
 (.seq (.ops [o 3 (.ldn 2 (.t 1)),o 4 (.call 263 [(.t 3)]),o 5 (.mv (.t 4)),⟨(some 6),(.fa 0 (.t 1)),some (5,false)⟩,⟨(some 7),(.ld (.t 6)),some (5,false)⟩,⟨(some 8),(.bin 0 .eql (.t 7) (ki 3)),some (5,false)⟩,o 9 (.pick (.t 5) (.k (.c (.bool true))) (.t 8)),o 2 (.mv (.t 9))])
 .ret)),
 [.tmp 2]⟩
def F222 : AFun := ⟨2,
 (.seq (.ops [o 4 (.mv (ki 0))])
 (.seq (.seq (.ops [o 7 (.mv (.t 0)),o 8 (.rng (.t 7))])
 (.block 0 (.loop [1,8] (.seq (.ops [o 9 (.nxt (.t 8)),o 10 (.ext 0 (.t 9))])
 (.seq (.cond (.t 10) .skip
 (.exit 0))
 (.block 1 (.seq (.ops [o 11 (.ext 1 (.t 9)),o 12 (.ext 2 (.t 9)),o 5 (.mv (.t 11)),o 6 (.mv (.t 12))])
 (.seq (.ops [o 13 (.mv (.t 6)),o 14 (.mv (.t 1)),o 15 (.bin 0 .eql (.t 13) (.t 14))])
 (.cond (.t 15) (.seq (.ops [o 16 (.mv (.t 5)),o 4 (.mv (.t 16))])
 .ret)
 .skip)))))))))
 (.seq (.ops [o 4 (.mv (ki (-1)))])
 .ret))),
 [.tmp 4]⟩
def F225 : AFun := ⟨1,
 (.seq (.ops [o 2 (.mv (ki 0))])
 (.seq (.ops [o 3 (.mv (.t 0)),o 4 (.bin 0 .add (.t 3) (ki 16)),o 5 (.bin 0 .quo (.t 4) (ki 8)),o 2 (.mv (.t 5))])
 .ret)),
 [.tmp 2]⟩
def F226 : AFun := ⟨2,
 (.seq (.ops [o 4 (.mv (ki 0))])
 (.seq (.ops [o 12 (.mv (.t 1)),o 13 (.call 264 [(.t 12)]),o 11 (.mv (.t 13)),o 14 (.ext 0 (.t 11)),o 15 (.ext 1 (.t 11)),o 5 (.mv (.t 14)),o 6 (.mv (.t 15))])
 (.seq (.ops [o 16 (.mv (.t 1)),o 17 (.len 0 (.t 16)),o 7 (.mv (.t 17))])
 (.seq (.ops [o 8 (.mv (.k (.c (.int .u32 0))))])
 (.seq (.seq (.ops [o 9 (.mv (ki 0))])
 (.block 0 (.loop [0,1,5,6,7,8,9] (.seq (.seq (.ops [o 18 (.mv (.t 9)),o 19 (.mv (.t 7)),o 20 (.bin 0 .lss (.t 18) (.t 19))])
 (.cond (.t 20) .skip
 (.exit 0)))
 (.seq (.block 1 (.ops [o 23 (.mv (.t 8)),o 24 (.bin 0 .mul (.t 23) (.k (.c (.int .u32 16777619)))),o 25 (.mv (.t 0)),o 26 (.mv (.t 9)),o 27 (.ixs (.t 25) (.t 26)),o 28 (.convi .u32 (.t 27)),o 29 (.bin 0 .add (.t 24) (.t 28)),o 8 (.mv (.t 29))]))
 (.keep [0,1,5,6,7,8,9] (.ops [o 21 (.mv (.t 9)),o 22 (.bin 0 .add (.t 21) (ki 1)),o 9 (.mv (.t 22))])))))))
 (.seq (.seq (.ops [o 30 (.mv (.t 8)),o 31 (.mv (.t 5)),o 32 (.bin 0 .eql (.t 30) (.t 31)),o 33 (.mv (.t 32)),⟨(some 34),(.mv (.t 0)),some (33,true)⟩,⟨(some 35),(.mv (.t 7)),some (33,true)⟩,⟨(some 36),(.slcs (.t 34) none (some (.t 35))),some (33,true)⟩,⟨(some 37),(.mv (.t 1)),some (33,true)⟩,⟨(some 38),(.bin 0 .eql (.t 36) (.t 37)),some (33,true)⟩,o 39 (.pick (.t 33) (.t 38) (.k (.c (.bool false))))])
 (.keep [0,1,5,6,7,8,39] (.cond (.t 39) (.seq (.ops [o 4 (.mv (ki 0))])
 .ret)
 .skip)))
 (.seq (.seq (.ops [o 40 (.mv (.t 7)),o 10 (.mv (.t 40))])
 (.block 2 (.loop [0,1,5,6,7,8,10] (.seq (.seq (.ops [o 41 (.mv (.t 10)),o 42 (.mv (.t 0)),o 43 (.len 0 (.t 42)),o 44 (.bin 0 .lss (.t 41) (.t 43))])
 (.cond (.t 44) .skip
 (.exit 2)))
 (.block 3 (.seq (.ops [o 45 (.mv (.t 8)),o 46 (.bin 0 .mul (.t 45) (.k (.c (.int .u32 16777619)))),o 8 (.mv (.t 46))])
 (.seq (.ops [o 47 (.mv (.t 8)),o 48 (.mv (.t 0)),o 49 (.mv (.t 10)),o 50 (.ixs (.t 48) (.t 49)),o 51 (.convi .u32 (.t 50)),o 52 (.bin 0 .add (.t 47) (.t 51)),o 8 (.mv (.t 52))])
 (.keep [0,1,5,6,7,8,10] (.seq (.ops [o 53 (.mv (.t 8)),o 54 (.mv (.t 6)),o 55 (.mv (.t 0)),o 56 (.mv (.t 10)),o 57 (.mv (.t 7)),o 58 (.bin 0 .sub (.t 56) (.t 57)),o 59 (.ixs (.t 55) (.t 58)),o 60 (.convi .u32 (.t 59)),o 61 (.bin 0 .mul (.t 54) (.t 60)),o 62 (.bin 0 .sub (.t 53) (.t 61)),o 8 (.mv (.t 62))])
 (.keep [0,1,5,6,7,8,10] (.seq (.ops [o 63 (.mv (.t 10)),o 64 (.bin 0 .add (.t 63) (ki 1)),o 10 (.mv (.t 64))])
 (.seq (.ops [o 65 (.mv (.t 8)),o 66 (.mv (.t 5)),o 67 (.bin 0 .eql (.t 65) (.t 66)),o 68 (.mv (.t 67)),⟨(some 69),(.mv (.t 0)),some (68,true)⟩,⟨(some 70),(.mv (.t 10)),some (68,true)⟩,⟨(some 71),(.mv (.t 7)),some (68,true)⟩,⟨(some 72),(.bin 0 .sub (.t 70) (.t 71)),some (68,true)⟩,⟨(some 73),(.mv (.t 10)),some (68,true)⟩,⟨(some 74),(.slcs (.t 69) (some (.t 72)) (some (.t 73))),some (68,true)⟩,⟨(some 75),(.mv (.t 1)),some (68,true)⟩,⟨(some 76),(.bin 0 .eql (.t 74) (.t 75)),some (68,true)⟩,o 77 (.pick (.t 68) (.t 76) (.k (.c (.bool false))))])
 (.keep [0,1,5,6,7,8,10,77] (.cond (.t 77) (.seq (.ops [o 78 (.mv (.t 10)),o 79 (.mv (.t 7)),o 80 (.bin 0 .sub (.t 78) (.t 79)),o 4 (.mv (.t 80))])
 .ret)
 .skip))))))))))))))
 (.seq (.ops [o 4 (.mv (ki (-1)))])
 .ret)))))))),
 [.tmp 4]⟩
def F227 : AFun := ⟨2,
 (.seq (.ops [o 4 (.mv (.k (.c (.str (bs []))))),o 5 (.mv (.k (.c (.bool false))))])
 (.seq (.ops [o 6 (.mv (.t 0)),o 7 (.mv (.t 1)),o 8 (.call 265 [(.t 6),(.t 7)]),o 9 (.ext 0 (.t 8)),o 10 (.ext 1 (.t 8)),o 4 (.mv (.t 9)),o 5 (.mv (.t 10))])
 .ret)),
 [.tmp 4,.tmp 5]⟩
def F228 : AFun := ⟨2,
 (.seq (.ops [o 4 (.mv (.k (.c (.str (bs []))))),o 5 (.mv (.k (.c (.str (bs []))))),o 6 (.mv (.k (.c (.bool false))))])
 (.seq (.ops [o 7 (.mv (.t 0)),o 8 (.mv (.t 1)),o 9 (.call 266 [(.t 7),(.t 8)]),o 10 (.ext 0 (.t 9)),o 11 (.ext 1 (.t 9)),o 12 (.ext 2 (.t 9)),o 4 (.mv (.t 10)),o 5 (.mv (.t 11)),o 6 (.mv (.t 12))])
 .ret)),
 [.tmp 4,.tmp 5,.tmp 6]⟩
def F229 : AFun := ⟨1,
 (.seq (.ops [o 2 (.mv (ki 0))])
 (.seq (.ops [o 9 (.mv (.t 0)),o 10 (.convb (.t 9)),o 3 (.mv (.t 10))])
 (.seq (.ops [o 4 (.mv (ki 0))])
 (.seq (.seq (.ops [o 11 (.mv (ki 0))])
 (.block 0 (.loop [3,4,11] (.seq (.ops [o 12 (.bin 0 .lss (.t 11) (ki 17))])
 (.seq (.cond (.t 12) .skip
 (.exit 0))
 (.seq (.block 1 (.seq (.ops [o 5 (.mv (.k (.c (.int .u8 0))))])
 (.seq (.seq (.ops [o 13 (.mv (.t 3)),o 14 (.len 1 (.t 13)),o 15 (.mv (ki 0))])
 (.block 2 (.loop [3,4,5,11,14,15] (.seq (.ops [o 16 (.bin 0 .lss (.t 15) (.t 14))])
 (.seq (.cond (.t 16) .skip
 (.exit 2))
 (.seq (.block 3 (.seq (.ops [o 17 (.mv (.t 15)),o 6 (.mv (.t 17))])
 (.seq (.ops [o 18 (.mv (.t 3)),o 19 (.len 1 (.t 18)),o 20 (.bin 0 .sub (.t 19) (ki 1)),o 21 (.mv (.t 6)),o 22 (.bin 0 .sub (.t 20) (.t 21)),o 7 (.mv (.t 22))])
 (.keep [3,4,5,7,11,14,15] (.seq (.ops [o 23 (.mv (.t 3)),o 24 (.mv (.t 7)),o 25 (.ixa 1 (.t 23) (.t 24)),o 26 (.ld (.t 25)),o 27 (.bin 0 .sub (.t 26) (.k (.c (.int .u8 48)))),o 8 (.mv (.t 27))])
 (.seq (.ops [o 28 (.mv (.t 8)),o 29 (.mv (.t 8)),o 30 (.mv (.t 5)),o 31 (.bin 0 .add (.t 29) (.t 30)),o 32 (.bin 0 .add (.t 28) (.t 31)),o 8 (.mv (.t 32))])
 (.keep [3,4,7,8,11,14,15] (.seq (.ops [o 5 (.mv (.k (.c (.int .u8 0))))])
 (.seq (.seq (.ops [o 33 (.mv (.t 8)),o 34 (.bin 0 .geq (.t 33) (.k (.c (.int .u8 10))))])
 (.cond (.t 34) (.ops [o 35 (.mv (.t 8)),o 36 (.bin 0 .sub (.t 35) (.k (.c (.int .u8 10)))),o 8 (.mv (.t 36)),o 5 (.mv (.k (.c (.int .u8 1))))])
 .skip))
 (.ops [o 37 (.mv (.t 3)),o 38 (.mv (.t 7)),o 39 (.mv (.t 8)),o 40 (.bin 0 .add (.k (.c (.int .u8 48))) (.t 39)),o 41 (.ixa 1 (.t 37) (.t 38)),e (.st 1 (.t 41) (.t 40))]))))))))))
 (.keep [3,4,5,11,14,15] (.ops [o 42 (.bin 0 .add (.t 15) (ki 1)),o 15 (.mv (.t 42))]))))))))
 (.ops [o 43 (.mv (.t 4)),o 44 (.bin 0 .shl (.t 43) (.k (.c (.int .u64 1)))),o 45 (.mv (.t 5)),o 46 (.convi .i64 (.t 45)),o 47 (.bin 0 .or (.t 44) (.t 46)),o 4 (.mv (.t 47))]))))
 (.ops [o 48 (.bin 0 .add (.t 11) (ki 1)),o 11 (.mv (.t 48))])))))))
 (.keep [4] (.seq (.ops [o 49 (.mv (.t 4)),o 2 (.mv (.t 49))])
 .ret)))))),
 [.tmp 2]⟩
def F230 : AFun := ⟨2,
 (.seq (.ops [o 4 (.mv (ki 0))])
 (.seq (.seq (.ops [o 6 (.mv (.t 0)),o 7 (.len 1 (.t 6)),o 8 (.mv (ki 0))])
 (.block 0 (.loop [0,1,7,8] (.seq (.ops [o 9 (.bin 0 .lss (.t 8) (.t 7))])
 (.seq (.cond (.t 9) .skip
 (.exit 0))
 (.seq (.block 1 (.seq (.ops [o 10 (.mv (.t 8)),o 5 (.mv (.t 10))])
 (.seq (.ops [o 11 (.mv (.t 1)),o 12 (.mv (.t 0)),o 13 (.mv (.t 5)),o 14 (.ixa 1 (.t 12) (.t 13)),o 15 (.ld (.t 14)),o 16 (.bin 0 .eql (.t 11) (.t 15))])
 (.cond (.t 16) (.seq (.ops [o 17 (.mv (.t 5)),o 4 (.mv (.t 17))])
 .ret)
 .skip))))
 (.keep [0,1,7,8] (.ops [o 18 (.bin 0 .add (.t 8) (ki 1)),o 8 (.mv (.t 18))]))))))))
 (.seq (.ops [o 4 (.mv (ki (-1)))])
 .ret))),
 [.tmp 4]⟩
def F231 : AFun := ⟨2,
 (.seq (.ops [o 2 (.box (.t 0)),o 3 (.mv (.k (.c (.bool false))))])
 (.seq (.ops [o 4 (.ldn 5 (.t 2)),o 5 (.ld (.t 1)),o 6 (.mks [(.str (bs []))] 1 [(0,1,(.t 5))]),o 7 (.call 162 [(.t 4),(.t 6)]),o 3 (.mv (.t 7))])
 .ret)),
 [.tmp 3]⟩
def F232 : AFun := ⟨1,
 (.seq (.ops [o 2 (.mv (.k (.c .nilptr)))])
 (.seq (.ops [o 8 (.mv (.t 0)),o 9 (.call 157 [(.t 8),(ki 0)]),o 3 (.alloc [(.int .i64 0),(.str (bs [])),(.int .i32 0),(.int .i64 0),(.int .i64 0)]),e (.st 5 (.t 3) (.t 9))])
 (.seq (.block 0 (.seq (.ops [o 11 (.ldn 5 (.t 3)),o 12 (.mks [(.str (bs []))] 1 [(0,1,(.k (.c (.str (bs [123])))))]),o 13 (.call 162 [(.t 11),(.t 12)]),o 10 (.mv (.t 13))])
 (.cond (.t 10) (.seq (.ops [o 14 (.mv (.t 0)),o 15 (.call 195 [(.t 14)]),o 2 (.mv (.t 15))])
 .ret)
 (.seq (.ops [o 17 (.ldn 5 (.t 3)),o 18 (.mks [(.str (bs []))] 1 [(0,1,(.k (.c (.str (bs [105,102])))))]),o 19 (.call 162 [(.t 17),(.t 18)]),o 16 (.mv (.t 19))])
 (.cond (.t 16) (.seq (.ops [o 20 (.mv (.t 0)),o 21 (.call 267 [(.t 20)]),o 2 (.mv (.t 21))])
 .ret)
 (.seq (.ops [o 23 (.ldn 5 (.t 3)),o 24 (.mks [(.str (bs []))] 1 [(0,1,(.k (.c (.str (bs [102,111,114])))))]),o 25 (.call 162 [(.t 23),(.t 24)]),o 22 (.mv (.t 25))])
 (.keep [0,3,22] (.cond (.t 22) (.seq (.ops [o 26 (.mv (.t 0)),o 27 (.call 268 [(.t 26)]),o 2 (.mv (.t 27))])
 .ret)
 (.seq (.ops [o 29 (.ldn 5 (.t 3)),o 30 (.mks [(.str (bs []))] 1 [(0,1,(.k (.c (.str (bs [114,101,116,117,114,110])))))]),o 31 (.call 162 [(.t 29),(.t 30)]),o 28 (.mv (.t 31))])
 (.cond (.t 28) (.seq (.ops [o 32 (.mv (.t 0)),o 33 (.nilck (.t 32)),o 34 (.fa 1 (.t 33)),o 35 (.ld (.t 34)),o 36 (.bin 0 .add (.t 35) (ki 1)),o 37 (.nilck (.t 32)),o 38 (.fa 1 (.t 37)),e (.st 1 (.t 38) (.t 36))])
 (.keep [0,3] (.seq (.ops [o 39 (.ldn 5 (.t 3)),o 40 (.call 191 [(ki 9),(.t 39),(.k (.c (.str (bs [])))),(.k (.c .nilslice))]),o 4 (.mv (.t 40))])
 (.seq (.seq (.ops [o 42 (.mv (.t 0)),o 43 (.mks [(.str (bs []))] 1 [(0,1,(.k (.c (.str (bs [59])))))]),o 44 (.call 196 [(.t 42),(.t 43)]),o 41 (.mv (.t 44)),o 45 (.ext 0 (.t 41)),o 46 (.ext 1 (.t 41)),o 5 (.alloc [(.int .i64 0),(.str (bs [])),(.int .i32 0),(.int .i64 0),(.int .i64 0)]),e (.st 5 (.t 5) (.t 45)),o 6 (.mv (.t 46))])
 (.seq (.ops [o 47 (.mv (.t 6)),o 48 (.un .not (.t 47))])
 (.keep [0,4,48] (.cond (.t 48) (.seq (.ops [o 49 (.mv (.t 4)),o 50 (.mv (.t 0)),o 51 (.call 197 [(.t 50)]),o 52 (.mks [.nilptr] 1 [(0,1,(.t 51))]),o 53 (.nilck (.t 49)),o 54 (.fa 6 (.t 53)),e (.st 1 (.t 54) (.t 52))])
 (.ops [o 55 (.mv (.t 0)),o 56 (.call 192 [(.t 55),(.k (.c (.str (bs [59]))))])]))
 .skip))))
 (.seq (.ops [o 57 (.mv (.t 4)),o 2 (.mv (.t 57))])
 .ret)))))
 (.seq (.ops [o 59 (.ldn 5 (.t 3)),o 60 (.mks [(.str (bs []))] 1 [(0,1,(.k (.c (.str (bs [100,105,115,99,97,114,100])))))]),o 61 (.call 162 [(.t 59),(.t 60)]),o 58 (.mv (.t 61))])
 (.cond (.t 58) (.seq (.ops [o 62 (.mv (.t 0)),o 63 (.nilck (.t 62)),o 64 (.fa 1 (.t 63)),o 65 (.ld (.t 64)),o 66 (.bin 0 .add (.t 65) (ki 1)),o 67 (.nilck (.t 62)),o 68 (.fa 1 (.t 67)),e (.st 1 (.t 68) (.t 66))])
 (.keep [0,3] (.seq (.ops [o 69 (.mv (.t 0)),o 70 (.call 192 [(.t 69),(.k (.c (.str (bs [59]))))])])
 (.seq (.ops [o 71 (.ldn 5 (.t 3)),o 72 (.call 191 [(ki 10),(.t 71),(.k (.c (.str (bs [])))),(.k (.c .nilslice))]),o 2 (.mv (.t 72))])
 .ret))))
 (.seq (.ops [o 74 (.ldn 5 (.t 3)),o 75 (.mks [(.str (bs []))] 1 [(0,1,(.k (.c (.str (bs [59])))))]),o 76 (.call 162 [(.t 74),(.t 75)]),o 73 (.mv (.t 76))])
 (.keep [0,3,73] (.cond (.t 73) (.seq (.ops [o 77 (.mv (.t 0)),o 78 (.nilck (.t 77)),o 79 (.fa 1 (.t 78)),o 80 (.ld (.t 79)),o 81 (.bin 0 .add (.t 80) (ki 1)),o 82 (.nilck (.t 77)),o 83 (.fa 1 (.t 82)),e (.st 1 (.t 83) (.t 81))])
 (.seq (.ops [o 84 (.ldn 5 (.t 3)),o 85 (.call 191 [(ki 12),(.t 84),(.k (.c (.str (bs [])))),(.k (.c .nilslice))]),o 2 (.mv (.t 85))])
 .ret))
 (.seq (.ops [o 87 (.ldn 5 (.t 3)),o 88 (.mks [(.str (bs []))] 1 [(0,1,(.k (.c (.str (bs [99,111,110,115,116])))))]),o 89 (.call 162 [(.t 87),(.t 88)]),o 86 (.mv (.t 89))])
 (.cond (.t 86) (.seq (.ops [o 90 (.mv (.t 0)),o 91 (.nilck (.t 90)),o 92 (.fa 1 (.t 91)),o 93 (.ld (.t 92)),o 94 (.bin 0 .add (.t 93) (ki 1)),o 95 (.nilck (.t 90)),o 96 (.fa 1 (.t 95)),e (.st 1 (.t 96) (.t 94))])
 (.keep [0,3] (.seq (.dops [.op 0 (o 97 (.mv (.t 0))),.op 1 (o 98 (.ldn 5 (.t 3))),.op 2 (o 99 (.mv (.t 0))),.op 4 (o 101 (.fa 1 (.t 3))),.op 5 (o 102 (.ld (.t 101))),.eff 3 (o 100 (.call 159 [(.t 99),(.f 160)])) [o 98 (.ldn 5 (.t 3)),o 102 (.ld (.t 101))],.eff 6 (o 103 (.call 164 [(.t 97),(.t 98),(.t 100),(.t 102)])) [],.op 7 (o 2 (.mv (.t 103)))])
 .ret)))
 (.seq (.ops [o 105 (.ldn 5 (.t 3)),o 106 (.call 160 [(.t 105)]),o 107 (.mv (.t 106)),⟨(some 108),(.mv (.t 0)),some (107,true)⟩,⟨(some 109),(.call 157 [(.t 108),(ki 1)]),some (107,true)⟩,⟨(some 110),(.mks [(.str (bs []))] 1 [(0,1,(.k (.c (.str (bs [40])))))]),some (107,true)⟩,⟨(some 111),(.call 162 [(.t 109),(.t 110)]),some (107,true)⟩,⟨(some 112),(.un .not (.t 111)),some (107,true)⟩,o 113 (.pick (.t 107) (.t 112) (.k (.c (.bool false)))),o 104 (.mv (.t 113))])
 (.keep [0,3,104] (.cond (.t 104) (.seq (.ops [o 114 (.mv (.t 0)),o 115 (.nilck (.t 114)),o 116 (.fa 1 (.t 115)),o 117 (.ld (.t 116)),o 118 (.bin 0 .add (.t 117) (ki 1)),o 119 (.nilck (.t 114)),o 120 (.fa 1 (.t 119)),e (.st 1 (.t 120) (.t 118))])
 (.seq (.ops [o 121 (.mv (.t 0)),o 122 (.ldn 5 (.t 3)),o 123 (.ldn 5 (.t 3)),o 124 (.call 164 [(.t 121),(.t 122),(.t 123),(.k (.c (.str (bs []))))]),o 2 (.mv (.t 124))])
 .ret))
 .skip))))))))))))))))))))
 (.keep [0,3] (.seq (.dops [.op 0 (o 125 (.ldn 5 (.t 3))),.op 1 (o 126 (.mv (.t 0))),.eff 2 (o 127 (.call 197 [(.t 126)])) [o 125 (.ldn 5 (.t 3))],.eff 3 (o 128 (.mks [.nilptr] 1 [(0,1,(.t 127))])) [o 125 (.ldn 5 (.t 3))],.eff 4 (o 129 (.call 191 [(ki 11),(.t 125),(.k (.c (.str (bs [])))),(.t 128)])) [],.op 5 (o 7 (.mv (.t 129)))])
 (.seq (.ops [o 130 (.mv (.t 0)),o 131 (.call 192 [(.t 130),(.k (.c (.str (bs [59]))))])])
 (.seq (.ops [o 132 (.mv (.t 7)),o 2 (.mv (.t 132))])
 .ret))))))),
 [.tmp 2]⟩
def F233 : AFun := ⟨1,
 (.seq (.ops [o 2 (.mv (.k (.c .nilptr)))])
 (.seq (.ops [o 7 (.mv (.t 0)),o 8 (.call 269 [(.t 7),(ki 0)]),o 3 (.mv (.t 8))])
 (.seq (.ops [o 10 (.mv (.t 0)),o 11 (.mks [(.str (bs []))] 1 [(0,1,(.k (.c (.str (bs [63])))))]),o 12 (.call 196 [(.t 10),(.t 11)]),o 9 (.mv (.t 12)),o 13 (.ext 0 (.t 9)),o 14 (.ext 1 (.t 9)),o 4 (.alloc [(.int .i64 0),(.str (bs [])),(.int .i32 0),(.int .i64 0),(.int .i64 0)]),e (.st 5 (.t 4) (.t 13)),o 5 (.mv (.t 14))])
 (.seq (.seq (.ops [o 15 (.mv (.t 5)),o 16 (.un .not (.t 15))])
 (.keep [0,3,4,16] (.cond (.t 16) (.seq (.ops [o 17 (.mv (.t 3)),o 2 (.mv (.t 17))])
 .ret)
 .skip)))
 (.seq (.ops [o 18 (.mv (.t 0)),o 19 (.call 197 [(.t 18)]),o 6 (.mv (.t 19))])
 (.seq (.ops [o 20 (.mv (.t 0)),o 21 (.call 192 [(.t 20),(.k (.c (.str (bs [58]))))])])
 (.seq (.dops [.op 0 (o 22 (.ldn 5 (.t 4))),.op 1 (o 23 (.mv (.t 3))),.op 2 (o 24 (.mv (.t 6))),.op 3 (o 25 (.mv (.t 0))),.eff 4 (o 26 (.call 233 [(.t 25)])) [o 22 (.ldn 5 (.t 4))],.eff 5 (o 27 (.mks [.nilptr] 3 [(0,1,(.t 23)),(1,1,(.t 24)),(2,1,(.t 26))])) [o 22 (.ldn 5 (.t 4))],.eff 6 (o 28 (.call 191 [(ki 14),(.t 22),(.k (.c (.str (bs [])))),(.t 27)])) [],.op 7 (o 2 (.mv (.t 28)))])
 .ret))))))),
 [.tmp 2]⟩
def F234 : AFun := ⟨2,
 (.seq (.ops [o 3 (.mv (.k (.c .nilslice)))])
 (.seq (.ops [o 4 (.mv (.t 0)),o 5 (.mks [(.int .i64 0)] 1 [(0,1,(.t 4))]),o 6 (.ld (.t 1)),o 7 (.call 116 [(.t 5),(.t 6)]),o 3 (.mv (.t 7))])
 .ret)),
 [.tmp 3]⟩
def F235 : AFun := ⟨1,
 (.seq (.ops [o 2 (.mv (.k (.c (.bool false))))])
 (.seq (.seq (.ops [o 5 (.mv (.t 0)),o 6 (.bin 0 .eql (.t 5) (.k (.c (.str (bs []))))),o 7 (.mv (.t 6)),⟨(some 8),(.mv (.t 0)),some (7,false)⟩,⟨(some 9),(.len 0 (.t 8)),some (7,false)⟩,⟨(some 10),(.bin 0 .gtr (.t 9) (ki 32)),some (7,false)⟩,o 11 (.pick (.t 7) (.k (.c (.bool true))) (.t 10)),o 12 (.mv (.t 11)),⟨(some 13),(.mv (.t 0)),some (12,false)⟩,⟨(some 14),(.call 189 [(.t 13)]),some (12,false)⟩,o 15 (.pick (.t 12) (.k (.c (.bool true))) (.t 14)),o 16 (.mv (.t 15)),⟨(some 17),(.mv (.t 0)),some (16,false)⟩,⟨(some 18),(.ixs (.t 17) (ki 0)),some (16,false)⟩,⟨(some 19),(.bin 0 .geq (.t 18) (.k (.c (.int .u8 48)))),some (16,false)⟩,⟨(some 20),(.mv (.t 19)),some (16,false)⟩,⟨(some 21),(.mv (.t 0)),some (20,true)⟩,⟨(some 22),(.ixs (.t 21) (ki 0)),some (20,true)⟩,⟨(some 23),(.bin 0 .leq (.t 22) (.k (.c (.int .u8 57)))),some (20,true)⟩,⟨(some 24),(.pick (.t 20) (.t 23) (.k (.c (.bool false)))),some (16,false)⟩,o 25 (.pick (.t 16) (.k (.c (.bool true))) (.t 24))])
 (.keep [0,25] (.cond (.t 25) (.seq (.ops [o 2 (.mv (.k (.c (.bool false))))])
 .ret)
 .skip)))
 (.seq (.seq (.ops [o 26 (.mv (.t 0)),o 27 (.rng (.t 26))])
 (.block 0 (.loop [27] (.seq (.ops [o 28 (.nxt (.t 27)),o 29 (.ext 0 (.t 28))])
 (.seq (.cond (.t 29) .skip
 (.exit 0))
 (.block 1 (.seq (.ops [o 30 (.ext 2 (.t 28)),o 4 (.mv (.t 30))])
 (.seq (.ops [o 31 (.mv (.t 4)),o 32 (.bin 0 .neq (.t 31) (.k (.c (.int .i32 95)))),o 33 (.mv (.t 32)),⟨(some 34),(.mv (.t 4)),some (33,true)⟩,⟨(some 35),(.bin 0 .lss (.t 34) (.k (.c (.int .i32 97)))),some (33,true)⟩,⟨(some 36),(.mv (.t 35)),some (33,true)⟩,⟨(some 37),(.mv (.t 4)),some (36,false)⟩,⟨(some 38),(.bin 0 .gtr (.t 37) (.k (.c (.int .i32 122)))),some (36,false)⟩,⟨(some 39),(.pick (.t 36) (.k (.c (.bool true))) (.t 38)),some (33,true)⟩,o 40 (.pick (.t 33) (.t 39) (.k (.c (.bool false)))),o 41 (.mv (.t 40)),⟨(some 42),(.mv (.t 4)),some (41,true)⟩,⟨(some 43),(.bin 0 .lss (.t 42) (.k (.c (.int .i32 65)))),some (41,true)⟩,⟨(some 44),(.mv (.t 43)),some (41,true)⟩,⟨(some 45),(.mv (.t 4)),some (44,false)⟩,⟨(some 46),(.bin 0 .gtr (.t 45) (.k (.c (.int .i32 90)))),some (44,false)⟩,⟨(some 47),(.pick (.t 44) (.k (.c (.bool true))) (.t 46)),some (41,true)⟩,o 48 (.pick (.t 41) (.t 47) (.k (.c (.bool false)))),o 49 (.mv (.t 48)),⟨(some 50),(.mv (.t 4)),some (49,true)⟩,⟨(some 51),(.bin 0 .lss (.t 50) (.k (.c (.int .i32 48)))),some (49,true)⟩,⟨(some 52),(.mv (.t 51)),some (49,true)⟩,⟨(some 53),(.mv (.t 4)),some (52,false)⟩,⟨(some 54),(.bin 0 .gtr (.t 53) (.k (.c (.int .i32 57)))),some (52,false)⟩,⟨(some 55),(.pick (.t 52) (.k (.c (.bool true))) (.t 54)),some (49,true)⟩,o 56 (.pick (.t 49) (.t 55) (.k (.c (.bool false))))])
 (.keep [27,56] (.cond (.t 56) (.seq (.ops [o 2 (.mv (.k (.c (.bool false))))])
 .ret)
 .skip))))))))))
 (.seq (.ops [o 2 (.mv (.k (.c (.bool true))))])
 .ret)))),
 [.tmp 2]⟩
def F236 : AFun := ⟨2,
 (.seq (.ops [o 4 (.mv (.k (.c (.bool false))))])
 (.seq (.ops [o 5 (.mv (.t 0)),o 6 (.mv (.t 1)),o 7 (.call 270 [(.t 5),(.t 6)]),o 8 (.bin 0 .geq (.t 7) (ki 0)),o 4 (.mv (.t 8))])
 .ret)),
 [.tmp 4]⟩
def F237 : AFun := ⟨0,
 (.seq (.ops [o 0 (.mv (.k (.c .nilslice)))])
 (.seq (.ops [o 1 (.mks [(.str (bs []))] 1 [(0,1,(.k (.c (.str (bs [124,124])))))]),o 2 (.mks [(.str (bs []))] 1 [(0,1,(.k (.c (.str (bs [38,38])))))]),o 3 (.mks [(.str (bs []))] 2 [(0,1,(.k (.c (.str (bs [61,61]))))),(1,1,(.k (.c (.str (bs [33,61])))))]),o 4 (.mks [(.str (bs []))] 4 [(0,1,(.k (.c (.str (bs [60]))))),(1,1,(.k (.c (.str (bs [62]))))),(2,1,(.k (.c (.str (bs [60,61]))))),(3,1,(.k (.c (.str (bs [62,61])))))]),o 5 (.mks [(.str (bs []))] 2 [(0,1,(.k (.c (.str (bs [43]))))),(1,1,(.k (.c (.str (bs [45])))))]),o 6 (.mks [(.str (bs []))] 2 [(0,1,(.k (.c (.str (bs [42]))))),(1,1,(.k (.c (.str (bs [47])))))]),o 7 (.mks [.nilslice] 6 [(0,1,(.t 1)),(1,1,(.t 2)),(2,1,(.t 3)),(3,1,(.t 4)),(4,1,(.t 5)),(5,1,(.t 6))]),o 0 (.mv (.t 7))])
 .ret)),
 [.tmp 0]⟩
def F238 : AFun := ⟨2,
 (.seq (.ops [o 3 (.mv (.k (.c (.bool false))))])
 (.seq (.ops [o 4 (.mv (.t 0)),o 5 (.fa 2 (.t 1)),o 6 (.ld (.t 5)),o 7 (.call 190 [(.t 4),(.t 6)]),o 3 (.mv (.t 7))])
 .ret)),
 [.tmp 3]⟩
def F239 : AFun := ⟨1,
 (.seq (.ops [o 2 (.alloc [(.int .i64 0),(.int .i64 0)]),o 3 (.mv (ki 0))])
 (.seq (.ops [o 7 (.call 271 []),o 8 (.mv (.t 0)),o 9 (.lk true (.agg [(.int .i64 0),(.int .i64 0)]) true (.t 7) (.t 8)),o 6 (.mv (.t 9)),o 10 (.ext 0 (.t 6)),o 11 (.ext 1 (.t 6)),o 4 (.alloc [(.int .i64 0),(.int .i64 0)]),e (.st 2 (.t 4) (.t 10)),o 5 (.mv (.t 11))])
 (.seq (.seq (.ops [o 12 (.mv (.t 5)),o 13 (.un .not (.t 12))])
 (.cond (.t 13) (.seq (.ops [o 14 (.agg [(.int .i64 0),(.int .i64 0)] []),e (.st 2 (.t 2) (.t 14)),o 3 (.mv (ki 4))])
 .ret)
 .skip))
 (.keep [2,4] (.seq (.ops [o 15 (.ldn 2 (.t 4)),e (.st 2 (.t 2) (.t 15)),o 3 (.mv (ki 0))])
 .ret))))),
 [.celln 2 2,.tmp 3]⟩
def F240 : AFun := ⟨3,
 (.seq (.ops [o 6 (.alloc [(.int .i64 0),(.int .i64 0)])])
 (.seq (.ops [o 7 (.mv (.t 1)),o 8 (.mv (.t 0)),o 9 (.mv (.t 2)),o 10 (.call 207 [(.t 8),(.t 9)]),o 11 (.fv 5 none (.t 10)),o 12 (.agg [(.int .i64 0),(.int .i64 0)] [(0,1,(.t 7)),(1,1,(.t 11))]),e (.st 2 (.t 6) (.t 12))])
 .ret)),
 [.celln 6 2]⟩
def F241 : AFun := ⟨2,
 (.seq (.ops [o 2 (.box (.t 0)),o 4 (.mv (.k (.c (.bool false))))])
 (.seq (.ops [o 8 (.ld (.t 2)),o 9 (.mv (.t 1)),o 10 (.call 207 [(.t 8),(.t 9)]),o 5 (.alloc [(.int .i64 0),(.str (bs [])),(.str (bs [])),(.int .i32 0),.nilslice,(.int .i64 0)]),e (.st 6 (.t 5) (.t 10))])
 (.seq (.seq (.ops [o 11 (.fa 0 (.t 5)),o 12 (.ld (.t 11))])
 (.block 0 (.seq (.seq (.ops [o 14 (.bin 0 .eql (.t 12) (ki 20)),o 13 (.mv (.t 14))])
 (.cond (.t 13) .skip
 (.seq (.ops [o 15 (.bin 0 .eql (.t 12) (ki 21)),o 13 (.mv (.t 15))])
 (.keep [1,2,5,12,13] (.cond (.t 13) .skip
 (.ops [o 16 (.bin 0 .eql (.t 12) (ki 22)),o 13 (.mv (.t 16))]))))))
 (.cond (.t 13) (.seq (.ops [o 4 (.mv (.k (.c (.bool true))))])
 .ret)
 (.seq (.ops [o 18 (.bin 0 .eql (.t 12) (ki 19)),o 17 (.mv (.t 18))])
 (.keep [1,2,5,12,17] (.cond (.t 17) (.seq (.dops [.op 0 (o 20 (.ld (.t 2))),.op 1 (o 21 (.ld (.t 2))),.op 6 (o 26 (.mv (.t 1))),.op 2 (o 22 (.nilck (.t 21))),.op 3 (o 23 (.fa 0 (.t 22))),.op 4 (o 24 (.fa 3 (.t 23))),.op 5 (o 25 (.ld (.t 24))),.op 7 (o 27 (.ixa 1 (.t 25) (.t 26))),.op 8 (o 28 (.ld (.t 27))),.eff 9 (o 29 (.call 272 [(.t 20),(.t 28)])) [],.op 10 (o 19 (.mv (.t 29))),.op 11 (o 30 (.ext 0 (.t 19))),.op 12 (o 31 (.ext 1 (.t 19))),.op 13 (o 6 (.mv (.t 30))),.op 14 (o 7 (.mv (.t 31)))])
 (.keep [6,7] (.seq (.ops [o 32 (.mv (.t 7)),o 33 (.mv (.t 32)),⟨(some 34),(.mv (.t 6)),some (33,true)⟩,⟨(some 35),(.bin 0 .eql (.t 34) (.k (.c (.str (bs [99,111,110,115,116]))))),some (33,true)⟩,o 36 (.pick (.t 33) (.t 35) (.k (.c (.bool false)))),o 4 (.mv (.t 36))])
 .ret)))
 (.seq (.ops [o 38 (.bin 0 .eql (.t 12) (ki 17)),o 37 (.mv (.t 38))])
 (.cond (.t 37) (.seq (.ops [o 39 (.ld (.t 2)),o 40 (.nilck (.t 39)),o 41 (.fa 0 (.t 40)),o 42 (.fa 4 (.t 41)),o 43 (.ld (.t 42)),o 44 (.mv (.t 1)),o 45 (.ixa 1 (.t 43) (.t 44)),o 46 (.ld (.t 45)),o 47 (.bin 0 .eql (.t 46) (ki 0)),o 48 (.mv (.t 47)),⟨(some 49),(.ld (.t 2)),some (48,false)⟩,⟨(some 50),(.nilck (.t 49)),some (48,false)⟩,⟨(some 51),(.fa 0 (.t 50)),some (48,false)⟩,⟨(some 52),(.fa 4 (.t 51)),some (48,false)⟩,⟨(some 53),(.ld (.t 52)),some (48,false)⟩,⟨(some 54),(.mv (.t 1)),some (48,false)⟩,⟨(some 55),(.ixa 1 (.t 53) (.t 54)),some (48,false)⟩,⟨(some 56),(.ld (.t 55)),some (48,false)⟩,⟨(some 57),(.bin 0 .eql (.t 56) (ki 22)),some (48,false)⟩,o 58 (.pick (.t 48) (.k (.c (.bool true))) (.t 57))])
 (.keep [2,5,58] (.cond (.t 58) (.seq (.ops [o 4 (.mv (.k (.c (.bool false))))])
 .ret)
 .skip)))
 (.seq (.seq (.ops [o 60 (.bin 0 .eql (.t 12) (ki 16)),o 59 (.mv (.t 60))])
 (.cond (.t 59) .skip
 (.seq (.ops [o 61 (.bin 0 .eql (.t 12) (ki 15)),o 59 (.mv (.t 61))])
 (.cond (.t 59) .skip
 (.seq (.ops [o 62 (.bin 0 .eql (.t 12) (ki 14)),o 59 (.mv (.t 62))])
 (.cond (.t 59) .skip
 (.ops [o 63 (.bin 0 .eql (.t 12) (ki 18)),o 59 (.mv (.t 63))])))))))
 (.keep [2,5,59] (.cond (.t 59) .skip
 (.seq (.ops [o 4 (.mv (.k (.c (.bool false))))])
 .ret)))))))))))))
 (.seq (.ops [o 64 (.fa 4 (.t 5)),o 65 (.ld (.t 64)),o 66 (.mkf 274 [] [(.t 2)]),o 67 (.call 273 [(.t 65),(.t 66)]),o 68 (.un .not (.t 67)),o 4 (.mv (.t 68))])
 .ret)))),
 [.tmp 4]⟩
def F242 : AFun := ⟨3,
 (.seq (.ops [o 6 (.alloc [(.int .i64 0),(.int .i64 0)])])
 (.seq (.dops [.op 0 (o 10 (.mv (.t 0))),.op 4 (o 14 (.mv (.t 0))),.op 1 (o 11 (.nilck (.t 10))),.op 5 (o 15 (.nilck (.t 14))),.op 2 (o 12 (.fa 9 (.t 11))),.op 6 (o 16 (.fa 9 (.t 15))),.op 3 (o 13 (.ld (.t 12))),.op 7 (o 17 (.ld (.t 16))),.op 8 (o 18 (.len 1 (.t 17))),.op 9 (o 19 (.bin 0 .sub (.t 18) (ki 1))),.op 10 (o 20 (.ixa 1 (.t 13) (.t 19))),.op 11 (o 21 (.ld (.t 20))),.op 12 (o 7 (.mv (.t 21)))])
 (.keep [0,1,2,6,7] (.seq (.seq (.ops [o 23 (.mv (.t 7)),o 24 (.mv (.t 1)),o 25 (.lk true (.c (.int .i64 0)) true (.t 23) (.t 24)),o 22 (.mv (.t 25)),o 26 (.ext 0 (.t 22)),o 27 (.ext 1 (.t 22)),o 8 (.mv (.t 26)),o 9 (.mv (.t 27))])
 (.seq (.ops [o 28 (.mv (.t 9)),o 29 (.mv (.t 28)),⟨(some 30),(.mv (.t 1)),some (29,false)⟩,⟨(some 31),(.call 275 [(.t 30)]),some (29,false)⟩,o 32 (.pick (.t 29) (.k (.c (.bool true))) (.t 31)),o 33 (.mv (.t 32)),⟨(some 34),(.mv (.t 1)),some (33,false)⟩,⟨(some 35),(.call 276 [(.t 34),(.k (.c (.str (bs [103,108,95]))))]),some (33,false)⟩,o 36 (.pick (.t 33) (.k (.c (.bool true))) (.t 35))])
 (.keep [0,1,2,6,7,36] (.cond (.t 36) (.seq (.ops [o 37 (.mv (.t 0)),o 38 (.mv (.t 2)),o 39 (.call 240 [(.t 37),(ki 240),(.t 38)]),e (.st 2 (.t 6) (.t 39))])
 .ret)
 .skip))))
 (.seq (.ops [o 40 (.mv (.t 7)),o 41 (.mv (.t 1)),o 42 (.mv (.t 2)),e (.mup true (.t 40) (.t 41) (.t 42))])
 (.seq (.ops [o 43 (.agg [(.int .i64 0),(.int .i64 0)] []),e (.st 2 (.t 6) (.t 43))])
 .ret)))))),
 [.celln 6 2]⟩
def F243 : AFun := ⟨4,
 (.seq (.ops [o 6 (.alloc [(.int .i64 0),(.int .i64 0)])])
 (.seq (.dops [.op 0 (o 7 (.mv (.t 0))),.op 1 (o 8 (.mv (.t 0))),.op 4 (o 11 (.ld (.t 2))),.op 2 (o 9 (.nilck (.t 8))),.op 3 (o 10 (.ld (.t 9))),.eff 5 (o 12 (.mks [(.int .i64 0)] 1 [(0,1,(.t 11))])) [o 10 (.ld (.t 9))],.eff 6 (o 13 (.app 1 8 (.t 10) (.t 12))) [],.op 7 (o 14 (.nilck (.t 7))),.eff 8 (e (.st 1 (.t 14) (.t 13))) []])
 (.seq (.dops [.op 0 (o 15 (.ld (.t 3))),.op 1 (o 16 (.mv (.t 0))),.op 5 (o 20 (.mv (.t 1))),.op 7 (o 22 (.ld (.t 2))),.op 2 (o 17 (.nilck (.t 16))),.op 3 (o 18 (.ld (.t 17))),.op 4 (o 19 (.len 1 (.t 18))),.op 6 (o 21 (.bin 0 .leq (.t 19) (.t 20))),.eff 8 (o 23 (.call 244 [(.t 15),(.t 21),(ki 3),(.t 22)])) [],.eff 9 (e (.st 2 (.t 6) (.t 23))) []])
 .ret))),
 [.celln 6 2]⟩
def F244 : AFun := ⟨4,
 (.seq (.ops [o 8 (.alloc [(.int .i64 0),(.int .i64 0)])])
 (.seq (.seq (.ops [o 9 (.mv (.t 1))])
 (.cond (.t 9) (.seq (.ops [o 10 (.agg [(.int .i64 0),(.int .i64 0)] []),e (.st 2 (.t 8) (.t 10))])
 .ret)
 .skip))
 (.seq (.ops [o 11 (.mv (.t 0)),o 12 (.mv (.t 2)),o 13 (.mv (.t 3)),o 14 (.call 240 [(.t 11),(.t 12),(.t 13)]),e (.st 2 (.t 8) (.t 14))])
 .ret))),
 [.celln 8 2]⟩
def F245 : AFun := ⟨3,
 (.seq (.ops [o 3 (.alloc [(.int .i64 0),(.int .i64 0)])])
 (.seq (.seq (.ops [o 8 (.fa 4 (.t 0)),o 9 (.ld (.t 8)),o 10 (.ld (.t 1)),o 11 (.slc 1 (.t 9) none (some (.t 10)) none),o 12 (.len 1 (.t 11)),o 13 (.mv (ki 0))])
 (.block 0 (.loop [0,1,2,3,11,12,13] (.seq (.ops [o 14 (.bin 0 .lss (.t 13) (.t 12))])
 (.seq (.cond (.t 14) .skip
 (.exit 0))
 (.seq (.block 1 (.seq (.ops [o 15 (.ixa 1 (.t 11) (.t 13)),o 16 (.ld (.t 15)),o 5 (.mv (.t 16))])
 (.seq (.ops [o 17 (.ld (.t 2)),o 18 (.mv (.t 5)),o 19 (.call 207 [(.t 17),(.t 18)]),o 6 (.alloc [(.int .i64 0),(.str (bs [])),(.str (bs [])),(.int .i32 0),.nilslice,(.int .i64 0)]),e (.st 6 (.t 6) (.t 19))])
 (.keep [0,1,2,3,5,6,11,12,13] (.seq (.dops [.op 0 (o 21 (.ld (.t 2))),.op 5 (o 26 (.mv (.t 5))),.op 6 (o 27 (.fa 1 (.t 6))),.op 1 (o 22 (.nilck (.t 21))),.op 7 (o 28 (.ld (.t 27))),.op 2 (o 23 (.fa 0 (.t 22))),.op 3 (o 24 (.fa 2 (.t 23))),.op 4 (o 25 (.ld (.t 24))),.eff 8 (o 29 (.call 239 [(.t 28)])) [o 21 (.ld (.t 2)),o 25 (.ld (.t 24))],.op 9 (o 20 (.mv (.t 29))),.op 10 (o 30 (.ext 0 (.t 20))),.op 11 (o 31 (.ext 1 (.t 20))),.op 12 (o 32 (.ixa 2 (.t 25) (.t 26))),.eff 13 (e (.st 2 (.t 32) (.t 30))) []])
 (.keep [0,1,2,3,5,6,11,12,13] (.seq (.seq (.ops [o 33 (.ld (.t 2)),o 34 (.nilck (.t 33)),o 35 (.fa 0 (.t 34)),o 36 (.fa 2 (.t 35)),o 37 (.ld (.t 36)),o 38 (.mv (.t 5)),o 39 (.ixa 2 (.t 37) (.t 38)),o 40 (.fa 0 (.t 39)),o 41 (.ld (.t 40)),o 42 (.bin 0 .eql (.t 41) (ki 0))])
 (.keep [0,1,2,3,5,6,11,12,13,42] (.cond (.t 42) (.seq (.ops [o 43 (.ld (.t 2)),o 44 (.mv (.t 5)),o 45 (.call 240 [(.t 43),(ki 230),(.t 44)]),e (.st 2 (.t 3) (.t 45))])
 .ret)
 .skip)))
 (.seq (.ops [o 46 (.ld (.t 2)),o 47 (.fa 2 (.t 6)),o 48 (.ld (.t 47)),o 49 (.mv (.t 5)),o 50 (.call 242 [(.t 46),(.t 48),(.t 49)]),o 7 (.alloc [(.int .i64 0),(.int .i64 0)]),e (.st 2 (.t 7) (.t 50))])
 (.keep [0,1,2,3,7,11,12,13] (.seq (.ops [o 51 (.fa 0 (.t 7)),o 52 (.ld (.t 51)),o 53 (.bin 0 .neq (.t 52) (ki 0))])
 (.cond (.t 53) (.seq (.ops [o 54 (.ldn 2 (.t 7)),e (.st 2 (.t 3) (.t 54))])
 .ret)
 .skip)))))))))))
 (.ops [o 55 (.bin 0 .add (.t 13) (ki 1)),o 13 (.mv (.t 55))])))))))
 (.keep [0,1,2,3] (.seq (.dops [.op 0 (o 56 (.ld (.t 2))),.op 1 (o 57 (.ld (.t 2))),.op 2 (o 58 (.fa 4 (.t 0))),.op 4 (o 60 (.ld (.t 1))),.op 3 (o 59 (.ld (.t 58))),.op 5 (o 61 (.ixa 1 (.t 59) (.t 60))),.op 6 (o 62 (.ld (.t 61))),.eff 7 (o 63 (.call 207 [(.t 57),(.t 62)])) [o 56 (.ld (.t 2))],.op 8 (o 64 (.fv 4 none (.t 63))),.eff 9 (o 65 (.call 208 [(.t 56),(.t 64)])) [],.eff 10 (e (.st 2 (.t 3) (.t 65))) []])
 .ret)))),
 [.celln 3 2]⟩
def F246 : AFun := ⟨3,
 (.seq (.ops [o 3 (.alloc [(.int .i64 0),(.int .i64 0)])])
 (.seq (.ops [o 4 (.mkf 248 [] [(.t 0),(.t 1),(.t 2)]),o 5 (.mkf 249 [] [(.t 0),(.t 1)]),o 6 (.mks [.nilfn] 2 [(0,1,(.t 4)),(1,1,(.t 5))]),o 7 (.call 247 [(.t 6)]),e (.st 2 (.t 3) (.t 7))])
 .ret)),
 [.celln 3 2]⟩
def F247 : AFun := ⟨1,
 (.seq (.ops [o 2 (.alloc [(.int .i64 0),(.int .i64 0)])])
 (.seq (.seq (.ops [o 6 (.mv (.t 0)),o 7 (.len 1 (.t 6)),o 8 (.mv (ki 0))])
 (.block 0 (.loop [2,6,7,8] (.seq (.ops [o 9 (.bin 0 .lss (.t 8) (.t 7))])
 (.seq (.cond (.t 9) .skip
 (.exit 0))
 (.seq (.block 1 (.seq (.ops [o 10 (.ixa 1 (.t 6) (.t 8)),o 11 (.ld (.t 10)),o 4 (.mv (.t 11))])
 (.seq (.ops [o 12 (.mv (.t 4)),o 13 (.callv (.t 12) []),o 5 (.alloc [(.int .i64 0),(.int .i64 0)]),e (.st 2 (.t 5) (.t 13))])
 (.seq (.ops [o 14 (.fa 0 (.t 5)),o 15 (.ld (.t 14)),o 16 (.bin 0 .neq (.t 15) (ki 0))])
 (.keep [2,5,6,7,8,16] (.cond (.t 16) (.seq (.ops [o 17 (.ldn 2 (.t 5)),e (.st 2 (.t 2) (.t 17))])
 .ret)
 .skip))))))
 (.ops [o 18 (.bin 0 .add (.t 8) (ki 1)),o 8 (.mv (.t 18))])))))))
 (.seq (.ops [o 19 (.agg [(.int .i64 0),(.int .i64 0)] []),e (.st 2 (.t 2) (.t 19))])
 .ret))),
 [.celln 2 2]⟩
def F248 : AFun := ⟨3,
 (.seq (.ops [o 3 (.alloc [(.int .i64 0),(.int .i64 0)])])
 (.seq (.ops [o 4 (.ld (.t 0)),o 5 (.fa 2 (.t 1)),o 6 (.ld (.t 5)),o 7 (.ld (.t 2)),o 8 (.call 242 [(.t 4),(.t 6),(.t 7)]),e (.st 2 (.t 3) (.t 8))])
 .ret)),
 [.celln 3 2]⟩
def F249 : AFun := ⟨2,
 (.seq (.ops [o 2 (.alloc [(.int .i64 0),(.int .i64 0)])])
 (.seq (.dops [.op 0 (o 3 (.ld (.t 0))),.op 1 (o 4 (.fa 4 (.t 1))),.op 2 (o 5 (.ld (.t 4))),.op 3 (o 6 (.ixa 1 (.t 5) (ki 2))),.op 4 (o 7 (.ld (.t 6))),.eff 5 (o 8 (.call 118 [(.t 3),(.t 7)])) [],.eff 6 (e (.st 2 (.t 2) (.t 8))) []])
 .ret)),
 [.celln 2 2]⟩
def F250 : AFun := ⟨2,
 (.seq (.ops [o 2 (.alloc [(.int .i64 0),(.int .i64 0)])])
 (.seq (.dops [.op 0 (o 3 (.ld (.t 0))),.op 1 (o 4 (.fa 4 (.t 1))),.op 2 (o 5 (.ld (.t 4))),.op 3 (o 6 (.ixa 1 (.t 5) (ki 0))),.op 4 (o 7 (.ld (.t 6))),.eff 5 (o 8 (.call 169 [(.t 3),(.t 7)])) [],.eff 6 (e (.st 2 (.t 2) (.t 8))) []])
 .ret)),
 [.celln 2 2]⟩
def F251 : AFun := ⟨3,
 (.seq (.ops [o 3 (.alloc [(.int .i64 0),(.int .i64 0)])])
 (.seq (.dops [.op 0 (o 4 (.ld (.t 0))),.op 1 (o 5 (.ld (.t 0))),.op 5 (o 9 (.agg [(.int .i64 0),(.int .i64 0)] [])),.op 25 (o 29 (.ld (.t 2))),.op 2 (o 6 (.nilck (.t 5))),.op 3 (o 7 (.fa 11 (.t 6))),.op 4 (o 8 (.ldn 2 (.t 7))),.op 6 (o 10 (.eqa true [(.int .i64),(.int .i64)] (.t 8) (.t 9))),.op 7 (o 11 (.mv (.t 10))),.op 8 (⟨(some 12),(.ld (.t 0)),some (11,true)⟩),.op 13 (⟨(some 17),(.fa 4 (.t 1)),some (11,true)⟩),.op 19 (⟨(some 23),(.ld (.t 0)),some (11,true)⟩),.op 9 (⟨(some 13),(.nilck (.t 12)),some (11,true)⟩),.op 14 (⟨(some 18),(.ld (.t 17)),some (11,true)⟩),.op 20 (⟨(some 24),(.nilck (.t 23)),some (11,true)⟩),.op 10 (⟨(some 14),(.fa 0 (.t 13)),some (11,true)⟩),.op 15 (⟨(some 19),(.ixa 1 (.t 18) (ki 0)),some (11,true)⟩),.op 21 (⟨(some 25),(.fa 11 (.t 24)),some (11,true)⟩),.op 11 (⟨(some 15),(.fa 2 (.t 14)),some (11,true)⟩),.op 16 (⟨(some 20),(.ld (.t 19)),some (11,true)⟩),.op 22 (⟨(some 26),(.ldn 2 (.t 25)),some (11,true)⟩),.op 12 (⟨(some 16),(.ld (.t 15)),some (11,true)⟩),.op 17 (⟨(some 21),(.ixa 2 (.t 16) (.t 20)),some (11,true)⟩),.op 18 (⟨(some 22),(.ldn 2 (.t 21)),some (11,true)⟩),.op 23 (⟨(some 27),(.eqa false [(.int .i64),(.int .i64)] (.t 22) (.t 26)),some (11,true)⟩),.op 24 (o 28 (.pick (.t 11) (.t 27) (.k (.c (.bool false))))),.eff 26 (o 30 (.call 244 [(.t 4),(.t 28),(ki 230),(.t 29)])) [],.eff 27 (e (.st 2 (.t 3) (.t 30))) []])
 .ret)),
 [.celln 3 2]⟩
def F252 : AFun := ⟨2,
 (.seq (.ops [o 4 (.mv (.k (.c (.bool false))))])
 (.seq (.ops [o 15 (.mv (.t 0)),o 16 (.mv (.t 1)),o 17 (.call 207 [(.t 15),(.t 16)]),o 5 (.alloc [(.int .i64 0),(.str (bs [])),(.str (bs [])),(.int .i32 0),.nilslice,(.int .i64 0)]),e (.st 6 (.t 5) (.t 17))])
 (.seq (.seq (.ops [o 18 (.fa 0 (.t 5)),o 19 (.ld (.t 18)),o 20 (.bin 0 .eql (.t 19) (ki 18))])
 (.cond (.t 20) (.seq (.dops [.op 0 (o 22 (.mv (.t 0))),.op 5 (o 27 (.fa 4 (.t 5))),.op 11 (o 33 (.fa 2 (.t 5))),.flt 18 (o 6 (.alloc [(.int .i64 0),(.int .i64 0)])) [],.op 1 (o 23 (.nilck (.t 22))),.op 6 (o 28 (.ld (.t 27))),.op 12 (o 34 (.ld (.t 33))),.op 2 (o 24 (.fa 0 (.t 23))),.op 7 (o 29 (.ixa 1 (.t 28) (ki 0))),.op 3 (o 25 (.fa 2 (.t 24))),.op 8 (o 30 (.ld (.t 29))),.op 4 (o 26 (.ld (.t 25))),.op 9 (o 31 (.ixa 2 (.t 26) (.t 30))),.op 10 (o 32 (.ldn 2 (.t 31))),.eff 13 (o 35 (.call 181 [(.t 32),(.t 34)])) [o 6 (.alloc [(.int .i64 0),(.int .i64 0)])],.op 14 (o 21 (.mv (.t 35))),.op 15 (o 36 (.ext 0 (.t 21))),.op 16 (o 37 (.ext 1 (.t 21))),.op 17 (o 38 (.ext 2 (.t 21))),.eff 19 (e (.st 2 (.t 6) (.t 36))) [],.op 20 (o 7 (.mv (.t 37))),.op 21 (o 8 (.mv (.t 38)))])
 (.keep [0,5,7,8] (.seq (.ops [o 39 (.agg [(.bool false),(.bool false),(.bool false),(.bool false)] []),o 9 (.alloc [(.bool false),(.bool false),(.bool false),(.bool false)]),e (.st 4 (.t 9) (.t 39))])
 (.seq (.seq (.ops [o 40 (.mv (.t 7)),o 41 (.len 1 (.t 40)),o 42 (.mv (ki 0))])
 (.block 0 (.loop [0,5,8,9,40,41,42] (.seq (.ops [o 43 (.bin 0 .lss (.t 42) (.t 41))])
 (.seq (.cond (.t 43) .skip
 (.exit 0))
 (.seq (.block 1 (.seq (.ops [o 44 (.ixa 1 (.t 40) (.t 42)),o 45 (.ld (.t 44)),o 11 (.mv (.t 45))])
 (.seq (.seq (.ops [o 46 (.mv (.t 11)),o 47 (.ixp 4 1 (.t 9) (.t 46)),o 48 (.ld (.t 47))])
 (.cond (.t 48) (.seq (.ops [o 4 (.mv (.k (.c (.bool false))))])
 .ret)
 .skip))
 (.keep [0,5,8,9,11,40,41,42] (.ops [o 49 (.mv (.t 11)),o 50 (.ixp 4 1 (.t 9) (.t 49)),e (.st 1 (.t 50) (.k (.c (.bool true))))])))))
 (.ops [o 51 (.bin 0 .add (.t 42) (ki 1)),o 42 (.mv (.t 51))])))))))
 (.seq (.ops [o 52 (.mv (.t 8)),o 53 (.bin 0 .eql (.t 52) (ki 0)),o 54 (.mv (.t 53)),⟨(some 55),(.mv (.t 0)),some (54,true)⟩,⟨(some 56),(.fa 4 (.t 5)),some (54,true)⟩,⟨(some 57),(.ld (.t 56)),some (54,true)⟩,⟨(some 58),(.ixa 1 (.t 57) (ki 0)),some (54,true)⟩,⟨(some 59),(.ld (.t 58)),some (54,true)⟩,⟨(some 60),(.call 252 [(.t 55),(.t 59)]),some (54,true)⟩,o 61 (.pick (.t 54) (.t 60) (.k (.c (.bool false)))),o 4 (.mv (.t 61))])
 .ret)))))
 .skip))
 (.keep [0,1,5] (.seq (.seq (.ops [o 62 (.fa 0 (.t 5)),o 63 (.ld (.t 62)),o 64 (.bin 0 .neq (.t 63) (ki 19))])
 (.cond (.t 64) (.seq (.ops [o 4 (.mv (.k (.c (.bool false))))])
 .ret)
 .skip))
 (.seq (.ops [o 65 (.mv (.t 0)),o 66 (.nilck (.t 65)),o 67 (.fa 0 (.t 66)),o 68 (.fa 3 (.t 67)),o 69 (.ld (.t 68)),o 70 (.mv (.t 1)),o 71 (.ixa 1 (.t 69) (.t 70)),o 72 (.ld (.t 71)),o 12 (.mv (.t 72))])
 (.keep [0,12] (.seq (.ops [o 73 (.mv (.t 12))])
 (.block 2 (.seq (.seq (.ops [o 109 (.bin 0 .eql (.t 73) (ki (-2))),o 108 (.mv (.t 109))])
 (.cond (.t 108) .skip
 (.seq (.ops [o 110 (.bin 0 .eql (.t 73) (ki (-3))),o 108 (.mv (.t 110))])
 (.cond (.t 108) .skip
 (.ops [o 111 (.bin 0 .eql (.t 73) (ki (-7))),o 108 (.mv (.t 111))])))))
 (.cond (.t 108) (.seq (.ops [o 4 (.mv (.k (.c (.bool true))))])
 .ret)
 (.seq (.ops [o 75 (.mv (.t 0)),o 76 (.mv (.t 12)),o 77 (.call 272 [(.t 75),(.t 76)]),o 74 (.mv (.t 77)),o 78 (.ext 0 (.t 74)),o 79 (.ext 1 (.t 74)),o 13 (.mv (.t 78)),o 14 (.mv (.t 79))])
 (.keep [0,12,13,14] (.seq (.ops [o 80 (.mv (.t 12)),o 81 (.bin 0 .geq (.t 80) (ki 0)),o 82 (.mv (.t 81)),⟨(some 83),(.mv (.t 0)),some (82,true)⟩,⟨(some 84),(.mv (.t 12)),some (82,true)⟩,⟨(some 85),(.call 207 [(.t 83),(.t 84)]),some (82,true)⟩,⟨(some 86),(.fv 0 none (.t 85)),some (82,true)⟩,⟨(some 87),(.bin 0 .eql (.t 86) (ki 5)),some (82,true)⟩,o 88 (.pick (.t 82) (.t 87) (.k (.c (.bool false)))),o 89 (.mv (.t 88)),⟨(some 90),(.mv (.t 14)),some (89,false)⟩,⟨(some 91),(.mv (.t 90)),some (89,false)⟩,⟨(some 92),(.mv (.t 13)),some (91,true)⟩,⟨(some 93),(.bin 0 .eql (.t 92) (.k (.c (.str (bs []))))),some (91,true)⟩,⟨(some 94),(.mv (.t 93)),some (91,true)⟩,⟨(some 95),(.mv (.t 13)),some (94,false)⟩,⟨(some 96),(.bin 0 .eql (.t 95) (.k (.c (.str (bs [118,97,114,121,105,110,103]))))),some (94,false)⟩,⟨(some 97),(.mv (.t 96)),some (94,false)⟩,⟨(some 98),(.mv (.t 0)),some (97,true)⟩,⟨(some 99),(.nilck (.t 98)),some (97,true)⟩,⟨(some 100),(.fa 0 (.t 99)),some (97,true)⟩,⟨(some 101),(.fa 1 (.t 100)),some (97,true)⟩,⟨(some 102),(.ld (.t 101)),some (97,true)⟩,⟨(some 103),(.bin 0 .eql (.t 102) (ki 1)),some (97,true)⟩,⟨(some 104),(.pick (.t 97) (.t 103) (.k (.c (.bool false)))),some (94,false)⟩,⟨(some 105),(.pick (.t 94) (.k (.c (.bool true))) (.t 104)),some (91,true)⟩,⟨(some 106),(.pick (.t 91) (.t 105) (.k (.c (.bool false)))),some (89,false)⟩,o 107 (.pick (.t 89) (.k (.c (.bool true))) (.t 106)),o 4 (.mv (.t 107))])
 .ret)))))))))))))),
 [.tmp 4]⟩
def F253 : AFun := ⟨3,
 (.seq (.ops [o 4 (.box (.t 1)),o 5 (.box (.t 2)),o 6 (.alloc [(.int .i64 0),(.int .i64 0)]),o 7 (.mv (ki 0))])
 (.seq (.seq (.ops [o 10 (.ldn 2 (.t 4)),o 11 (.ldn 2 (.t 5)),o 12 (.mks [(.int .i64 0),(.int .i64 0)] 2 [(0,2,(.t 10)),(2,2,(.t 11))]),o 13 (.call 220 [(.t 12)]),o 14 (.un .not (.t 13))])
 (.cond (.t 14) (.seq (.ops [o 15 (.agg [(.int .i64 0),(.int .i64 0)] []),e (.st 2 (.t 6) (.t 15)),o 7 (.mv (ki 2))])
 .ret)
 .skip))
 (.keep [0,4,5,6] (.seq (.seq (.ops [o 16 (.mv (.t 0))])
 (.block 0 (.seq (.ops [o 19 (.bin 0 .eql (.t 16) (.k (.c (.str (bs [61]))))),o 18 (.mv (.t 19))])
 (.cond (.t 18) (.seq (.ops [o 20 (.ldn 2 (.t 4)),o 21 (.call 221 [(.t 20)]),o 22 (.mv (.t 21)),⟨(some 23),(.ldn 2 (.t 4)),some (22,true)⟩,⟨(some 24),(.ldn 2 (.t 5)),some (22,true)⟩,⟨(some 25),(.eqa false [(.int .i64),(.int .i64)] (.t 23) (.t 24)),some (22,true)⟩,o 26 (.pick (.t 22) (.t 25) (.k (.c (.bool false))))])
 (.cond (.t 26) (.seq (.ops [o 27 (.ldn 2 (.t 4)),e (.st 2 (.t 6) (.t 27)),o 7 (.mv (ki 0))])
 .ret)
 .skip))
 (.seq (.seq (.ops [o 29 (.bin 0 .eql (.t 16) (.k (.c (.str (bs [43,61]))))),o 28 (.mv (.t 29))])
 (.cond (.t 28) .skip
 (.seq (.ops [o 30 (.bin 0 .eql (.t 16) (.k (.c (.str (bs [45,61]))))),o 28 (.mv (.t 30))])
 (.cond (.t 28) .skip
 (.seq (.ops [o 31 (.bin 0 .eql (.t 16) (.k (.c (.str (bs [42,61]))))),o 28 (.mv (.t 31))])
 (.cond (.t 28) .skip
 (.ops [o 32 (.bin 0 .eql (.t 16) (.k (.c (.str (bs [47,61]))))),o 28 (.mv (.t 32))])))))))
 (.keep [0,4,5,6,28] (.cond (.t 28) (.seq (.dops [.op 0 (o 34 (.mv (.t 0))),.op 2 (o 36 (.ldn 2 (.t 4))),.op 3 (o 37 (.ldn 2 (.t 5))),.flt 8 (o 8 (.alloc [(.int .i64 0),(.int .i64 0)])) [o 36 (.ldn 2 (.t 4)),o 37 (.ldn 2 (.t 5))],.op 1 (o 35 (.slcs (.t 34) none (some (ki 1)))),.eff 4 (o 38 (.call 256 [(.t 35),(.t 36),(.t 37)])) [o 8 (.alloc [(.int .i64 0),(.int .i64 0)])],.op 5 (o 33 (.mv (.t 38))),.op 6 (o 39 (.ext 0 (.t 33))),.op 7 (o 40 (.ext 1 (.t 33))),.eff 9 (e (.st 2 (.t 8) (.t 39))) [],.op 10 (o 9 (.mv (.t 40)))])
 (.keep [4,6,8,9] (.seq (.ops [o 41 (.mv (.t 9)),o 42 (.bin 0 .eql (.t 41) (ki 0)),o 43 (.mv (.t 42)),⟨(some 44),(.ldn 2 (.t 8)),some (43,true)⟩,⟨(some 45),(.ldn 2 (.t 4)),some (43,true)⟩,⟨(some 46),(.eqa false [(.int .i64),(.int .i64)] (.t 44) (.t 45)),some (43,true)⟩,o 47 (.pick (.t 43) (.t 46) (.k (.c (.bool false))))])
 (.cond (.t 47) (.seq (.ops [o 48 (.ldn 2 (.t 4)),e (.st 2 (.t 6) (.t 48)),o 7 (.mv (ki 0))])
 .ret)
 .skip))))
 (.seq (.ops [o 17 (.agg [(.int .i64 0),(.int .i64 0)] []),e (.st 2 (.t 6) (.t 17)),o 7 (.mv (ki 4))])
 .ret))))))))
 (.keep [6] (.seq (.ops [o 49 (.agg [(.int .i64 0),(.int .i64 0)] []),e (.st 2 (.t 6) (.t 49)),o 7 (.mv (ki 230))])
 .ret)))))),
 [.celln 6 2,.tmp 7]⟩
def F254 : AFun := ⟨4,
 (.seq (.ops [o 6 (.box (.t 2)),o 8 (.alloc [(.int .i64 0),(.int .i64 0)])])
 (.seq (.seq (.ops [o 9 (.mv (.t 3)),o 10 (.bin 0 .neq (.t 9) (ki 0))])
 (.cond (.t 10) (.seq (.ops [o 11 (.mv (.t 0)),o 12 (.mv (.t 1)),o 13 (.call 240 [(.t 11),(ki 230),(.t 12)]),e (.st 2 (.t 8) (.t 13))])
 .ret)
 .skip))
 (.seq (.dops [.op 0 (o 14 (.mv (.t 0))),.op 5 (o 19 (.mv (.t 1))),.op 6 (o 20 (.ldn 2 (.t 6))),.op 1 (o 15 (.nilck (.t 14))),.op 2 (o 16 (.fa 0 (.t 15))),.op 3 (o 17 (.fa 2 (.t 16))),.op 4 (o 18 (.ld (.t 17))),.op 7 (o 21 (.ixa 2 (.t 18) (.t 19))),.eff 8 (e (.st 2 (.t 21) (.t 20))) []])
 (.keep [8] (.seq (.ops [o 22 (.agg [(.int .i64 0),(.int .i64 0)] []),e (.st 2 (.t 8) (.t 22))])
 .ret))))),
 [.celln 8 2]⟩
def F255 : AFun := ⟨3,
 (.seq (.ops [o 3 (.box (.t 0)),o 4 (.box (.t 1)),o 5 (.box (.t 2)),o 6 (.alloc [(.int .i64 0),(.int .i64 0)]),o 7 (.mv (ki 0))])
 (.seq (.block 0 (.seq (.ops [o 9 (.ldn 2 (.t 3)),o 10 (.ldn 2 (.t 4)),o 11 (.ldn 2 (.t 5)),o 12 (.mks [(.int .i64 0),(.int .i64 0)] 3 [(0,2,(.t 9)),(2,2,(.t 10)),(4,2,(.t 11))]),o 13 (.call 220 [(.t 12)]),o 14 (.un .not (.t 13)),o 8 (.mv (.t 14))])
 (.keep [3,4,5,6,8] (.cond (.t 8) (.seq (.ops [o 15 (.agg [(.int .i64 0),(.int .i64 0)] []),e (.st 2 (.t 6) (.t 15)),o 7 (.mv (ki 2))])
 .ret)
 (.seq (.dops [.op 0 (o 17 (.ldn 2 (.t 3))),.eff 1 (o 18 (.call 277 [(ki 3)])) [o 17 (.ldn 2 (.t 3))],.op 2 (o 19 (.eqa false [(.int .i64),(.int .i64)] (.t 17) (.t 18))),.op 3 (o 20 (.mv (.t 19))),.op 4 (⟨(some 21),(.ldn 2 (.t 4)),some (20,true)⟩),.eff 5 (⟨(some 22),(.call 221 [(.t 21)]),some (20,true)⟩) [],.op 6 (o 23 (.pick (.t 20) (.t 22) (.k (.c (.bool false))))),.op 7 (o 24 (.mv (.t 23))),.op 8 (⟨(some 25),(.ldn 2 (.t 4)),some (24,true)⟩),.op 9 (⟨(some 26),(.ldn 2 (.t 5)),some (24,true)⟩),.op 10 (⟨(some 27),(.eqa false [(.int .i64),(.int .i64)] (.t 25) (.t 26)),some (24,true)⟩),.op 11 (o 28 (.pick (.t 24) (.t 27) (.k (.c (.bool false))))),.op 12 (o 16 (.mv (.t 28)))])
 (.keep [4,6,16] (.cond (.t 16) (.seq (.ops [o 29 (.ldn 2 (.t 4)),e (.st 2 (.t 6) (.t 29)),o 7 (.mv (ki 0))])
 .ret)
 .skip)))))))
 (.seq (.ops [o 30 (.agg [(.int .i64 0),(.int .i64 0)] []),e (.st 2 (.t 6) (.t 30)),o 7 (.mv (ki 230))])
 .ret))),
 [.celln 6 2,.tmp 7]⟩
def F256 : AFun := ⟨3,
 (.seq (.ops [o 4 (.box (.t 1)),o 5 (.box (.t 2)),o 6 (.alloc [(.int .i64 0),(.int .i64 0)]),o 7 (.mv (ki 0))])
 (.seq (.seq (.ops [o 9 (.ldn 2 (.t 4)),o 10 (.ldn 2 (.t 5)),o 11 (.mks [(.int .i64 0),(.int .i64 0)] 2 [(0,2,(.t 9)),(2,2,(.t 10))]),o 12 (.call 220 [(.t 11)]),o 13 (.un .not (.t 12))])
 (.cond (.t 13) (.seq (.ops [o 14 (.agg [(.int .i64 0),(.int .i64 0)] []),e (.st 2 (.t 6) (.t 14)),o 7 (.mv (ki 2))])
 .ret)
 .skip))
 (.keep [0,4,5,6] (.seq (.ops [o 15 (.call 277 [(ki 3)]),o 8 (.alloc [(.int .i64 0),(.int .i64 0)]),e (.st 2 (.t 8) (.t 15))])
 (.seq (.seq (.ops [o 16 (.mv (.t 0))])
 (.block 0 (.seq (.seq (.ops [o 19 (.bin 0 .eql (.t 16) (.k (.c (.str (bs [43]))))),o 18 (.mv (.t 19))])
 (.cond (.t 18) .skip
 (.seq (.ops [o 20 (.bin 0 .eql (.t 16) (.k (.c (.str (bs [45]))))),o 18 (.mv (.t 20))])
 (.cond (.t 18) .skip
 (.seq (.ops [o 21 (.bin 0 .eql (.t 16) (.k (.c (.str (bs [42]))))),o 18 (.mv (.t 21))])
 (.cond (.t 18) .skip
 (.ops [o 22 (.bin 0 .eql (.t 16) (.k (.c (.str (bs [47]))))),o 18 (.mv (.t 22))])))))))
 (.keep [4,5,6,8,16,18] (.cond (.t 18) (.seq (.ops [o 23 (.ldn 2 (.t 4)),o 24 (.call 263 [(.t 23)]),o 25 (.mv (.t 24)),⟨(some 26),(.fa 0 (.t 4)),some (25,true)⟩,⟨(some 27),(.ld (.t 26)),some (25,true)⟩,⟨(some 28),(.fa 0 (.t 5)),some (25,true)⟩,⟨(some 29),(.ld (.t 28)),some (25,true)⟩,⟨(some 30),(.bin 0 .eql (.t 27) (.t 29)),some (25,true)⟩,o 31 (.pick (.t 25) (.t 30) (.k (.c (.bool false)))),o 32 (.mv (.t 31)),⟨(some 33),(.fa 1 (.t 4)),some (32,true)⟩,⟨(some 34),(.ld (.t 33)),some (32,true)⟩,⟨(some 35),(.fa 1 (.t 5)),some (32,true)⟩,⟨(some 36),(.ld (.t 35)),some (32,true)⟩,⟨(some 37),(.bin 0 .eql (.t 34) (.t 36)),some (32,true)⟩,⟨(some 38),(.mv (.t 37)),some (32,true)⟩,⟨(some 39),(.fa 1 (.t 4)),some (38,false)⟩,⟨(some 40),(.ld (.t 39)),some (38,false)⟩,⟨(some 41),(.bin 0 .eql (.t 40) (ki 1)),some (38,false)⟩,⟨(some 42),(.pick (.t 38) (.k (.c (.bool true))) (.t 41)),some (32,true)⟩,⟨(some 43),(.mv (.t 42)),some (32,true)⟩,⟨(some 44),(.fa 1 (.t 5)),some (43,false)⟩,⟨(some 45),(.ld (.t 44)),some (43,false)⟩,⟨(some 46),(.bin 0 .eql (.t 45) (ki 1)),some (43,false)⟩,⟨(some 47),(.pick (.t 43) (.k (.c (.bool true))) (.t 46)),some (32,true)⟩,o 48 (.pick (.t 32) (.t 47) (.k (.c (.bool false))))])
 (.keep [4,5,6,48] (.cond (.t 48) (.seq (.ops [o 49 (.fa 0 (.t 4)),o 50 (.ld (.t 49)),o 51 (.fa 1 (.t 4)),o 52 (.ld (.t 51)),o 53 (.fa 1 (.t 5)),o 54 (.ld (.t 53)),o 55 (.mx [(.t 52),(.t 54)]),o 56 (.agg [(.int .i64 0),(.int .i64 0)] [(0,1,(.t 50)),(1,1,(.t 55))]),e (.st 2 (.t 6) (.t 56)),o 7 (.mv (ki 0))])
 .ret)
 .skip)))
 (.seq (.seq (.ops [o 58 (.bin 0 .eql (.t 16) (.k (.c (.str (bs [60]))))),o 57 (.mv (.t 58))])
 (.cond (.t 57) .skip
 (.seq (.ops [o 59 (.bin 0 .eql (.t 16) (.k (.c (.str (bs [62]))))),o 57 (.mv (.t 59))])
 (.cond (.t 57) .skip
 (.seq (.ops [o 60 (.bin 0 .eql (.t 16) (.k (.c (.str (bs [60,61]))))),o 57 (.mv (.t 60))])
 (.cond (.t 57) .skip
 (.ops [o 61 (.bin 0 .eql (.t 16) (.k (.c (.str (bs [62,61]))))),o 57 (.mv (.t 61))])))))))
 (.cond (.t 57) (.seq (.ops [o 62 (.ldn 2 (.t 4)),o 63 (.call 263 [(.t 62)]),o 64 (.mv (.t 63)),⟨(some 65),(.ldn 2 (.t 4)),some (64,true)⟩,⟨(some 66),(.ldn 2 (.t 5)),some (64,true)⟩,⟨(some 67),(.eqa false [(.int .i64),(.int .i64)] (.t 65) (.t 66)),some (64,true)⟩,o 68 (.pick (.t 64) (.t 67) (.k (.c (.bool false)))),o 69 (.mv (.t 68)),⟨(some 70),(.fa 1 (.t 4)),some (69,true)⟩,⟨(some 71),(.ld (.t 70)),some (69,true)⟩,⟨(some 72),(.bin 0 .eql (.t 71) (ki 1)),some (69,true)⟩,o 73 (.pick (.t 69) (.t 72) (.k (.c (.bool false))))])
 (.keep [6,8,73] (.cond (.t 73) (.seq (.ops [o 74 (.ldn 2 (.t 8)),e (.st 2 (.t 6) (.t 74)),o 7 (.mv (ki 0))])
 .ret)
 .skip)))
 (.seq (.seq (.ops [o 76 (.bin 0 .eql (.t 16) (.k (.c (.str (bs [61,61]))))),o 75 (.mv (.t 76))])
 (.keep [4,5,6,8,16,75] (.cond (.t 75) .skip
 (.ops [o 77 (.bin 0 .eql (.t 16) (.k (.c (.str (bs [33,61]))))),o 75 (.mv (.t 77))]))))
 (.cond (.t 75) (.seq (.ops [o 78 (.ldn 2 (.t 4)),o 79 (.call 221 [(.t 78)]),o 80 (.mv (.t 79)),⟨(some 81),(.ldn 2 (.t 4)),some (80,true)⟩,⟨(some 82),(.ldn 2 (.t 5)),some (80,true)⟩,⟨(some 83),(.eqa false [(.int .i64),(.int .i64)] (.t 81) (.t 82)),some (80,true)⟩,o 84 (.pick (.t 80) (.t 83) (.k (.c (.bool false))))])
 (.keep [6,8,84] (.cond (.t 84) (.seq (.ops [o 85 (.ldn 2 (.t 8)),e (.st 2 (.t 6) (.t 85)),o 7 (.mv (ki 0))])
 .ret)
 .skip)))
 (.seq (.seq (.ops [o 87 (.bin 0 .eql (.t 16) (.k (.c (.str (bs [38,38]))))),o 86 (.mv (.t 87))])
 (.cond (.t 86) .skip
 (.ops [o 88 (.bin 0 .eql (.t 16) (.k (.c (.str (bs [124,124]))))),o 86 (.mv (.t 88))])))
 (.cond (.t 86) (.seq (.ops [o 89 (.ldn 2 (.t 4)),o 90 (.ldn 2 (.t 8)),o 91 (.eqa false [(.int .i64),(.int .i64)] (.t 89) (.t 90)),o 92 (.mv (.t 91)),⟨(some 93),(.ldn 2 (.t 5)),some (92,true)⟩,⟨(some 94),(.ldn 2 (.t 8)),some (92,true)⟩,⟨(some 95),(.eqa false [(.int .i64),(.int .i64)] (.t 93) (.t 94)),some (92,true)⟩,o 96 (.pick (.t 92) (.t 95) (.k (.c (.bool false))))])
 (.keep [6,8,96] (.cond (.t 96) (.seq (.ops [o 97 (.ldn 2 (.t 8)),e (.st 2 (.t 6) (.t 97)),o 7 (.mv (ki 0))])
 .ret)
 .skip)))
 (.seq (.ops [o 17 (.agg [(.int .i64 0),(.int .i64 0)] []),e (.st 2 (.t 6) (.t 17)),o 7 (.mv (ki 4))])
 .ret))))))))))))
 (.keep [6] (.seq (.ops [o 98 (.agg [(.int .i64 0),(.int .i64 0)] []),e (.st 2 (.t 6) (.t 98)),o 7 (.mv (ki 230))])
 .ret))))))),
 [.celln 6 2,.tmp 7]⟩
def F257 : AFun := ⟨2,
 (.seq (.ops [o 3 (.box (.t 1)),o 4 (.alloc [(.int .i64 0),(.int .i64 0)]),o 5 (.mv (ki 0))])
 (.seq (.block 0 (.seq (.ops [o 7 (.ldn 2 (.t 3)),o 8 (.mks [(.int .i64 0),(.int .i64 0)] 1 [(0,2,(.t 7))]),o 9 (.call 220 [(.t 8)]),o 10 (.un .not (.t 9)),o 6 (.mv (.t 10))])
 (.cond (.t 6) (.seq (.ops [o 11 (.agg [(.int .i64 0),(.int .i64 0)] []),e (.st 2 (.t 4) (.t 11)),o 5 (.mv (ki 2))])
 .ret)
 (.seq (.ops [o 13 (.mv (.t 0)),o 14 (.bin 0 .neq (.t 13) (.k (.c (.str (bs [45]))))),o 15 (.mv (.t 14)),⟨(some 16),(.mv (.t 0)),some (15,true)⟩,⟨(some 17),(.bin 0 .neq (.t 16) (.k (.c (.str (bs [33]))))),some (15,true)⟩,o 18 (.pick (.t 15) (.t 17) (.k (.c (.bool false)))),o 12 (.mv (.t 18))])
 (.keep [0,3,4,12] (.cond (.t 12) (.seq (.ops [o 19 (.agg [(.int .i64 0),(.int .i64 0)] []),e (.st 2 (.t 4) (.t 19)),o 5 (.mv (ki 4))])
 .ret)
 (.seq (.dops [.op 0 (o 21 (.mv (.t 0))),.op 1 (o 22 (.bin 0 .eql (.t 21) (.k (.c (.str (bs [45])))))),.op 2 (o 23 (.mv (.t 22))),.op 3 (⟨(some 24),(.ldn 2 (.t 3)),some (23,true)⟩),.eff 4 (⟨(some 25),(.call 263 [(.t 24)]),some (23,true)⟩) [],.op 5 (o 26 (.pick (.t 23) (.t 25) (.k (.c (.bool false))))),.op 6 (o 27 (.mv (.t 26))),.op 7 (⟨(some 28),(.mv (.t 0)),some (27,false)⟩),.op 8 (⟨(some 29),(.bin 0 .eql (.t 28) (.k (.c (.str (bs [33]))))),some (27,false)⟩),.op 9 (⟨(some 30),(.mv (.t 29)),some (27,false)⟩),.op 10 (⟨(some 31),(.ldn 2 (.t 3)),some (30,true)⟩),.eff 11 (⟨(some 32),(.call 277 [(ki 3)]),some (30,true)⟩) [⟨(some 31),(.ldn 2 (.t 3)),some (30,true)⟩],.op 12 (⟨(some 33),(.eqa false [(.int .i64),(.int .i64)] (.t 31) (.t 32)),some (30,true)⟩),.op 13 (⟨(some 34),(.pick (.t 30) (.t 33) (.k (.c (.bool false)))),some (27,false)⟩),.op 14 (o 35 (.pick (.t 27) (.k (.c (.bool true))) (.t 34))),.op 15 (o 20 (.mv (.t 35)))])
 (.keep [3,4,20] (.cond (.t 20) (.seq (.ops [o 36 (.ldn 2 (.t 3)),e (.st 2 (.t 4) (.t 36)),o 5 (.mv (ki 0))])
 .ret)
 .skip)))))))))
 (.seq (.ops [o 37 (.agg [(.int .i64 0),(.int .i64 0)] []),e (.st 2 (.t 4) (.t 37)),o 5 (.mv (ki 230))])
 .ret))),
 [.celln 4 2,.tmp 5]⟩
def F258 : AFun := ⟨3,
 (.seq (.ops [o 3 (.box (.t 0)),o 6 (.alloc [(.int .i64 0),(.int .i64 0)])])
 (.seq (.ops [o 14 (.ld (.t 3)),o 15 (.mv (.t 1)),o 16 (.call 207 [(.t 14),(.t 15)]),o 17 (.fv 2 none (.t 16)),o 7 (.mv (.t 17))])
 (.seq (.seq (.ops [o 18 (.mv (.t 7)),o 19 (.call 188 [(.t 18)]),o 20 (.mv (.t 19)),⟨(some 21),(.mv (.t 7)),some (20,false)⟩,⟨(some 22),(.call 275 [(.t 21)]),some (20,false)⟩,o 23 (.pick (.t 20) (.k (.c (.bool true))) (.t 22))])
 (.keep [1,2,3,6,7,23] (.cond (.t 23) (.seq (.ops [o 25 (.mv (.t 7)),o 26 (.mv (.t 2)),o 27 (.call 278 [(.t 25),(.t 26)]),o 24 (.mv (.t 27)),o 28 (.ext 0 (.t 24)),o 29 (.ext 1 (.t 24)),o 30 (.ext 2 (.t 24)),o 8 (.alloc [(.int .i64 0),(.int .i64 0)]),e (.st 2 (.t 8) (.t 28)),o 9 (.mv (.t 29)),o 10 (.mv (.t 30))])
 (.keep [1,3,6,8,9,10] (.seq (.seq (.ops [o 31 (.mv (.t 10)),o 32 (.bin 0 .neq (.t 31) (ki 0))])
 (.cond (.t 32) (.seq (.ops [o 33 (.ld (.t 3)),o 34 (.mv (.t 1)),o 35 (.call 240 [(.t 33),(ki 230),(.t 34)]),e (.st 2 (.t 6) (.t 35))])
 .ret)
 .skip))
 (.seq (.dops [.op 0 (o 36 (.ld (.t 3))),.op 5 (o 41 (.mv (.t 1))),.op 6 (o 42 (.ld (.t 3))),.op 11 (o 47 (.mv (.t 1))),.op 12 (o 48 (.ldn 2 (.t 8))),.op 13 (o 49 (.mv (.t 9))),.op 1 (o 37 (.nilck (.t 36))),.op 7 (o 43 (.nilck (.t 42))),.op 2 (o 38 (.fa 0 (.t 37))),.op 8 (o 44 (.fa 0 (.t 43))),.op 3 (o 39 (.fa 2 (.t 38))),.op 9 (o 45 (.fa 4 (.t 44))),.op 4 (o 40 (.ld (.t 39))),.op 10 (o 46 (.ld (.t 45))),.op 14 (o 50 (.ixa 2 (.t 40) (.t 41))),.eff 15 (e (.st 2 (.t 50) (.t 48))) [],.op 16 (o 51 (.ixa 1 (.t 46) (.t 47))),.eff 17 (e (.st 1 (.t 51) (.t 49))) []])
 (.keep [6] (.seq (.ops [o 52 (.agg [(.int .i64 0),(.int .i64 0)] []),e (.st 2 (.t 6) (.t 52))])
 .ret))))))
 .skip)))
 (.seq (.ops [o 54 (.ld (.t 3)),o 55 (.mv (.t 7)),o 56 (.call 279 [(.t 54),(.t 55)]),o 53 (.mv (.t 56)),o 57 (.ext 0 (.t 53)),o 58 (.ext 1 (.t 53)),o 11 (.mv (.t 57)),o 12 (.mv (.t 58))])
 (.seq (.seq (.ops [o 59 (.mv (.t 12)),o 60 (.un .not (.t 59)),o 61 (.mv (.t 60)),⟨(some 62),(.mv (.t 11)),some (61,false)⟩,⟨(some 63),(.bin 0 .lss (.t 62) (ki 0)),some (61,false)⟩,o 64 (.pick (.t 61) (.k (.c (.bool true))) (.t 63)),o 65 (.mv (.t 64)),⟨(some 66),(.ld (.t 3)),some (65,false)⟩,⟨(some 67),(.mv (.t 11)),some (65,false)⟩,⟨(some 68),(.call 207 [(.t 66),(.t 67)]),some (65,false)⟩,⟨(some 69),(.fv 0 none (.t 68)),some (65,false)⟩,⟨(some 70),(.bin 0 .neq (.t 69) (ki 4)),some (65,false)⟩,o 71 (.pick (.t 65) (.k (.c (.bool true))) (.t 70)),o 72 (.mv (.t 71)),⟨(some 73),(.mv (.t 7)),some (72,false)⟩,⟨(some 74),(.bin 0 .eql (.t 73) (.k (.c (.str (bs [109,97,105,110]))))),some (72,false)⟩,o 75 (.pick (.t 72) (.k (.c (.bool true))) (.t 74))])
 (.keep [1,2,3,6,11,75] (.cond (.t 75) (.seq (.ops [o 76 (.ld (.t 3)),o 77 (.mv (.t 1)),o 78 (.call 240 [(.t 76),(ki 240),(.t 77)]),e (.st 2 (.t 6) (.t 78))])
 .ret)
 .skip)))
 (.seq (.ops [o 79 (.ld (.t 3)),o 80 (.mv (.t 11)),o 81 (.call 207 [(.t 79),(.t 80)]),o 82 (.fv 4 none (.t 81)),o 13 (.mv (.t 82))])
 (.keep [1,2,3,6,11,13] (.seq (.ops [o 83 (.mv (.t 13)),o 84 (.mv (.t 13)),o 85 (.len 1 (.t 84)),o 86 (.bin 0 .sub (.t 85) (ki 1)),o 87 (.slc 1 (.t 83) none (some (.t 86)) none),o 13 (.mv (.t 87))])
 (.seq (.seq (.ops [o 88 (.mv (.t 13)),o 89 (.mv (.t 2)),o 90 (.mkf 281 [] [(.t 3)]),o 91 (.call 280 [(.t 88),(.t 89),(.t 90)]),o 92 (.un .not (.t 91))])
 (.keep [1,3,6,11,92] (.cond (.t 92) (.seq (.ops [o 93 (.ld (.t 3)),o 94 (.mv (.t 1)),o 95 (.call 240 [(.t 93),(ki 230),(.t 94)]),e (.st 2 (.t 6) (.t 95))])
 .ret)
 .skip)))
 (.seq (.dops [.op 0 (o 96 (.ld (.t 3))),.op 5 (o 101 (.mv (.t 1))),.op 6 (o 102 (.ld (.t 3))),.op 11 (o 107 (.mv (.t 1))),.op 12 (o 108 (.ld (.t 3))),.op 17 (o 113 (.mv (.t 11))),.op 20 (o 116 (.mv (.t 11))),.op 1 (o 97 (.nilck (.t 96))),.op 7 (o 103 (.nilck (.t 102))),.op 13 (o 109 (.nilck (.t 108))),.op 2 (o 98 (.fa 0 (.t 97))),.op 8 (o 104 (.fa 0 (.t 103))),.op 14 (o 110 (.fa 0 (.t 109))),.op 3 (o 99 (.fa 2 (.t 98))),.op 9 (o 105 (.fa 3 (.t 104))),.op 15 (o 111 (.fa 2 (.t 110))),.op 4 (o 100 (.ld (.t 99))),.op 10 (o 106 (.ld (.t 105))),.op 16 (o 112 (.ld (.t 111))),.op 18 (o 114 (.ixa 2 (.t 112) (.t 113))),.op 19 (o 115 (.ldn 2 (.t 114))),.op 21 (o 117 (.ixa 2 (.t 100) (.t 101))),.eff 22 (e (.st 2 (.t 117) (.t 115))) [],.op 23 (o 118 (.ixa 1 (.t 106) (.t 107))),.eff 24 (e (.st 1 (.t 118) (.t 116))) []])
 (.keep [6] (.seq (.ops [o 119 (.agg [(.int .i64 0),(.int .i64 0)] []),e (.st 2 (.t 6) (.t 119))])
 .ret)))))))))))),
 [.celln 6 2]⟩
def F259 : AFun := ⟨2,
 (.seq (.ops [o 4 (.alloc [(.int .i64 0),(.int .i64 0)])])
 (.seq (.ops [o 8 (.mv (.t 0)),o 9 (.mv (.t 1)),o 10 (.call 207 [(.t 8),(.t 9)]),o 5 (.alloc [(.int .i64 0),(.str (bs [])),(.str (bs [])),(.int .i32 0),.nilslice,(.int .i64 0)]),e (.st 6 (.t 5) (.t 10))])
 (.seq (.ops [o 12 (.mv (.t 0)),o 13 (.fa 2 (.t 5)),o 14 (.ld (.t 13)),o 15 (.call 279 [(.t 12),(.t 14)]),o 11 (.mv (.t 15)),o 16 (.ext 0 (.t 11)),o 17 (.ext 1 (.t 11)),o 6 (.mv (.t 16)),o 7 (.mv (.t 17))])
 (.keep [0,1,4,5,6,7] (.seq (.seq (.ops [o 18 (.mv (.t 7)),o 19 (.un .not (.t 18)),o 20 (.mv (.t 19)),⟨(some 21),(.mv (.t 6)),some (20,false)⟩,⟨(some 22),(.bin 0 .geq (.t 21) (ki 0)),some (20,false)⟩,⟨(some 23),(.mv (.t 22)),some (20,false)⟩,⟨(some 24),(.mv (.t 0)),some (23,true)⟩,⟨(some 25),(.mv (.t 6)),some (23,true)⟩,⟨(some 26),(.call 207 [(.t 24),(.t 25)]),some (23,true)⟩,⟨(some 27),(.fv 0 none (.t 26)),some (23,true)⟩,⟨(some 28),(.bin 0 .eql (.t 27) (ki 4)),some (23,true)⟩,⟨(some 29),(.pick (.t 23) (.t 28) (.k (.c (.bool false)))),some (20,false)⟩,o 30 (.pick (.t 20) (.k (.c (.bool true))) (.t 29))])
 (.keep [0,1,4,5,6,30] (.cond (.t 30) (.seq (.ops [o 31 (.mv (.t 0)),o 32 (.mv (.t 1)),o 33 (.call 240 [(.t 31),(ki 240),(.t 32)]),e (.st 2 (.t 4) (.t 33))])
 .ret)
 .skip)))
 (.seq (.ops [o 34 (.mv (.t 0)),o 35 (.nilck (.t 34)),o 36 (.fa 0 (.t 35)),o 37 (.fa 3 (.t 36)),o 38 (.ld (.t 37)),o 39 (.mv (.t 1)),o 40 (.mv (.t 6)),o 41 (.ixa 1 (.t 38) (.t 39)),e (.st 1 (.t 41) (.t 40))])
 (.keep [0,1,4,5,6] (.seq (.seq (.ops [o 42 (.mv (.t 6)),o 43 (.bin 0 .geq (.t 42) (ki 0))])
 (.cond (.t 43) (.dops [.op 0 (o 44 (.mv (.t 0))),.op 5 (o 49 (.mv (.t 1))),.op 6 (o 50 (.mv (.t 0))),.op 11 (o 55 (.mv (.t 6))),.op 1 (o 45 (.nilck (.t 44))),.op 7 (o 51 (.nilck (.t 50))),.op 2 (o 46 (.fa 0 (.t 45))),.op 8 (o 52 (.fa 0 (.t 51))),.op 3 (o 47 (.fa 2 (.t 46))),.op 9 (o 53 (.fa 2 (.t 52))),.op 4 (o 48 (.ld (.t 47))),.op 10 (o 54 (.ld (.t 53))),.op 12 (o 56 (.ixa 2 (.t 54) (.t 55))),.op 13 (o 57 (.ldn 2 (.t 56))),.op 14 (o 58 (.ixa 2 (.t 48) (.t 49))),.eff 15 (e (.st 2 (.t 58) (.t 57))) []])
 (.dops [.op 0 (o 60 (.mv (.t 0))),.op 5 (o 65 (.mv (.t 1))),.op 6 (o 66 (.fa 2 (.t 5))),.op 8 (o 68 (.mv (.t 0))),.op 1 (o 61 (.nilck (.t 60))),.op 7 (o 67 (.ld (.t 66))),.op 9 (o 69 (.nilck (.t 68))),.op 2 (o 62 (.fa 0 (.t 61))),.op 10 (o 70 (.fa 0 (.t 69))),.op 3 (o 63 (.fa 2 (.t 62))),.op 11 (o 71 (.fa 1 (.t 70))),.op 4 (o 64 (.ld (.t 63))),.op 12 (o 72 (.ld (.t 71))),.eff 13 (o 73 (.call 7 [(.t 67),(.t 72)])) [o 64 (.ld (.t 63))],.op 14 (o 59 (.mv (.t 73))),.op 15 (o 74 (.ext 0 (.t 59))),.op 16 (o 75 (.ext 1 (.t 59))),.op 17 (o 76 (.ext 2 (.t 59))),.op 18 (o 77 (.ixa 2 (.t 64) (.t 65))),.eff 19 (e (.st 2 (.t 77) (.t 75))) []])))
 (.keep [4] (.seq (.ops [o 78 (.agg [(.int .i64 0),(.int .i64 0)] []),e (.st 2 (.t 4) (.t 78))])
 .ret)))))))))),
 [.celln 4 2]⟩
def F260 : AFun := ⟨2,
 (.seq (.ops [o 3 (.mv (.k (.c (.int .i32 0))))])
 (.seq (.ops [o 4 (.ld (.t 1)),o 5 (.mv (.t 0)),o 6 (.ixa 1 (.t 4) (.t 5)),o 7 (.ld (.t 6)),o 3 (.mv (.t 7))])
 .ret)),
 [.tmp 3]⟩
def F261 : AFun := ⟨4,
 (.seq (.ops [o 4 (.box (.t 0)),o 8 (.alloc [(.int .i32 0),(.int .i32 0),(.int .i32 0),(.int .i32 0)]),o 9 (.mv (ki 0))])
 (.seq (.seq (.ops [o 13 (.ldn 6 (.t 4)),o 14 (.call 282 [(.t 13)]),o 10 (.mv (.t 14))])
 (.seq (.ops [o 15 (.mv (.t 10)),o 16 (.bin 0 .neq (.t 15) (ki 0))])
 (.cond (.t 16) (.seq (.ops [o 17 (.agg [(.int .i32 0),(.int .i32 0),(.int .i32 0),(.int .i32 0)] []),o 18 (.mv (.t 10)),e (.st 4 (.t 8) (.t 17)),o 9 (.mv (.t 18))])
 .ret)
 .skip)))
 (.keep [1,2,3,4,8] (.seq (.seq (.ops [o 19 (.ldn 6 (.t 4)),o 20 (.call 283 [(.t 19)]),o 21 (.un .not (.t 20))])
 (.cond (.t 21) (.seq (.ops [o 22 (.agg [(.int .i32 0),(.int .i32 0),(.int .i32 0),(.int .i32 0)] [(0,1,(.k (.c (.int .i32 0)))),(1,1,(.k (.c (.int .i32 0)))),(2,1,(.k (.c (.int .i32 0)))),(3,1,(.k (.c (.int .i32 65536))))]),e (.st 4 (.t 8) (.t 22)),o 9 (.mv (ki 0))])
 .ret)
 .skip))
 (.seq (.ops [o 23 (.fa 5 (.t 4)),o 24 (.ld (.t 23)),o 11 (.mv (.t 24)),o 12 (.mv (ki 0))])
 (.keep [1,2,3,4,8,11,12] (.seq (.seq (.ops [o 25 (.mv (.t 3)),o 26 (.bin 0 .gtr (.t 25) (.k (.c (.int .i32 0))))])
 (.cond (.t 26) (.seq (.ops [o 27 (.fa 4 (.t 4)),o 28 (.ld (.t 27)),o 11 (.mv (.t 28))])
 (.seq (.ops [o 29 (.mv (.t 11)),o 30 (.bin 0 .eql (.t 29) (ki 3)),o 31 (.mv (.t 30)),⟨(some 32),(.mv (.t 11)),some (31,false)⟩,⟨(some 33),(.bin 0 .eql (.t 32) (ki 4)),some (31,false)⟩,o 34 (.pick (.t 31) (.k (.c (.bool true))) (.t 33))])
 (.keep [1,2,3,4,8,11,12,34] (.cond (.t 34) (.dops [.op 0 (o 35 (.mv (.t 3))),.op 4 (o 39 (.fa 1 (.t 4))),.op 9 (o 44 (.fa 1 (.t 4))),.op 1 (o 36 (.convi .i64 (.t 35))),.op 5 (o 40 (.ld (.t 39))),.op 10 (o 45 (.ld (.t 44))),.op 2 (o 37 (.bin 0 .add (.t 36) (ki 32768))),.op 6 (o 41 (.ixa 3 (.t 40) (ki 0))),.op 11 (o 46 (.ixa 3 (.t 45) (ki 0))),.op 3 (o 38 (.bin 0 .shr (.t 37) (.k (.c (.int .u64 16))))),.op 7 (o 42 (.fa 0 (.t 41))),.op 12 (o 47 (.fa 1 (.t 46))),.op 8 (o 43 (.ld (.t 42))),.op 13 (o 48 (.ld (.t 47))),.eff 14 (o 49 (.call 284 [(.t 43),(.t 48)])) [],.op 15 (o 50 (.bin 0 .sub (.t 49) (ki 1))),.op 16 (o 51 (.mn [(.t 38),(.t 50)])),.op 17 (o 12 (.mv (.t 51)))])
 .skip))))
 .skip))
 (.keep [1,2,4,8,11,12] (.seq (.seq (.ops [o 52 (.mv (.t 11)),o 53 (.bin 0 .eql (.t 52) (ki 1)),o 54 (.mv (.t 53)),⟨(some 55),(.mv (.t 11)),some (54,false)⟩,⟨(some 56),(.bin 0 .eql (.t 55) (ki 3)),some (54,false)⟩,o 57 (.pick (.t 54) (.k (.c (.bool true))) (.t 56))])
 (.cond (.t 57) (.seq (.dops [.op 0 (o 58 (.ldn 6 (.t 4))),.op 1 (o 59 (.fa 1 (.t 4))),.op 3 (o 61 (.mv (.t 12))),.op 6 (o 64 (.mv (.t 1))),.op 7 (o 65 (.mv (.t 2))),.op 2 (o 60 (.ld (.t 59))),.op 4 (o 62 (.ixa 3 (.t 60) (.t 61))),.op 5 (o 63 (.ldn 3 (.t 62))),.eff 8 (o 66 (.call 285 [(.t 58),(.t 63),(.t 64),(.t 65)])) [],.eff 9 (e (.st 4 (.t 8) (.t 66))) [],.op 10 (o 9 (.mv (ki 0)))])
 .ret)
 .skip))
 (.keep [1,2,4,8,12] (.seq (.dops [.op 0 (o 67 (.ldn 6 (.t 4))),.op 1 (o 68 (.fa 1 (.t 4))),.op 3 (o 70 (.mv (.t 12))),.op 6 (o 73 (.mv (.t 1))),.op 7 (o 74 (.mv (.t 2))),.op 2 (o 69 (.ld (.t 68))),.op 4 (o 71 (.ixa 3 (.t 69) (.t 70))),.op 5 (o 72 (.ldn 3 (.t 71))),.eff 8 (o 75 (.call 286 [(.t 67),(.t 72),(.t 73),(.t 74)])) [],.eff 9 (e (.st 4 (.t 8) (.t 75))) [],.op 10 (o 9 (.mv (ki 0)))])
 .ret))))))))))),
 [.celln 8 4,.tmp 9]⟩
def F262 : AFun := ⟨2,
 (.seq (.ops [o 3 (.mv (.k (.c (.int .i32 0))))])
 (.seq (.ops [o 4 (.ld (.t 1)),o 3 (.mv (.t 4))])
 .ret)),
 [.tmp 3]⟩
def F263 : AFun := ⟨1,
 (.seq (.ops [o 1 (.box (.t 0)),o 2 (.mv (.k (.c (.bool false))))])
 (.seq (.ops [o 3 (.fa 0 (.t 1)),o 4 (.ld (.t 3)),o 5 (.bin 0 .eql (.t 4) (ki 1)),o 6 (.mv (.t 5)),⟨(some 7),(.fa 0 (.t 1)),some (6,false)⟩,⟨(some 8),(.ld (.t 7)),some (6,false)⟩,⟨(some 9),(.bin 0 .eql (.t 8) (ki 2)),some (6,false)⟩,o 10 (.pick (.t 6) (.k (.c (.bool true))) (.t 9)),o 2 (.mv (.t 10))])
 .ret)),
 [.tmp 2]⟩
def F264 : AFun := ⟨1,
 (.seq (.ops [o 2 (.mv (.k (.c (.int .u32 0)))),o 3 (.mv (.k (.c (.int .u32 0))))])
 (.seq (.ops [o 4 (.mv (.k (.c (.int .u32 0))))])
 (.seq (.seq (.ops [o 5 (.mv (ki 0))])
 (.block 0 (.loop [0,4,5] (.seq (.seq (.ops [o 9 (.mv (.t 5)),o 10 (.mv (.t 0)),o 11 (.len 0 (.t 10)),o 12 (.bin 0 .lss (.t 9) (.t 11))])
 (.cond (.t 12) .skip
 (.exit 0)))
 (.seq (.block 1 (.ops [o 15 (.mv (.t 4)),o 16 (.bin 0 .mul (.t 15) (.k (.c (.int .u32 16777619)))),o 17 (.mv (.t 0)),o 18 (.mv (.t 5)),o 19 (.ixs (.t 17) (.t 18)),o 20 (.convi .u32 (.t 19)),o 21 (.bin 0 .add (.t 16) (.t 20)),o 4 (.mv (.t 21))]))
 (.keep [0,4,5] (.ops [o 13 (.mv (.t 5)),o 14 (.bin 0 .add (.t 13) (ki 1)),o 5 (.mv (.t 14))])))))))
 (.seq (.ops [o 6 (.mv (.k (.c (.int .u32 1)))),o 7 (.mv (.k (.c (.int .u32 16777619))))])
 (.seq (.seq (.ops [o 22 (.mv (.t 0)),o 23 (.len 0 (.t 22)),o 8 (.mv (.t 23))])
 (.block 2 (.loop [4,6,7,8] (.seq (.seq (.ops [o 24 (.mv (.t 8)),o 25 (.bin 0 .gtr (.t 24) (ki 0))])
 (.cond (.t 25) .skip
 (.exit 2)))
 (.seq (.block 3 (.seq (.seq (.ops [o 28 (.mv (.t 8)),o 29 (.bin 0 .and (.t 28) (ki 1)),o 30 (.bin 0 .neq (.t 29) (ki 0))])
 (.cond (.t 30) (.ops [o 31 (.mv (.t 6)),o 32 (.mv (.t 7)),o 33 (.bin 0 .mul (.t 31) (.t 32)),o 6 (.mv (.t 33))])
 .skip))
 (.ops [o 34 (.mv (.t 7)),o 35 (.mv (.t 7)),o 36 (.bin 0 .mul (.t 34) (.t 35)),o 7 (.mv (.t 36))])))
 (.keep [4,6,7,8] (.ops [o 26 (.mv (.t 8)),o 27 (.bin 0 .shr (.t 26) (.k (.c (.int .u64 1)))),o 8 (.mv (.t 27))])))))))
 (.seq (.ops [o 37 (.mv (.t 4)),o 38 (.mv (.t 6)),o 2 (.mv (.t 37)),o 3 (.mv (.t 38))])
 .ret)))))),
 [.tmp 2,.tmp 3]⟩
def F265 : AFun := ⟨2,
 (.seq (.ops [o 4 (.mv (.k (.c (.str (bs []))))),o 5 (.mv (.k (.c (.bool false))))])
 (.seq (.seq (.ops [o 6 (.mv (.t 0)),o 7 (.mv (.t 1)),o 8 (.call 287 [(.t 6),(.t 7)]),o 9 (.un .not (.t 8))])
 (.cond (.t 9) (.seq (.ops [o 10 (.mv (.t 0)),o 4 (.mv (.t 10)),o 5 (.mv (.k (.c (.bool false))))])
 .ret)
 .skip))
 (.seq (.ops [o 11 (.mv (.t 0)),o 12 (.mv (.t 1)),o 13 (.len 0 (.t 12)),o 14 (.slcs (.t 11) (some (.t 13)) none),o 4 (.mv (.t 14)),o 5 (.mv (.k (.c (.bool true))))])
 .ret))),
 [.tmp 4,.tmp 5]⟩
def F266 : AFun := ⟨2,
 (.seq (.ops [o 4 (.mv (.k (.c (.str (bs []))))),o 5 (.mv (.k (.c (.str (bs []))))),o 6 (.mv (.k (.c (.bool false))))])
 (.seq (.seq (.ops [o 8 (.mv (.t 0)),o 9 (.mv (.t 1)),o 10 (.call 184 [(.t 8),(.t 9)]),o 7 (.mv (.t 10))])
 (.seq (.ops [o 11 (.mv (.t 7)),o 12 (.bin 0 .geq (.t 11) (ki 0))])
 (.cond (.t 12) (.seq (.dops [.op 0 (o 13 (.mv (.t 0))),.op 1 (o 14 (.mv (.t 7))),.op 3 (o 16 (.mv (.t 0))),.op 4 (o 17 (.mv (.t 7))),.op 5 (o 18 (.mv (.t 1))),.op 6 (o 19 (.len 0 (.t 18))),.op 2 (o 15 (.slcs (.t 13) none (some (.t 14)))),.op 7 (o 20 (.bin 0 .add (.t 17) (.t 19))),.op 9 (o 4 (.mv (.t 15))),.op 8 (o 21 (.slcs (.t 16) (some (.t 20)) none)),.op 10 (o 5 (.mv (.t 21))),.op 11 (o 6 (.mv (.k (.c (.bool true)))))])
 .ret)
 .skip)))
 (.keep [0] (.seq (.ops [o 22 (.mv (.t 0)),o 4 (.mv (.t 22)),o 5 (.mv (.k (.c (.str (bs []))))),o 6 (.mv (.k (.c (.bool false))))])
 .ret)))),
 [.tmp 4,.tmp 5,.tmp 6]⟩
def F267 : AFun := ⟨1,
 (.seq (.ops [o 2 (.mv (.k (.c .nilptr)))])
 (.seq (.ops [o 7 (.mv (.t 0)),o 8 (.call 192 [(.t 7),(.k (.c (.str (bs [105,102]))))]),o 3 (.alloc [(.int .i64 0),(.str (bs [])),(.int .i32 0),(.int .i64 0),(.int .i64 0)]),e (.st 5 (.t 3) (.t 8))])
 (.seq (.ops [o 9 (.mv (.t 0)),o 10 (.call 192 [(.t 9),(.k (.c (.str (bs [40]))))])])
 (.seq (.dops [.op 0 (o 11 (.ldn 5 (.t 3))),.op 1 (o 12 (.mv (.t 0))),.eff 2 (o 13 (.call 197 [(.t 12)])) [o 11 (.ldn 5 (.t 3))],.eff 3 (o 14 (.mks [.nilptr] 1 [(0,1,(.t 13))])) [o 11 (.ldn 5 (.t 3))],.eff 4 (o 15 (.call 191 [(ki 7),(.t 11),(.k (.c (.str (bs [])))),(.t 14)])) [],.op 5 (o 4 (.mv (.t 15)))])
 (.seq (.ops [o 16 (.mv (.t 0)),o 17 (.call 192 [(.t 16),(.k (.c (.str (bs [41]))))])])
 (.keep [0,4] (.seq (.dops [.op 0 (o 18 (.mv (.t 4))),.op 1 (o 19 (.mv (.t 4))),.op 5 (o 23 (.mv (.t 0))),.op 2 (o 20 (.nilck (.t 19))),.op 3 (o 21 (.fa 6 (.t 20))),.op 4 (o 22 (.ld (.t 21))),.eff 6 (o 24 (.call 232 [(.t 23)])) [o 22 (.ld (.t 21))],.eff 7 (o 25 (.mks [.nilptr] 1 [(0,1,(.t 24))])) [o 22 (.ld (.t 21))],.eff 8 (o 26 (.app 1 8 (.t 22) (.t 25))) [],.op 9 (o 27 (.nilck (.t 18))),.op 10 (o 28 (.fa 6 (.t 27))),.eff 11 (e (.st 1 (.t 28) (.t 26))) []])
 (.seq (.seq (.ops [o 30 (.mv (.t 0)),o 31 (.mks [(.str (bs []))] 1 [(0,1,(.k (.c (.str (bs [101,108,115,101])))))]),o 32 (.call 196 [(.t 30),(.t 31)]),o 29 (.mv (.t 32)),o 33 (.ext 0 (.t 29)),o 34 (.ext 1 (.t 29)),o 5 (.alloc [(.int .i64 0),(.str (bs [])),(.int .i32 0),(.int .i64 0),(.int .i64 0)]),e (.st 5 (.t 5) (.t 33)),o 6 (.mv (.t 34))])
 (.keep [0,4,6] (.seq (.ops [o 35 (.mv (.t 6))])
 (.cond (.t 35) (.dops [.op 0 (o 36 (.mv (.t 4))),.op 1 (o 37 (.mv (.t 4))),.op 5 (o 41 (.mv (.t 0))),.op 2 (o 38 (.nilck (.t 37))),.op 3 (o 39 (.fa 6 (.t 38))),.op 4 (o 40 (.ld (.t 39))),.eff 6 (o 42 (.call 232 [(.t 41)])) [o 40 (.ld (.t 39))],.eff 7 (o 43 (.mks [.nilptr] 1 [(0,1,(.t 42))])) [o 40 (.ld (.t 39))],.eff 8 (o 44 (.app 1 8 (.t 40) (.t 43))) [],.op 9 (o 45 (.nilck (.t 36))),.op 10 (o 46 (.fa 6 (.t 45))),.eff 11 (e (.st 1 (.t 46) (.t 44))) []])
 .skip))))
 (.keep [4] (.seq (.ops [o 47 (.mv (.t 4)),o 2 (.mv (.t 47))])
 .ret)))))))))),
 [.tmp 2]⟩
def F268 : AFun := ⟨1,
 (.seq (.ops [o 2 (.mv (.k (.c .nilptr)))])
 (.seq (.ops [o 8 (.mv (.t 0)),o 9 (.call 192 [(.t 8),(.k (.c (.str (bs [102,111,114]))))]),o 3 (.alloc [(.int .i64 0),(.str (bs [])),(.int .i32 0),(.int .i64 0),(.int .i64 0)]),e (.st 5 (.t 3) (.t 9))])
 (.seq (.ops [o 10 (.mv (.t 0)),o 11 (.call 192 [(.t 10),(.k (.c (.str (bs [40]))))])])
 (.seq (.ops [o 12 (.mv (.t 0)),o 13 (.call 192 [(.t 12),(.k (.c (.str (bs [105,110,116]))))])])
 (.seq (.ops [o 14 (.mv (.t 0)),o 15 (.call 159 [(.t 14),(.f 161)]),o 16 (.fv 1 none (.t 15)),o 4 (.alloc [(.str (bs []))]),e (.st 1 (.t 4) (.t 16))])
 (.keep [0,3,4] (.seq (.ops [o 17 (.mkf 288 [] [(.t 4)]),o 5 (.mv (.t 17))])
 (.seq (.ops [o 18 (.mv (.t 0)),o 19 (.call 192 [(.t 18),(.k (.c (.str (bs [61]))))])])
 (.seq (.ops [o 20 (.mv (.t 0)),o 21 (.call 289 [(.t 20)]),o 6 (.mv (.t 21))])
 (.seq (.ops [o 22 (.mv (.t 0)),o 23 (.call 192 [(.t 22),(.k (.c (.str (bs [59]))))])])
 (.seq (.ops [o 24 (.mv (.t 0)),o 25 (.mv (.t 5)),o 26 (.call 159 [(.t 24),(.t 25)])])
 (.keep [0,3,4,5,6] (.seq (.ops [o 27 (.mv (.t 0)),o 28 (.call 192 [(.t 27),(.k (.c (.str (bs [60]))))])])
 (.seq (.ops [o 29 (.mv (.t 0)),o 30 (.call 289 [(.t 29)]),o 7 (.mv (.t 30))])
 (.seq (.ops [o 31 (.mv (.t 0)),o 32 (.call 192 [(.t 31),(.k (.c (.str (bs [59]))))])])
 (.seq (.ops [o 33 (.mv (.t 0)),o 34 (.mv (.t 5)),o 35 (.call 159 [(.t 33),(.t 34)])])
 (.keep [0,3,4,6,7] (.seq (.ops [o 36 (.mv (.t 0)),o 37 (.call 192 [(.t 36),(.k (.c (.str (bs [43,43]))))])])
 (.seq (.ops [o 38 (.mv (.t 0)),o 39 (.call 192 [(.t 38),(.k (.c (.str (bs [41]))))])])
 (.seq (.dops [.op 0 (o 40 (.ldn 5 (.t 3))),.op 1 (o 41 (.ld (.t 4))),.op 2 (o 42 (.mv (.t 6))),.op 3 (o 43 (.mv (.t 7))),.op 4 (o 44 (.mv (.t 0))),.eff 5 (o 45 (.call 232 [(.t 44)])) [o 40 (.ldn 5 (.t 3)),o 41 (.ld (.t 4))],.eff 6 (o 46 (.mks [.nilptr] 3 [(0,1,(.t 42)),(1,1,(.t 43)),(2,1,(.t 45))])) [o 40 (.ldn 5 (.t 3)),o 41 (.ld (.t 4))],.eff 7 (o 47 (.call 191 [(ki 8),(.t 40),(.t 41),(.t 46)])) [],.op 8 (o 2 (.mv (.t 47)))])
 .ret)))))))))))))))))))),
 [.tmp 2]⟩
def F269 : AFun := ⟨2,
 (.seq (.ops [o 2 (.box (.t 0)),o 3 (.box (.t 1)),o 4 (.mv (.k (.c .nilptr)))])
 (.seq (.ops [o 10 (.call 237 []),o 5 (.mv (.t 10))])
 (.seq (.ops [o 11 (.ld (.t 2)),o 12 (.mkf 290 [(.t 11)] []),o 6 (.mv (.t 12))])
 (.seq (.seq (.ops [o 13 (.ld (.t 3)),o 14 (.mv (.t 5)),o 15 (.len 1 (.t 14)),o 16 (.bin 0 .sub (.t 15) (ki 1)),o 17 (.bin 0 .lss (.t 13) (.t 16))])
 (.keep [2,3,5,6,17] (.cond (.t 17) (.ops [o 18 (.mkf 291 [] [(.t 2),(.t 3)]),o 6 (.mv (.t 18))])
 .skip)))
 (.seq (.ops [o 19 (.mv (.t 6)),o 20 (.callv (.t 19) []),o 7 (.mv (.t 20))])
 (.block 0 (.loop [2,3,5,6,7] (.block 1 (.seq (.dops [.op 0 (o 22 (.ld (.t 2))),.op 1 (o 23 (.mv (.t 5))),.op 2 (o 24 (.ld (.t 3))),.flt 9 (o 8 (.alloc [(.int .i64 0),(.str (bs [])),(.int .i32 0),(.int .i64 0),(.int .i64 0)])) [o 22 (.ld (.t 2)),o 24 (.ld (.t 3))],.op 3 (o 25 (.ixa 1 (.t 23) (.t 24))),.op 4 (o 26 (.ld (.t 25))),.eff 5 (o 27 (.call 196 [(.t 22),(.t 26)])) [o 8 (.alloc [(.int .i64 0),(.str (bs [])),(.int .i32 0),(.int .i64 0),(.int .i64 0)])],.op 6 (o 21 (.mv (.t 27))),.op 7 (o 28 (.ext 0 (.t 21))),.op 8 (o 29 (.ext 1 (.t 21))),.eff 10 (e (.st 5 (.t 8) (.t 28))) [],.op 11 (o 9 (.mv (.t 29)))])
 (.keep [2,3,5,6,7,8,9] (.seq (.seq (.ops [o 30 (.mv (.t 9)),o 31 (.un .not (.t 30))])
 (.cond (.t 31) (.seq (.ops [o 32 (.mv (.t 7)),o 4 (.mv (.t 32))])
 .ret)
 .skip))
 (.dops [.op 0 (o 33 (.ldn 5 (.t 8))),.op 1 (o 34 (.fa 1 (.t 8))),.op 3 (o 36 (.mv (.t 7))),.op 4 (o 37 (.mv (.t 6))),.op 2 (o 35 (.ld (.t 34))),.eff 5 (o 38 (.callv (.t 37) [])) [o 33 (.ldn 5 (.t 8)),o 35 (.ld (.t 34))],.eff 6 (o 39 (.mks [.nilptr] 2 [(0,1,(.t 36)),(1,1,(.t 38))])) [o 33 (.ldn 5 (.t 8)),o 35 (.ld (.t 34))],.eff 7 (o 40 (.call 191 [(ki 15),(.t 33),(.t 35),(.t 39)])) [],.eff 8 (o 7 (.mv (.t 40))) []])))))))))))),
 [.tmp 4]⟩
def F270 : AFun := ⟨2,
 (.seq (.ops [o 4 (.mv (ki 0))])
 (.seq (.seq (.ops [o 6 (.mv (.t 0)),o 7 (.len 1 (.t 6)),o 8 (.mv (ki 0))])
 (.block 0 (.loop [0,1,7,8] (.seq (.ops [o 9 (.bin 0 .lss (.t 8) (.t 7))])
 (.seq (.cond (.t 9) .skip
 (.exit 0))
 (.seq (.block 1 (.seq (.ops [o 10 (.mv (.t 8)),o 5 (.mv (.t 10))])
 (.seq (.ops [o 11 (.mv (.t 1)),o 12 (.mv (.t 0)),o 13 (.mv (.t 5)),o 14 (.ixa 1 (.t 12) (.t 13)),o 15 (.ld (.t 14)),o 16 (.callv (.t 11) [(.t 15)])])
 (.cond (.t 16) (.seq (.ops [o 17 (.mv (.t 5)),o 4 (.mv (.t 17))])
 .ret)
 .skip))))
 (.keep [0,1,7,8] (.ops [o 18 (.bin 0 .add (.t 8) (ki 1)),o 8 (.mv (.t 18))]))))))))
 (.seq (.ops [o 4 (.mv (ki (-1)))])
 .ret))),
 [.tmp 4]⟩
def F271 : AFun := ⟨0,
 (.seq (.ops [o 0 (.mv (.k (.c .nilmap)))])
 (.seq (.ops [o 6 .mkm,o 7 (.agg [(.int .i64 0),(.int .i64 0)] []),e (.mup true (.t 6) (.k (.c (.str (bs [118,111,105,100])))) (.t 7)),o 8 (.agg [(.int .i64 0),(.int .i64 0)] [(0,1,(ki 4)),(1,1,(ki 1))]),e (.mup true (.t 6) (.k (.c (.str (bs [115,97,109,112,108,101,114,50,68])))) (.t 8)),o 9 (.mv (.t 6)),o 1 (.mv (.t 9))])
 (.seq (.seq (.ops [o 10 (.agg [(.str (bs [])),(.str (bs [])),(.str (bs [])),(.str (bs []))] []),o 11 (.agg [(.str (bs [])),(.str (bs [])),(.str (bs [])),(.str (bs []))] [(0,1,(.k (.c (.str (bs [102,108,111,97,116]))))),(1,1,(.k (.c (.str (bs [118,101,99,50]))))),(2,1,(.k (.c (.str (bs [118,101,99,51]))))),(3,1,(.k (.c (.str (bs [118,101,99,52])))))]),o 12 (.agg [(.str (bs [])),(.str (bs [])),(.str (bs [])),(.str (bs []))] [(0,1,(.k (.c (.str (bs [105,110,116]))))),(1,1,(.k (.c (.str (bs [105,118,101,99,50]))))),(2,1,(.k (.c (.str (bs [105,118,101,99,51]))))),(3,1,(.k (.c (.str (bs [105,118,101,99,52])))))]),o 13 (.agg [(.str (bs [])),(.str (bs [])),(.str (bs [])),(.str (bs []))] [(0,1,(.k (.c (.str (bs [98,111,111,108]))))),(1,1,(.k (.c (.str (bs [98,118,101,99,50]))))),(2,1,(.k (.c (.str (bs [98,118,101,99,51]))))),(3,1,(.k (.c (.str (bs [98,118,101,99,52])))))]),o 14 (.mks [(.str (bs [])),(.str (bs [])),(.str (bs [])),(.str (bs []))] 4 [(0,4,(.t 10)),(4,4,(.t 11)),(8,4,(.t 12)),(12,4,(.t 13))]),o 15 (.len 1 (.t 14)),o 16 (.mv (ki 0))])
 (.block 0 (.loop [1,14,15,16] (.seq (.ops [o 17 (.bin 0 .lss (.t 16) (.t 15))])
 (.seq (.cond (.t 17) .skip
 (.exit 0))
 (.seq (.block 1 (.seq (.ops [o 18 (.mv (.t 16)),o 19 (.ixa 4 (.t 14) (.t 16)),o 20 (.ldn 4 (.t 19)),o 3 (.alloc [(.str (bs [])),(.str (bs [])),(.str (bs [])),(.str (bs []))]),o 2 (.mv (.t 18)),e (.st 4 (.t 3) (.t 20))])
 (.seq (.ops [o 21 (.ldn 4 (.t 3)),o 22 (.mv (ki 0))])
 (.block 2 (.loop [1,2,14,15,16,21,22] (.seq (.ops [o 23 (.bin 0 .lss (.t 22) (ki 4))])
 (.seq (.cond (.t 23) .skip
 (.exit 2))
 (.seq (.block 3 (.seq (.ops [o 24 (.mv (.t 22)),o 25 (.ixv 4 none (.t 21) (.t 22)),o 4 (.mv (.t 24)),o 5 (.mv (.t 25))])
 (.seq (.ops [o 26 (.mv (.t 5)),o 27 (.bin 0 .neq (.t 26) (.k (.c (.str (bs [])))))])
 (.cond (.t 27) (.ops [o 28 (.mv (.t 1)),o 29 (.mv (.t 5)),o 30 (.mv (.t 2)),o 31 (.mv (.t 4)),o 32 (.bin 0 .add (.t 31) (ki 1)),o 33 (.agg [(.int .i64 0),(.int .i64 0)] [(0,1,(.t 30)),(1,1,(.t 32))]),e (.mup true (.t 28) (.t 29) (.t 33))])
 .skip))))
 (.keep [1,2,14,15,16,21,22] (.ops [o 34 (.bin 0 .add (.t 22) (ki 1)),o 22 (.mv (.t 34))]))))))))))
 (.ops [o 35 (.bin 0 .add (.t 16) (ki 1)),o 16 (.mv (.t 35))])))))))
 (.seq (.ops [o 36 (.mv (.t 1)),o 0 (.mv (.t 36))])
 .ret)))),
 [.tmp 0]⟩
def F272 : AFun := ⟨2,
 (.seq (.ops [o 4 (.mv (.k (.c (.str (bs []))))),o 5 (.mv (.k (.c (.bool false))))])
 (.seq (.seq (.ops [o 6 (.mv (.t 1)),o 7 (.bin 0 .lss (.t 6) (ki 0)),o 8 (.mv (.t 7)),⟨(some 9),(.mv (.t 0)),some (8,false)⟩,⟨(some 10),(.nilck (.t 9)),some (8,false)⟩,⟨(some 11),(.fa 10 (.t 10)),some (8,false)⟩,⟨(some 12),(.ld (.t 11)),some (8,false)⟩,⟨(some 13),(.mv (.t 1)),some (8,false)⟩,⟨(some 14),(.ixa 1 (.t 12) (.t 13)),some (8,false)⟩,⟨(some 15),(.ld (.t 14)),some (8,false)⟩,⟨(some 16),(.bin 0 .eql (.t 15) (ki (-1))),some (8,false)⟩,o 17 (.pick (.t 8) (.k (.c (.bool true))) (.t 16))])
 (.keep [0,1,17] (.cond (.t 17) (.seq (.ops [o 4 (.mv (.k (.c (.str (bs []))))),o 5 (.mv (.k (.c (.bool false))))])
 .ret)
 .skip)))
 (.seq (.ops [o 18 (.mv (.t 0)),o 19 (.mv (.t 0)),o 20 (.nilck (.t 19)),o 21 (.fa 10 (.t 20)),o 22 (.ld (.t 21)),o 23 (.mv (.t 1)),o 24 (.ixa 1 (.t 22) (.t 23)),o 25 (.ld (.t 24)),o 26 (.call 207 [(.t 18),(.t 25)]),o 27 (.fv 2 none (.t 26)),o 4 (.mv (.t 27)),o 5 (.mv (.k (.c (.bool true))))])
 .ret))),
 [.tmp 4,.tmp 5]⟩
def F273 : AFun := ⟨2,
 (.seq (.ops [o 4 (.mv (.k (.c (.bool false))))])
 (.seq (.ops [o 5 (.mv (.t 0)),o 6 (.mv (.t 1)),o 7 (.call 292 [(.t 5),(.t 6)]),o 8 (.bin 0 .geq (.t 7) (ki 0)),o 4 (.mv (.t 8))])
 .ret)),
 [.tmp 4]⟩
def F274 : AFun := ⟨2,
 (.seq (.ops [o 3 (.mv (.k (.c (.bool false))))])
 (.seq (.ops [o 4 (.ld (.t 1)),o 5 (.mv (.t 0)),o 6 (.call 241 [(.t 4),(.t 5)]),o 7 (.un .not (.t 6)),o 3 (.mv (.t 7))])
 .ret)),
 [.tmp 3]⟩
def F275 : AFun := ⟨1,
 (.seq (.ops [o 2 (.mv (.k (.c (.bool false))))])
 (.seq (.ops [o 6 (.call 293 []),o 7 (.mv (.t 0)),o 8 (.lk true (.agg [(.int .i64 0),.nilslice]) true (.t 6) (.t 7)),o 5 (.mv (.t 8)),o 9 (.ext 0 (.t 5)),o 10 (.ext 1 (.t 5)),o 3 (.alloc [(.int .i64 0),.nilslice]),e (.st 2 (.t 3) (.t 9)),o 4 (.mv (.t 10))])
 (.seq (.ops [o 11 (.mv (.t 4)),o 2 (.mv (.t 11))])
 .ret))),
 [.tmp 2]⟩
def F276 : AFun := ⟨2,
 (.seq (.ops [o 4 (.mv (.k (.c (.bool false))))])
 (.seq (.ops [o 5 (.mv (.t 0)),o 6 (.mv (.t 1)),o 7 (.call 287 [(.t 5),(.t 6)]),o 4 (.mv (.t 7))])
 .ret)),
 [.tmp 4]⟩
def F277 : AFun := ⟨1,
 (.seq (.ops [o 2 (.alloc [(.int .i64 0),(.int .i64 0)])])
 (.seq (.ops [o 3 (.mv (.t 0)),o 4 (.agg [(.int .i64 0),(.int .i64 0)] [(0,1,(.t 3)),(1,1,(ki 1))]),e (.st 2 (.t 2) (.t 4))])
 .ret)),
 [.celln 2 2]⟩
def F278 : AFun := ⟨2,
 (.seq (.ops [o 4 (.alloc [(.int .i64 0),(.int .i64 0)]),o 5 (.mv (ki 0)),o 6 (.mv (ki 0))])
 (.seq (.seq (.ops [o 15 (.mv (.t 1)),o 16 (.call 220 [(.t 15)]),o 17 (.un .not (.t 16))])
 (.cond (.t 17) (.seq (.ops [o 18 (.agg [(.int .i64 0),(.int .i64 0)] []),e (.st 2 (.t 4) (.t 18)),o 5 (.mv (ki 0)),o 6 (.mv (ki 2))])
 .ret)
 .skip))
 (.seq (.seq (.ops [o 20 (.mv (.t 0)),o 21 (.call 239 [(.t 20)]),o 19 (.mv (.t 21)),o 22 (.ext 0 (.t 19)),o 23 (.ext 1 (.t 19)),o 7 (.alloc [(.int .i64 0),(.int .i64 0)]),e (.st 2 (.t 7) (.t 22)),o 8 (.mv (.t 23))])
 (.keep [0,1,4,7,8] (.seq (.ops [o 24 (.mv (.t 8)),o 25 (.bin 0 .eql (.t 24) (ki 0)),o 26 (.mv (.t 25)),⟨(some 27),(.ldn 2 (.t 7)),some (26,true)⟩,⟨(some 28),(.call 221 [(.t 27)]),some (26,true)⟩,o 29 (.pick (.t 26) (.t 28) (.k (.c (.bool false))))])
 (.cond (.t 29) (.seq (.seq (.ops [o 30 (.ldn 2 (.t 7)),o 31 (.mv (.t 1)),o 32 (.call 294 [(.t 30),(.t 31)])])
 (.cond (.t 32) (.seq (.ops [o 33 (.ldn 2 (.t 7)),e (.st 2 (.t 4) (.t 33)),o 5 (.mv (ki 23)),o 6 (.mv (ki 0))])
 .ret)
 .skip))
 (.keep [4] (.seq (.ops [o 34 (.agg [(.int .i64 0),(.int .i64 0)] []),e (.st 2 (.t 4) (.t 34)),o 5 (.mv (ki 0)),o 6 (.mv (ki 230))])
 .ret)))
 .skip))))
 (.seq (.ops [o 36 (.call 293 []),o 37 (.mv (.t 0)),o 38 (.lk true (.agg [(.int .i64 0),.nilslice]) true (.t 36) (.t 37)),o 35 (.mv (.t 38)),o 39 (.ext 0 (.t 35)),o 40 (.ext 1 (.t 35)),o 9 (.alloc [(.int .i64 0),.nilslice]),e (.st 2 (.t 9) (.t 39)),o 10 (.mv (.t 40))])
 (.keep [1,4,9,10] (.seq (.seq (.ops [o 41 (.mv (.t 10)),o 42 (.un .not (.t 41))])
 (.cond (.t 42) (.seq (.ops [o 43 (.agg [(.int .i64 0),(.int .i64 0)] []),e (.st 2 (.t 4) (.t 43)),o 5 (.mv (ki 0)),o 6 (.mv (ki 4))])
 .ret)
 .skip))
 (.seq (.seq (.ops [o 44 (.fa 1 (.t 9)),o 45 (.ld (.t 44)),o 46 (.len 1 (.t 45)),o 47 (.mv (ki 0))])
 (.block 0 (.loop [1,4,9,45,46,47] (.seq (.ops [o 48 (.bin 0 .lss (.t 47) (.t 46))])
 (.seq (.cond (.t 48) .skip
 (.exit 0))
 (.seq (.block 1 (.seq (.ops [o 49 (.ixa 1 (.t 45) (.t 47)),o 50 (.ld (.t 49)),o 12 (.mv (.t 50))])
 (.seq (.ops [o 52 (.mv (.t 12)),o 53 (.mv (.t 1)),o 54 (.call 295 [(.t 52),(.t 53)]),o 51 (.mv (.t 54)),o 55 (.ext 0 (.t 51)),o 56 (.ext 1 (.t 51)),o 13 (.alloc [(.int .i64 0),(.int .i64 0)]),e (.st 2 (.t 13) (.t 55)),o 14 (.mv (.t 56))])
 (.keep [1,4,9,13,14,45,46,47] (.seq (.ops [o 57 (.mv (.t 14))])
 (.cond (.t 57) (.seq (.dops [.op 0 (o 58 (.ldn 2 (.t 13))),.op 1 (o 59 (.fa 0 (.t 9))),.op 2 (o 60 (.ld (.t 59))),.eff 3 (e (.st 2 (.t 4) (.t 58))) [o 60 (.ld (.t 59))],.op 4 (o 5 (.mv (.t 60))),.op 5 (o 6 (.mv (ki 0)))])
 .ret)
 .skip))))))
 (.keep [1,4,9,45,46,47] (.ops [o 61 (.bin 0 .add (.t 47) (ki 1)),o 47 (.mv (.t 61))]))))))))
 (.seq (.ops [o 62 (.agg [(.int .i64 0),(.int .i64 0)] []),e (.st 2 (.t 4) (.t 62)),o 5 (.mv (ki 0)),o 6 (.mv (ki 230))])
 .ret)))))))),
 [.celln 4 2,.tmp 5,.tmp 6]⟩
def F279 : AFun := ⟨2,
 (.seq (.ops [o 3 (.box (.t 1)),o 4 (.alloc [(.int .i64 0)]),o 5 (.alloc [(.bool false)])])
 (.seq (.seq (.ops [o 13 (.mv (.t 0)),o 14 (.nilck (.t 13)),o 15 (.fa 9 (.t 14)),o 16 (.ld (.t 15)),o 17 (.call 296 [(.t 16)])])
 (.block 0 .bad))
 (.seq (.dops [.op 0 (o 29 (.ld (.t 3))),.op 1 (o 30 (.mv (.t 0))),.flt 11 (o 11 (.alloc [(.int .i64 0),(.int .i64 0)])) [o 29 (.ld (.t 3))],.op 2 (o 31 (.nilck (.t 30))),.op 3 (o 32 (.fa 0 (.t 31))),.op 4 (o 33 (.fa 1 (.t 32))),.op 5 (o 34 (.ld (.t 33))),.eff 6 (o 35 (.call 7 [(.t 29),(.t 34)])) [o 11 (.alloc [(.int .i64 0),(.int .i64 0)])],.op 7 (o 28 (.mv (.t 35))),.op 8 (o 36 (.ext 0 (.t 28))),.op 9 (o 37 (.ext 1 (.t 28))),.op 10 (o 38 (.ext 2 (.t 28))),.op 12 (o 10 (.mv (.t 36))),.eff 13 (e (.st 2 (.t 11) (.t 37))) [],.op 14 (o 12 (.mv (.t 38)))])
 (.keep [4,5,10,12] (.seq (.ops [o 39 (.mv (.t 10)),o 40 (.mv (.t 12)),e (.st 1 (.t 4) (.t 39)),e (.st 1 (.t 5) (.t 40))])
 .ret))))),
 [.cell 4,.cell 5]⟩
def F280 : AFun := ⟨3,
 (.seq (.ops [o 6 (.mv (.k (.c (.bool false))))])
 (.seq (.seq (.ops [o 10 (.mv (.t 0)),o 11 (.len 1 (.t 10)),o 12 (.mv (.t 1)),o 13 (.len 1 (.t 12)),o 14 (.bin 0 .neq (.t 11) (.t 13))])
 (.cond (.t 14) (.seq (.ops [o 6 (.mv (.k (.c (.bool false))))])
 .ret)
 .skip))
 (.seq (.seq (.ops [o 15 (.mv (.t 0)),o 16 (.len 1 (.t 15)),o 17 (.mv (ki 0))])
 (.block 0 (.loop [1,2,15,16,17] (.seq (.ops [o 18 (.bin 0 .lss (.t 17) (.t 16))])
 (.seq (.cond (.t 18) .skip
 (.exit 0))
 (.seq (.block 1 (.seq (.ops [o 19 (.mv (.t 17)),o 20 (.ixa 1 (.t 15) (.t 17)),o 21 (.ld (.t 20)),o 7 (.mv (.t 19)),o 8 (.mv (.t 21))])
 (.seq (.ops [o 22 (.mv (.t 1)),o 23 (.mv (.t 7)),o 24 (.ixa 2 (.t 22) (.t 23)),o 25 (.ldn 2 (.t 24)),o 9 (.alloc [(.int .i64 0),(.int .i64 0)]),e (.st 2 (.t 9) (.t 25))])
 (.keep [1,2,8,9,15,16,17] (.seq (.ops [o 26 (.mv (.t 2)),o 27 (.mv (.t 8)),o 28 (.ldn 2 (.t 9)),o 29 (.callv (.t 26) [(.t 27),(.t 28)]),o 30 (.un .not (.t 29))])
 (.cond (.t 30) (.seq (.ops [o 6 (.mv (.k (.c (.bool false))))])
 .ret)
 .skip))))))
 (.ops [o 31 (.bin 0 .add (.t 17) (ki 1)),o 17 (.mv (.t 31))])))))))
 (.keep [] (.seq (.ops [o 6 (.mv (.k (.c (.bool true))))])
 .ret))))),
 [.tmp 6]⟩
def F281 : AFun := ⟨3,
 (.seq (.ops [o 4 (.box (.t 1)),o 5 (.mv (.k (.c (.bool false))))])
 (.seq (.dops [.op 0 (o 6 (.ld (.t 2))),.op 5 (o 11 (.mv (.t 0))),.op 8 (o 14 (.ldn 2 (.t 4))),.op 1 (o 7 (.nilck (.t 6))),.op 2 (o 8 (.fa 0 (.t 7))),.op 3 (o 9 (.fa 2 (.t 8))),.op 4 (o 10 (.ld (.t 9))),.op 6 (o 12 (.ixa 2 (.t 10) (.t 11))),.op 7 (o 13 (.ldn 2 (.t 12))),.op 9 (o 15 (.eqa false [(.int .i64),(.int .i64)] (.t 13) (.t 14))),.op 10 (o 5 (.mv (.t 15)))])
 .ret)),
 [.tmp 5]⟩
def F282 : AFun := ⟨1,
 (.seq (.ops [o 1 (.box (.t 0)),o 2 (.mv (ki 0))])
 (.seq (.ops [o 6 (.fa 0 (.t 1)),o 7 (.ld (.t 6)),o 8 (.call 297 [(.t 7)]),o 3 (.alloc [(.int .i64 0)]),e (.st 1 (.t 3) (.t 8))])
 (.seq (.ops [o 9 (.mkf 298 [] [(.t 3)]),o 4 (.mv (.t 9))])
 (.seq (.ops [o 10 (.fa 1 (.t 1)),o 11 (.ld (.t 10)),o 12 (.len 1 (.t 11)),o 5 (.mv (.t 12))])
 (.seq (.block 0 (.seq (.seq (.ops [o 14 (.mv (.t 5)),o 15 (.bin 0 .gtr (.t 14) (ki 7)),o 13 (.mv (.t 15))])
 (.keep [1,3,4,5,13] (.cond (.t 13) .skip
 (.seq (.ops [o 16 (.mv (.t 5)),o 17 (.bin 0 .eql (.t 16) (ki 0)),o 18 (.mv (.t 17)),⟨(some 19),(.fa 0 (.t 1)),some (18,true)⟩,⟨(some 20),(.ld (.t 19)),some (18,true)⟩,⟨(some 21),(.bin 0 .neq (.t 20) (ki 0)),some (18,true)⟩,o 22 (.pick (.t 18) (.t 21) (.k (.c (.bool false)))),o 13 (.mv (.t 22))])
 (.cond (.t 13) .skip
 (.seq (.ops [o 23 (.mv (.t 5)),o 24 (.bin 0 .gtr (.t 23) (ki 0)),o 25 (.mv (.t 24)),⟨(some 26),(.ld (.t 3)),some (25,true)⟩,⟨(some 27),(.bin 0 .eql (.t 26) (ki 0)),some (25,true)⟩,⟨(some 28),(.mv (.t 27)),some (25,true)⟩,⟨(some 29),(.fa 1 (.t 1)),some (28,false)⟩,⟨(some 30),(.ld (.t 29)),some (28,false)⟩,⟨(some 31),(.mv (.t 5)),some (28,false)⟩,⟨(some 32),(.bin 0 .sub (.t 31) (ki 1)),some (28,false)⟩,⟨(some 33),(.ixa 3 (.t 30) (.t 32)),some (28,false)⟩,⟨(some 34),(.ldn 3 (.t 33)),some (28,false)⟩,⟨(some 35),(.call 299 [(.t 34)]),some (28,false)⟩,⟨(some 36),(.pick (.t 28) (.k (.c (.bool true))) (.t 35)),some (25,true)⟩,o 37 (.pick (.t 25) (.t 36) (.k (.c (.bool false)))),o 13 (.mv (.t 37))])
 (.keep [1,4,13] (.cond (.t 13) .skip
 (.ops [o 38 (.fa 1 (.t 1)),o 39 (.ld (.t 38)),o 40 (.mv (.t 4)),o 41 (.call 301 [(.t 39),(.t 40)]),o 13 (.mv (.t 41))])))))))))
 (.cond (.t 13) (.seq (.ops [o 2 (.mv (ki 180))])
 .ret)
 (.seq (.seq (.ops [o 43 (.fa 2 (.t 1)),o 44 (.ld (.t 43)),o 45 (.call 302 [(ki 1),(.t 44)]),o 46 (.un .not (.t 45)),o 42 (.mv (.t 46))])
 (.keep [1,42] (.cond (.t 42) .skip
 (.seq (.ops [o 47 (.fa 3 (.t 1)),o 48 (.ld (.t 47)),o 49 (.call 302 [(ki 2),(.t 48)]),o 50 (.un .not (.t 49)),o 42 (.mv (.t 50))])
 (.cond (.t 42) .skip
 (.seq (.ops [o 51 (.fa 4 (.t 1)),o 52 (.ld (.t 51)),o 53 (.call 302 [(ki 3),(.t 52)]),o 54 (.un .not (.t 53)),o 42 (.mv (.t 54))])
 (.cond (.t 42) .skip
 (.ops [o 55 (.fa 5 (.t 1)),o 56 (.ld (.t 55)),o 57 (.call 302 [(ki 4),(.t 56)]),o 58 (.un .not (.t 57)),o 42 (.mv (.t 58))]))))))))
 (.keep [42] (.cond (.t 42) (.seq (.ops [o 2 (.mv (ki 180))])
 .ret)
 .skip))))))
 (.seq (.ops [o 2 (.mv (ki 0))])
 .ret)))))),
 [.tmp 2]⟩
def F283 : AFun := ⟨1,
 (.seq (.ops [o 1 (.box (.t 0)),o 2 (.mv (.k (.c (.bool false))))])
 (.seq (.seq (.ops [o 9 (.ldn 6 (.t 1)),o 10 (.call 282 [(.t 9)]),o 11 (.bin 0 .neq (.t 10) (ki 0)),o 12 (.mv (.t 11)),⟨(some 13),(.fa 1 (.t 1)),some (12,false)⟩,⟨(some 14),(.ld (.t 13)),some (12,false)⟩,⟨(some 15),(.len 1 (.t 14)),some (12,false)⟩,⟨(some 16),(.bin 0 .eql (.t 15) (ki 0)),some (12,false)⟩,o 17 (.pick (.t 12) (.k (.c (.bool true))) (.t 16)),o 18 (.mv (.t 17)),⟨(some 19),(.fa 1 (.t 1)),some (18,false)⟩,⟨(some 20),(.ld (.t 19)),some (18,false)⟩,⟨(some 21),(.ixa 3 (.t 20) (ki 0)),some (18,false)⟩,⟨(some 22),(.ldn 3 (.t 21)),some (18,false)⟩,⟨(some 23),(.call 299 [(.t 22)]),some (18,false)⟩,o 24 (.pick (.t 18) (.k (.c (.bool true))) (.t 23))])
 (.keep [1,24] (.cond (.t 24) (.seq (.ops [o 2 (.mv (.k (.c (.bool false))))])
 .ret)
 .skip)))
 (.seq (.dops [.op 0 (o 25 (.fa 1 (.t 1))),.op 5 (o 30 (.fa 1 (.t 1))),.op 1 (o 26 (.ld (.t 25))),.op 6 (o 31 (.ld (.t 30))),.op 2 (o 27 (.ixa 3 (.t 26) (ki 0))),.op 7 (o 32 (.ixa 3 (.t 31) (ki 0))),.op 3 (o 28 (.fa 0 (.t 27))),.op 8 (o 33 (.fa 1 (.t 32))),.op 4 (o 29 (.ld (.t 28))),.op 9 (o 34 (.ld (.t 33))),.op 10 (o 3 (.mv (.t 29))),.op 11 (o 4 (.mv (.t 34)))])
 (.keep [1,3,4] (.seq (.ops [o 35 (.fa 4 (.t 1)),o 36 (.ld (.t 35)),o 37 (.bin 0 .eql (.t 36) (ki 3)),o 38 (.mv (.t 37)),⟨(some 39),(.fa 4 (.t 1)),some (38,false)⟩,⟨(some 40),(.ld (.t 39)),some (38,false)⟩,⟨(some 41),(.bin 0 .eql (.t 40) (ki 4)),some (38,false)⟩,o 42 (.pick (.t 38) (.k (.c (.bool true))) (.t 41)),o 5 (.mv (.t 42))])
 (.seq (.seq (.ops [o 43 (.mv (.t 3)),o 44 (.call 303 [(.t 43)]),o 45 (.un .not (.t 44)),o 46 (.mv (.t 45)),⟨(some 47),(.mv (.t 4)),some (46,false)⟩,⟨(some 48),(.call 303 [(.t 47)]),some (46,false)⟩,⟨(some 49),(.un .not (.t 48)),some (46,false)⟩,o 50 (.pick (.t 46) (.k (.c (.bool true))) (.t 49))])
 (.keep [1,3,4,5,50] (.cond (.t 50) (.seq (.ops [o 51 (.fa 2 (.t 1)),o 52 (.ld (.t 51)),o 53 (.bin 0 .eql (.t 52) (ki 2)),o 54 (.mv (.t 53)),⟨(some 55),(.fa 3 (.t 1)),some (54,true)⟩,⟨(some 56),(.ld (.t 55)),some (54,true)⟩,⟨(some 57),(.bin 0 .eql (.t 56) (ki 2)),some (54,true)⟩,o 58 (.pick (.t 54) (.t 57) (.k (.c (.bool false)))),o 59 (.mv (.t 58)),⟨(some 60),(.mv (.t 5)),some (59,true)⟩,⟨(some 61),(.un .not (.t 60)),some (59,true)⟩,o 62 (.pick (.t 59) (.t 61) (.k (.c (.bool false)))),o 2 (.mv (.t 62))])
 .ret)
 .skip)))
 (.keep [1,3,4,5] (.seq (.seq (.ops [o 63 (.mv (.t 5)),o 64 (.un .not (.t 63))])
 (.cond (.t 64) (.seq (.ops [o 2 (.mv (.k (.c (.bool true))))])
 .ret)
 .skip))
 (.seq (.ops [o 65 (.mv (.t 3)),o 66 (.mv (.t 4)),o 67 (.call 284 [(.t 65),(.t 66)]),o 6 (.mv (.t 67))])
 (.seq (.seq (.ops [o 68 (.fa 1 (.t 1)),o 69 (.ld (.t 68)),o 70 (.len 1 (.t 69)),o 71 (.mv (.t 6)),o 72 (.bin 0 .lss (.t 70) (.t 71))])
 (.keep [1,3,4,6,72] (.cond (.t 72) (.seq (.ops [o 2 (.mv (.k (.c (.bool false))))])
 .ret)
 .skip)))
 (.seq (.seq (.ops [o 73 (.fa 1 (.t 1)),o 74 (.ld (.t 73)),o 75 (.mv (.t 6)),o 76 (.slc 3 (.t 74) none (some (.t 75)) none),o 77 (.len 1 (.t 76)),o 78 (.mv (ki 0))])
 (.block 0 (.loop [3,4,76,77,78] (.seq (.ops [o 79 (.bin 0 .lss (.t 78) (.t 77))])
 (.seq (.cond (.t 79) .skip
 (.exit 0))
 (.seq (.block 1 (.seq (.ops [o 80 (.mv (.t 78)),o 81 (.ixa 3 (.t 76) (.t 78)),o 82 (.ldn 3 (.t 81)),o 8 (.alloc [(.int .i64 0),(.int .i64 0),.nilslice]),o 7 (.mv (.t 80)),e (.st 3 (.t 8) (.t 82))])
 (.seq (.dops [.op 0 (o 83 (.fa 0 (.t 8))),.op 2 (o 85 (.mv (.t 3))),.op 3 (o 86 (.mv (.t 7))),.op 1 (o 84 (.ld (.t 83))),.op 4 (o 87 (.bin 0 .shr (.t 85) (.t 86))),.op 5 (o 88 (.mx [(.t 87),(ki 1)])),.op 6 (o 89 (.bin 0 .neq (.t 84) (.t 88))),.op 7 (o 90 (.mv (.t 89))),.op 8 (⟨(some 91),(.fa 1 (.t 8)),some (90,false)⟩),.op 10 (⟨(some 93),(.mv (.t 4)),some (90,false)⟩),.op 11 (⟨(some 94),(.mv (.t 7)),some (90,false)⟩),.op 9 (⟨(some 92),(.ld (.t 91)),some (90,false)⟩),.op 12 (⟨(some 95),(.bin 0 .shr (.t 93) (.t 94)),some (90,false)⟩),.op 13 (⟨(some 96),(.mx [(.t 95),(ki 1)]),some (90,false)⟩),.op 14 (⟨(some 97),(.bin 0 .neq (.t 92) (.t 96)),some (90,false)⟩),.op 15 (o 98 (.pick (.t 90) (.k (.c (.bool true))) (.t 97)))])
 (.keep [3,4,76,77,78,98] (.cond (.t 98) (.seq (.ops [o 2 (.mv (.k (.c (.bool false))))])
 .ret)
 .skip)))))
 (.ops [o 99 (.bin 0 .add (.t 78) (ki 1)),o 78 (.mv (.t 99))])))))))
 (.seq (.ops [o 2 (.mv (.k (.c (.bool true))))])
 .ret)))))))))))),
 [.tmp 2]⟩
def F284 : AFun := ⟨2,
 (.seq (.ops [o 4 (.mv (ki 0))])
 (.seq (.seq (.ops [o 7 (.mv (.t 0)),o 8 (.call 300 [(.t 7)]),o 9 (.un .not (.t 8)),o 10 (.mv (.t 9)),⟨(some 11),(.mv (.t 1)),some (10,false)⟩,⟨(some 12),(.call 300 [(.t 11)]),some (10,false)⟩,⟨(some 13),(.un .not (.t 12)),some (10,false)⟩,o 14 (.pick (.t 10) (.k (.c (.bool true))) (.t 13))])
 (.cond (.t 14) (.seq (.ops [o 4 (.mv (ki 0))])
 .ret)
 .skip))
 (.seq (.ops [o 5 (.mv (ki 1))])
 (.seq (.seq (.ops [o 15 (.mv (.t 0)),o 16 (.mv (.t 1)),o 17 (.mx [(.t 15),(.t 16)]),o 6 (.mv (.t 17))])
 (.block 0 (.loop [5,6] (.seq (.seq (.ops [o 18 (.mv (.t 6)),o 19 (.bin 0 .gtr (.t 18) (ki 1))])
 (.cond (.t 19) .skip
 (.exit 0)))
 (.seq (.block 1 (.ops [o 22 (.mv (.t 5)),o 23 (.bin 0 .add (.t 22) (ki 1)),o 5 (.mv (.t 23))]))
 (.ops [o 20 (.mv (.t 6)),o 21 (.bin 0 .shr (.t 20) (.k (.c (.int .u64 1)))),o 6 (.mv (.t 21))]))))))
 (.seq (.ops [o 24 (.mv (.t 5)),o 4 (.mv (.t 24))])
 .ret))))),
 [.tmp 4]⟩
def F285 : AFun := ⟨4,
 (.seq (.ops [o 4 (.box (.t 0)),o 5 (.box (.t 1)),o 8 (.alloc [(.int .i32 0),(.int .i32 0),(.int .i32 0),(.int .i32 0)])])
 (.seq (.ops [o 9 (.ldn 6 (.t 4)),o 10 (.ldn 3 (.t 5)),o 11 (.fa 0 (.t 5)),o 12 (.ld (.t 11)),o 13 (.mv (.t 2)),o 14 (.convi .i64 (.t 13)),o 15 (.bin 0 .mul (.t 12) (.t 14)),o 16 (.bin 0 .shr (.t 15) (.k (.c (.int .u64 16)))),o 17 (.fa 1 (.t 5)),o 18 (.ld (.t 17)),o 19 (.mv (.t 3)),o 20 (.convi .i64 (.t 19)),o 21 (.bin 0 .mul (.t 18) (.t 20)),o 22 (.bin 0 .shr (.t 21) (.k (.c (.int .u64 16)))),o 23 (.call 304 [(.t 9),(.t 10),(.t 16),(.t 22)]),e (.st 4 (.t 8) (.t 23))])
 .ret)),
 [.celln 8 4]⟩
def F286 : AFun := ⟨4,
 (.seq (.ops [o 4 (.box (.t 0)),o 5 (.box (.t 1)),o 8 (.alloc [(.int .i32 0),(.int .i32 0),(.int .i32 0),(.int .i32 0)])])
 (.seq (.ops [o 23 (.fa 0 (.t 5)),o 24 (.ld (.t 23)),o 25 (.mv (.t 2)),o 26 (.call 305 [(.t 24),(.t 25)]),o 22 (.mv (.t 26)),o 27 (.ext 0 (.t 22)),o 28 (.ext 1 (.t 22)),o 9 (.mv (.t 27)),o 10 (.mv (.t 28))])
 (.keep [3,4,5,8,9,10] (.seq (.ops [o 30 (.fa 1 (.t 5)),o 31 (.ld (.t 30)),o 32 (.mv (.t 3)),o 33 (.call 305 [(.t 31),(.t 32)]),o 29 (.mv (.t 33)),o 34 (.ext 0 (.t 29)),o 35 (.ext 1 (.t 29)),o 11 (.mv (.t 34)),o 12 (.mv (.t 35))])
 (.keep [4,5,8,9,10,11,12] (.seq (.ops [o 13 (.alloc [(.int .i32 0),(.int .i32 0),(.int .i32 0),(.int .i32 0)])])
 (.seq (.ops [o 14 (.alloc [(.int .i64 0),(.int .i64 0),(.int .i64 0),(.int .i64 0)])])
 (.seq (.seq (.ops [o 36 (.mv (ki 0))])
 (.block 0 (.loop [4,5,8,9,10,11,12,13,14,36] (.seq (.ops [o 37 (.bin 0 .lss (.t 36) (ki 4))])
 (.seq (.cond (.t 37) .skip
 (.exit 0))
 (.seq (.block 1 (.seq (.ops [o 38 (.mv (.t 36)),o 15 (.mv (.t 38))])
 (.seq (.ops [o 39 (.mv (.t 10)),o 40 (.bin 0 .sub (ki 65536) (.t 39)),o 41 (.mv (.t 12)),o 42 (.bin 0 .sub (ki 65536) (.t 41)),o 16 (.mv (.t 40)),o 17 (.mv (.t 42))])
 (.keep [4,5,8,9,10,11,12,13,14,15,16,17,36] (.seq (.seq (.ops [o 43 (.mv (.t 15)),o 44 (.bin 0 .and (.t 43) (ki 1)),o 45 (.bin 0 .eql (.t 44) (ki 1))])
 (.keep [4,5,8,9,10,11,12,13,14,15,16,17,36,45] (.cond (.t 45) (.ops [o 46 (.mv (.t 10)),o 16 (.mv (.t 46))])
 .skip)))
 (.keep [4,5,8,9,10,11,12,13,14,15,16,17,36] (.seq (.seq (.ops [o 47 (.mv (.t 15)),o 48 (.bin 0 .and (.t 47) (ki 2)),o 49 (.bin 0 .eql (.t 48) (ki 2))])
 (.keep [4,5,8,9,10,11,12,13,14,15,16,17,36,49] (.cond (.t 49) (.ops [o 50 (.mv (.t 12)),o 17 (.mv (.t 50))])
 .skip)))
 (.keep [4,5,8,9,10,11,12,13,14,15,16,17,36] (.seq (.ops [o 51 (.ldn 6 (.t 4)),o 52 (.ldn 3 (.t 5)),o 53 (.mv (.t 9)),o 54 (.mv (.t 15)),o 55 (.bin 0 .and (.t 54) (ki 1)),o 56 (.bin 0 .add (.t 53) (.t 55)),o 57 (.mv (.t 11)),o 58 (.mv (.t 15)),o 59 (.bin 0 .shr (.t 58) (.k (.c (.int .u64 1)))),o 60 (.bin 0 .add (.t 57) (.t 59)),o 61 (.call 304 [(.t 51),(.t 52),(.t 56),(.t 60)]),o 18 (.alloc [(.int .i32 0),(.int .i32 0),(.int .i32 0),(.int .i32 0)]),e (.st 4 (.t 18) (.t 61))])
 (.keep [4,5,8,9,10,11,12,13,14,16,17,18,36] (.seq (.ops [o 62 (.mv (ki 0))])
 (.block 2 (.loop [4,5,8,9,10,11,12,13,14,16,17,18,36,62] (.seq (.ops [o 63 (.bin 0 .lss (.t 62) (ki 4))])
 (.keep [4,5,8,9,10,11,12,13,14,16,17,18,36,62,63] (.seq (.cond (.t 63) .skip
 (.exit 2))
 (.keep [4,5,8,9,10,11,12,13,14,16,17,18,36,62] (.seq (.block 3 (.seq (.ops [o 64 (.mv (.t 62)),o 19 (.mv (.t 64))])
 (.keep [4,5,8,9,10,11,12,13,14,16,17,18,19,36,62] (.dops [.op 0 (o 65 (.mv (.t 19))),.op 3 (o 68 (.mv (.t 19))),.op 7 (o 72 (.mv (.t 16))),.op 9 (o 74 (.mv (.t 17))),.op 1 (o 66 (.ixp 4 1 (.t 14) (.t 65))),.op 4 (o 69 (.ixp 4 1 (.t 18) (.t 68))),.op 2 (o 67 (.ld (.t 66))),.op 5 (o 70 (.ld (.t 69))),.op 6 (o 71 (.convi .i64 (.t 70))),.op 8 (o 73 (.bin 0 .mul (.t 71) (.t 72))),.op 10 (o 75 (.bin 0 .mul (.t 73) (.t 74))),.op 11 (o 76 (.bin 0 .add (.t 67) (.t 75))),.op 12 (o 77 (.ixp 4 1 (.t 14) (.t 65))),.eff 13 (e (.st 1 (.t 77) (.t 76))) []]))))
 (.keep [4,5,8,9,10,11,12,13,14,16,17,18,36,62] (.ops [o 78 (.bin 0 .add (.t 62) (ki 1)),o 62 (.mv (.t 78))]))))))))))))))))))))
 (.keep [4,5,8,9,10,11,12,13,14,36] (.ops [o 79 (.bin 0 .add (.t 36) (ki 1)),o 36 (.mv (.t 79))]))))))))
 (.seq (.seq (.ops [o 80 (.ldn 4 (.t 14)),o 81 (.mv (ki 0))])
 (.block 4 (.loop [8,13,80,81] (.seq (.ops [o 82 (.bin 0 .lss (.t 81) (ki 4))])
 (.seq (.cond (.t 82) .skip
 (.exit 4))
 (.seq (.block 5 (.seq (.ops [o 83 (.mv (.t 81)),o 84 (.ixv 4 none (.t 80) (.t 81)),o 20 (.mv (.t 83)),o 21 (.mv (.t 84))])
 (.ops [o 85 (.mv (.t 20)),o 86 (.mv (.t 21)),o 87 (.bin 0 .add (.t 86) (ki 2147483648)),o 88 (.bin 0 .shr (.t 87) (.k (.c (.int .u64 32)))),o 89 (.convi .i32 (.t 88)),o 90 (.ixp 4 1 (.t 13) (.t 85)),e (.st 1 (.t 90) (.t 89))])))
 (.keep [8,13,80,81] (.ops [o 91 (.bin 0 .add (.t 81) (ki 1)),o 81 (.mv (.t 91))]))))))))
 (.seq (.ops [o 92 (.ldn 4 (.t 13)),e (.st 4 (.t 8) (.t 92))])
 .ret)))))))))),
 [.celln 8 4]⟩
def F287 : AFun := ⟨2,
 (.seq (.ops [o 4 (.mv (.k (.c (.bool false))))])
 (.seq (.ops [o 5 (.mv (.t 0)),o 6 (.len 0 (.t 5)),o 7 (.mv (.t 1)),o 8 (.len 0 (.t 7)),o 9 (.bin 0 .geq (.t 6) (.t 8)),o 10 (.mv (.t 9)),⟨(some 11),(.mv (.t 0)),some (10,true)⟩,⟨(some 12),(.mv (.t 1)),some (10,true)⟩,⟨(some 13),(.len 0 (.t 12)),some (10,true)⟩,⟨(some 14),(.slcs (.t 11) none (some (.t 13))),some (10,true)⟩,⟨(some 15),(.mv (.t 1)),some (10,true)⟩,⟨(some 16),(.bin 0 .eql (.t 14) (.t 15)),some (10,true)⟩,o 17 (.pick (.t 10) (.t 16) (.k (.c (.bool false)))),o 4 (.mv (.t 17))])
 .ret)),
 [.tmp 4]⟩
def F288 : AFun := ⟨2,
 (.seq (.ops [o 2 (.box (.t 0)),o 3 (.mv (.k (.c (.bool false))))])
 (.seq (.ops [o 4 (.ldn 5 (.t 2)),o 5 (.call 161 [(.t 4)]),o 6 (.mv (.t 5)),⟨(some 7),(.fa 1 (.t 2)),some (6,true)⟩,⟨(some 8),(.ld (.t 7)),some (6,true)⟩,⟨(some 9),(.ld (.t 1)),some (6,true)⟩,⟨(some 10),(.bin 0 .eql (.t 8) (.t 9)),some (6,true)⟩,o 11 (.pick (.t 6) (.t 10) (.k (.c (.bool false)))),o 3 (.mv (.t 11))])
 .ret)),
 [.tmp 3]⟩
def F289 : AFun := ⟨1,
 (.seq (.ops [o 2 (.mv (.k (.c .nilptr)))])
 (.seq (.ops [o 6 (.mv (.t 0)),o 7 (.call 157 [(.t 6),(ki 0)]),o 8 (.call 191 [(ki 20),(.t 7),(.k (.c (.str (bs [])))),(.k (.c .nilslice))]),o 3 (.mv (.t 8))])
 (.seq (.seq (.ops [o 10 (.mv (.t 0)),o 11 (.mks [(.str (bs []))] 1 [(0,1,(.k (.c (.str (bs [45])))))]),o 12 (.call 196 [(.t 10),(.t 11)]),o 9 (.mv (.t 12)),o 13 (.ext 0 (.t 9)),o 14 (.ext 1 (.t 9)),o 4 (.alloc [(.int .i64 0),(.str (bs [])),(.int .i32 0),(.int .i64 0),(.int .i64 0)]),e (.st 5 (.t 4) (.t 13)),o 5 (.mv (.t 14))])
 (.keep [0,3,5] (.seq (.ops [o 15 (.mv (.t 5))])
 (.cond (.t 15) (.ops [o 16 (.mv (.t 3)),o 17 (.mv (.t 0)),o 18 (.call 159 [(.t 17),(.f 306)]),o 19 (.fv 2 none (.t 18)),o 20 (.call 126 [(.t 19)]),o 21 (.nilck (.t 16)),o 22 (.fa 0 (.t 21)),o 23 (.fa 3 (.t 22)),e (.st 1 (.t 23) (.t 20))])
 (.ops [o 24 (.mv (.t 3)),o 25 (.mv (.t 0)),o 26 (.call 159 [(.t 25),(.f 306)]),o 27 (.fv 2 none (.t 26)),o 28 (.nilck (.t 24)),o 29 (.fa 0 (.t 28)),o 30 (.fa 3 (.t 29)),e (.st 1 (.t 30) (.t 27))])))))
 (.seq (.ops [o 31 (.mv (.t 3)),o 2 (.mv (.t 31))])
 .ret)))),
 [.tmp 2]⟩
def F290 : AFun := ⟨1,
 (.seq (.ops [o 2 (.mv (.k (.c .nilptr)))])
 (.seq (.seq (.ops [o 10 (.mv (.t 0)),o 11 (.mks [(.str (bs []))] 2 [(0,1,(.k (.c (.str (bs [45]))))),(1,1,(.k (.c (.str (bs [33])))))]),o 12 (.call 196 [(.t 10),(.t 11)]),o 9 (.mv (.t 12)),o 13 (.ext 0 (.t 9)),o 14 (.ext 1 (.t 9)),o 3 (.alloc [(.int .i64 0),(.str (bs [])),(.int .i32 0),(.int .i64 0),(.int .i64 0)]),e (.st 5 (.t 3) (.t 13)),o 4 (.mv (.t 14))])
 (.seq (.ops [o 15 (.mv (.t 4))])
 (.cond (.t 15) (.seq (.dops [.op 0 (o 16 (.ldn 5 (.t 3))),.op 1 (o 17 (.fa 1 (.t 3))),.op 3 (o 19 (.mv (.t 0))),.op 2 (o 18 (.ld (.t 17))),.eff 4 (o 20 (.call 290 [(.t 19)])) [o 16 (.ldn 5 (.t 3)),o 18 (.ld (.t 17))],.eff 5 (o 21 (.mks [.nilptr] 1 [(0,1,(.t 20))])) [o 16 (.ldn 5 (.t 3)),o 18 (.ld (.t 17))],.eff 6 (o 22 (.call 191 [(ki 16),(.t 16),(.t 18),(.t 21)])) [],.op 7 (o 2 (.mv (.t 22)))])
 .ret)
 .skip)))
 (.keep [0] (.seq (.ops [o 23 (.mv (.t 0)),o 24 (.call 307 [(.t 23)]),o 5 (.mv (.t 24))])
 (.block 0 (.loop [0,5] (.block 1 (.seq (.seq (.ops [o 26 (.mv (.t 0)),o 27 (.mks [(.str (bs []))] 1 [(0,1,(.k (.c (.str (bs [46])))))]),o 28 (.call 196 [(.t 26),(.t 27)]),o 25 (.mv (.t 28)),o 29 (.ext 0 (.t 25)),o 30 (.ext 1 (.t 25)),o 6 (.alloc [(.int .i64 0),(.str (bs [])),(.int .i32 0),(.int .i64 0),(.int .i64 0)]),e (.st 5 (.t 6) (.t 29)),o 7 (.mv (.t 30))])
 (.seq (.ops [o 31 (.mv (.t 7)),o 32 (.un .not (.t 31))])
 (.cond (.t 32) (.seq (.ops [o 33 (.mv (.t 5)),o 2 (.mv (.t 33))])
 .ret)
 .skip)))
 (.keep [0,5] (.seq (.ops [o 34 (.mv (.t 0)),o 35 (.call 159 [(.t 34),(.f 161)]),o 8 (.alloc [(.int .i64 0),(.str (bs [])),(.int .i32 0),(.int .i64 0),(.int .i64 0)]),e (.st 5 (.t 8) (.t 35))])
 (.ops [o 36 (.ldn 5 (.t 8)),o 37 (.fa 1 (.t 8)),o 38 (.ld (.t 37)),o 39 (.mv (.t 5)),o 40 (.mks [.nilptr] 1 [(0,1,(.t 39))]),o 41 (.call 191 [(ki 18),(.t 36),(.t 38),(.t 40)]),o 5 (.mv (.t 41))]))))))))))),
 [.tmp 2]⟩
def F291 : AFun := ⟨2,
 (.seq (.ops [o 2 (.mv (.k (.c .nilptr)))])
 (.seq (.ops [o 3 (.ld (.t 0)),o 4 (.ld (.t 1)),o 5 (.bin 0 .add (.t 4) (ki 1)),o 6 (.call 269 [(.t 3),(.t 5)]),o 2 (.mv (.t 6))])
 .ret)),
 [.tmp 2]⟩
def F292 : AFun := ⟨2,
 (.seq (.ops [o 4 (.mv (ki 0))])
 (.seq (.seq (.ops [o 6 (.mv (.t 0)),o 7 (.len 1 (.t 6)),o 8 (.mv (ki 0))])
 (.block 0 (.loop [0,1,7,8] (.seq (.ops [o 9 (.bin 0 .lss (.t 8) (.t 7))])
 (.seq (.cond (.t 9) .skip
 (.exit 0))
 (.seq (.block 1 (.seq (.ops [o 10 (.mv (.t 8)),o 5 (.mv (.t 10))])
 (.seq (.ops [o 11 (.mv (.t 1)),o 12 (.mv (.t 0)),o 13 (.mv (.t 5)),o 14 (.ixa 1 (.t 12) (.t 13)),o 15 (.ld (.t 14)),o 16 (.callv (.t 11) [(.t 15)])])
 (.cond (.t 16) (.seq (.ops [o 17 (.mv (.t 5)),o 4 (.mv (.t 17))])
 .ret)
 .skip))))
 (.keep [0,1,7,8] (.ops [o 18 (.bin 0 .add (.t 8) (ki 1)),o 8 (.mv (.t 18))]))))))))
 (.seq (.ops [o 4 (.mv (ki (-1)))])
 .ret))),
 [.tmp 4]⟩
def F293 : AFun := ⟨0,
 (.seq (.ops [o 0 (.mv (.k (.c .nilmap)))])
 (.seq (.ops [o 4 .mkm,o 5 (.mks [(.str (bs []))] 2 [(0,1,(.k (.c (.str (bs [71,71,62,71]))))),(1,1,(.k (.c (.str (bs [71,102,62,71])))))]),o 6 (.agg [(.int .i64 0),.nilslice] [(0,1,(ki 12)),(1,1,(.t 5))]),e (.mup true (.t 4) (.k (.c (.str (bs [109,105,110])))) (.t 6)),o 7 (.mks [(.str (bs []))] 2 [(0,1,(.k (.c (.str (bs [71,71,62,71]))))),(1,1,(.k (.c (.str (bs [71,102,62,71])))))]),o 8 (.agg [(.int .i64 0),.nilslice] [(0,1,(ki 13)),(1,1,(.t 7))]),e (.mup true (.t 4) (.k (.c (.str (bs [109,97,120])))) (.t 8)),o 9 (.mks [(.str (bs []))] 2 [(0,1,(.k (.c (.str (bs [71,71,62,71]))))),(1,1,(.k (.c (.str (bs [71,102,62,71])))))]),o 10 (.agg [(.int .i64 0),.nilslice] [(0,1,(ki 14)),(1,1,(.t 9))]),e (.mup true (.t 4) (.k (.c (.str (bs [109,111,100])))) (.t 10)),o 11 (.mks [(.str (bs []))] 1 [(0,1,(.k (.c (.str (bs [71,71,62,71])))))]),o 12 (.agg [(.int .i64 0),.nilslice] [(0,1,(ki 15)),(1,1,(.t 11))]),e (.mup true (.t 4) (.k (.c (.str (bs [112,111,119])))) (.t 12)),o 13 (.mks [(.str (bs []))] 2 [(0,1,(.k (.c (.str (bs [71,71,62,71]))))),(1,1,(.k (.c (.str (bs [102,71,62,71])))))]),o 14 (.agg [(.int .i64 0),.nilslice] [(0,1,(ki 16)),(1,1,(.t 13))]),e (.mup true (.t 4) (.k (.c (.str (bs [115,116,101,112])))) (.t 14)),o 15 (.mks [(.str (bs []))] 2 [(0,1,(.k (.c (.str (bs [71,71,71,62,71]))))),(1,1,(.k (.c (.str (bs [71,71,102,62,71])))))]),o 16 (.agg [(.int .i64 0),.nilslice] [(0,1,(ki 17)),(1,1,(.t 15))]),e (.mup true (.t 4) (.k (.c (.str (bs [109,105,120])))) (.t 16)),o 17 (.mks [(.str (bs []))] 2 [(0,1,(.k (.c (.str (bs [71,71,71,62,71]))))),(1,1,(.k (.c (.str (bs [71,102,102,62,71])))))]),o 18 (.agg [(.int .i64 0),.nilslice] [(0,1,(ki 18)),(1,1,(.t 17))]),e (.mup true (.t 4) (.k (.c (.str (bs [99,108,97,109,112])))) (.t 18)),o 19 (.mks [(.str (bs []))] 1 [(0,1,(.k (.c (.str (bs [71,71,62,102])))))]),o 20 (.agg [(.int .i64 0),.nilslice] [(0,1,(ki 19)),(1,1,(.t 19))]),e (.mup true (.t 4) (.k (.c (.str (bs [100,111,116])))) (.t 20)),o 21 (.mks [(.str (bs []))] 1 [(0,1,(.k (.c (.str (bs [71,62,102])))))]),o 22 (.agg [(.int .i64 0),.nilslice] [(0,1,(ki 20)),(1,1,(.t 21))]),e (.mup true (.t 4) (.k (.c (.str (bs [108,101,110,103,116,104])))) (.t 22)),o 23 (.mks [(.str (bs []))] 1 [(0,1,(.k (.c (.str (bs [51,51,62,51])))))]),o 24 (.agg [(.int .i64 0),.nilslice] [(0,1,(ki 21)),(1,1,(.t 23))]),e (.mup true (.t 4) (.k (.c (.str (bs [99,114,111,115,115])))) (.t 24)),o 25 (.mks [(.str (bs []))] 1 [(0,1,(.k (.c (.str (bs [115,50,62,52])))))]),o 26 (.agg [(.int .i64 0),.nilslice] [(0,1,(ki 22)),(1,1,(.t 25))]),e (.mup true (.t 4) (.k (.c (.str (bs [116,101,120,116,117,114,101,50,68])))) (.t 26)),o 27 (.mv (.t 4)),o 1 (.mv (.t 27))])
 (.keep [1] (.seq (.seq (.ops [o 28 (.agg [(.str (bs [])),(.str (bs [])),(.str (bs [])),(.str (bs [])),(.str (bs [])),(.str (bs [])),(.str (bs [])),(.str (bs [])),(.str (bs [])),(.str (bs [])),(.str (bs []))] [(0,1,(.k (.c (.str (bs [97,98,115]))))),(1,1,(.k (.c (.str (bs [115,105,103,110]))))),(2,1,(.k (.c (.str (bs [102,108,111,111,114]))))),(3,1,(.k (.c (.str (bs [102,114,97,99,116]))))),(4,1,(.k (.c (.str (bs [115,113,114,116]))))),(5,1,(.k (.c (.str (bs [105,110,118,101,114,115,101,115,113,114,116]))))),(6,1,(.k (.c (.str (bs [101,120,112,50]))))),(7,1,(.k (.c (.str (bs [108,111,103,50]))))),(8,1,(.k (.c (.str (bs [115,105,110]))))),(9,1,(.k (.c (.str (bs [99,111,115]))))),(10,1,(.k (.c (.str (bs [110,111,114,109,97,108,105,122,101])))))]),o 29 (.mv (ki 0))])
 (.block 0 (.loop [1,28,29] (.seq (.ops [o 30 (.bin 0 .lss (.t 29) (ki 11))])
 (.seq (.cond (.t 30) .skip
 (.exit 0))
 (.seq (.block 1 (.seq (.ops [o 31 (.mv (.t 29)),o 32 (.ixv 11 none (.t 28) (.t 29)),o 2 (.mv (.t 31)),o 3 (.mv (.t 32))])
 (.ops [o 33 (.mv (.t 1)),o 34 (.mv (.t 3)),o 35 (.mv (.t 2)),o 36 (.bin 0 .add (ki 1) (.t 35)),o 37 (.mks [(.str (bs []))] 1 [(0,1,(.k (.c (.str (bs [71,62,71])))))]),o 38 (.agg [(.int .i64 0),.nilslice] [(0,1,(.t 36)),(1,1,(.t 37))]),e (.mup true (.t 33) (.t 34) (.t 38))])))
 (.keep [1,28,29] (.ops [o 39 (.bin 0 .add (.t 29) (ki 1)),o 29 (.mv (.t 39))]))))))))
 (.seq (.ops [o 40 (.mv (.t 1)),o 0 (.mv (.t 40))])
 .ret))))),
 [.tmp 0]⟩
def F294 : AFun := ⟨2,
 (.seq (.ops [o 2 (.box (.t 0)),o 4 (.mv (.k (.c (.bool false))))])
 (.seq (.ops [o 5 (.mv (ki 0)),o 6 (.mv (ki 0))])
 (.seq (.seq (.ops [o 9 (.mv (.t 1)),o 10 (.len 1 (.t 9)),o 11 (.mv (ki 0))])
 (.block 0 (.loop [1,2,5,6,9,10,11] (.seq (.ops [o 12 (.bin 0 .lss (.t 11) (.t 10))])
 (.seq (.cond (.t 12) .skip
 (.exit 0))
 (.seq (.block 1 (.seq (.ops [o 13 (.ixa 2 (.t 9) (.t 11)),o 14 (.ldn 2 (.t 13)),o 8 (.alloc [(.int .i64 0),(.int .i64 0)]),e (.st 2 (.t 8) (.t 14))])
 (.seq (.seq (.ops [o 15 (.ldn 2 (.t 8)),o 16 (.call 221 [(.t 15)]),o 17 (.un .not (.t 16))])
 (.keep [1,2,5,8,9,10,11,17] (.cond (.t 17) (.seq (.ops [o 4 (.mv (.k (.c (.bool false))))])
 .ret)
 .skip)))
 (.dops [.op 0 (o 18 (.mv (.t 5))),.op 1 (o 19 (.fa 1 (.t 8))),.op 4 (o 22 (.fa 1 (.t 8))),.op 2 (o 20 (.ld (.t 19))),.op 5 (o 23 (.ld (.t 22))),.op 3 (o 21 (.bin 0 .add (.t 18) (.t 20))),.eff 6 (o 5 (.mv (.t 21))) [o 23 (.ld (.t 22))],.op 7 (o 6 (.mv (.t 23)))]))))
 (.keep [1,2,5,6,9,10,11] (.ops [o 24 (.bin 0 .add (.t 11) (ki 1)),o 11 (.mv (.t 24))]))))))))
 (.seq (.block 2 (.seq (.ops [o 26 (.mv (.t 1)),o 27 (.len 1 (.t 26)),o 28 (.bin 0 .eql (.t 27) (ki 0)),o 25 (.mv (.t 28))])
 (.cond (.t 25) (.seq (.ops [o 4 (.mv (.k (.c (.bool false))))])
 .ret)
 (.seq (.ops [o 30 (.fa 1 (.t 2)),o 31 (.ld (.t 30)),o 32 (.bin 0 .eql (.t 31) (ki 1)),o 29 (.mv (.t 32))])
 (.keep [1,2,5,6,29] (.cond (.t 29) (.seq (.ops [o 33 (.mv (.t 1)),o 34 (.len 1 (.t 33)),o 35 (.bin 0 .eql (.t 34) (ki 1)),o 4 (.mv (.t 35))])
 .ret)
 (.seq (.ops [o 37 (.mv (.t 1)),o 38 (.len 1 (.t 37)),o 39 (.bin 0 .eql (.t 38) (ki 1)),o 36 (.mv (.t 39))])
 (.cond (.t 36) (.seq (.ops [o 40 (.mv (.t 6)),o 41 (.bin 0 .eql (.t 40) (ki 1)),o 42 (.mv (.t 41)),⟨(some 43),(.mv (.t 6)),some (42,false)⟩,⟨(some 44),(.fa 1 (.t 2)),some (42,false)⟩,⟨(some 45),(.ld (.t 44)),some (42,false)⟩,⟨(some 46),(.bin 0 .geq (.t 43) (.t 45)),some (42,false)⟩,o 47 (.pick (.t 42) (.k (.c (.bool true))) (.t 46)),o 4 (.mv (.t 47))])
 .ret)
 .skip))))))))
 (.keep [2,5,6] (.seq (.ops [o 48 (.mv (.t 5)),o 49 (.fa 1 (.t 2)),o 50 (.ld (.t 49)),o 51 (.bin 0 .geq (.t 48) (.t 50)),o 52 (.mv (.t 51)),⟨(some 53),(.mv (.t 5)),some (52,true)⟩,⟨(some 54),(.mv (.t 6)),some (52,true)⟩,⟨(some 55),(.bin 0 .sub (.t 53) (.t 54)),some (52,true)⟩,⟨(some 56),(.fa 1 (.t 2)),some (52,true)⟩,⟨(some 57),(.ld (.t 56)),some (52,true)⟩,⟨(some 58),(.bin 0 .lss (.t 55) (.t 57)),some (52,true)⟩,o 59 (.pick (.t 52) (.t 58) (.k (.c (.bool false)))),o 4 (.mv (.t 59))])
 .ret)))))),
 [.tmp 4]⟩
def F295 : AFun := ⟨2,
 (.seq (.ops [o 4 (.alloc [(.int .i64 0),(.int .i64 0)]),o 5 (.mv (.k (.c (.bool false))))])
 (.seq (.ops [o 14 (.mv (.t 0)),o 15 (.call 228 [(.t 14),(.k (.c (.str (bs [62]))))]),o 13 (.mv (.t 15)),o 16 (.ext 0 (.t 13)),o 17 (.ext 1 (.t 13)),o 18 (.ext 2 (.t 13)),o 6 (.mv (.t 16)),o 7 (.mv (.t 17)),o 8 (.mv (.t 18))])
 (.seq (.seq (.ops [o 19 (.mv (.t 6)),o 20 (.len 0 (.t 19)),o 21 (.mv (.t 1)),o 22 (.len 1 (.t 21)),o 23 (.bin 0 .neq (.t 20) (.t 22))])
 (.keep [1,4,6,7,23] (.cond (.t 23) (.seq (.ops [o 24 (.agg [(.int .i64 0),(.int .i64 0)] []),e (.st 2 (.t 4) (.t 24)),o 5 (.mv (.k (.c (.bool false))))])
 .ret)
 .skip)))
 (.seq (.ops [o 9 (.mv (ki 1))])
 (.seq (.seq (.ops [o 25 (.mv (.t 6)),o 26 (.call 146 [(.t 25),(.k (.c (.int .u8 71)))]),o 10 (.mv (.t 26))])
 (.seq (.ops [o 27 (.mv (.t 10)),o 28 (.bin 0 .geq (.t 27) (ki 0))])
 (.cond (.t 28) (.ops [o 29 (.mv (.t 1)),o 30 (.mv (.t 10)),o 31 (.ixa 2 (.t 29) (.t 30)),o 32 (.fa 1 (.t 31)),o 33 (.ld (.t 32)),o 9 (.mv (.t 33))])
 .skip)))
 (.keep [1,4,6,7,9] (.seq (.seq (.ops [o 34 (.mv (.t 1)),o 35 (.len 1 (.t 34)),o 36 (.mv (ki 0))])
 (.block 0 (.loop [4,6,7,9,34,35,36] (.seq (.ops [o 37 (.bin 0 .lss (.t 36) (.t 35))])
 (.seq (.cond (.t 37) .skip
 (.exit 0))
 (.seq (.block 1 (.seq (.ops [o 38 (.mv (.t 36)),o 39 (.ixa 2 (.t 34) (.t 36)),o 40 (.ldn 2 (.t 39)),o 12 (.alloc [(.int .i64 0),(.int .i64 0)]),o 11 (.mv (.t 38)),e (.st 2 (.t 12) (.t 40))])
 (.seq (.dops [.op 0 (o 41 (.ldn 2 (.t 12))),.op 1 (o 42 (.mv (.t 6))),.op 2 (o 43 (.mv (.t 11))),.op 4 (o 45 (.mv (.t 9))),.op 3 (o 44 (.ixs (.t 42) (.t 43))),.eff 5 (o 46 (.call 308 [(.t 44),(.t 45)])) [o 41 (.ldn 2 (.t 12))],.op 6 (o 47 (.eqa true [(.int .i64),(.int .i64)] (.t 41) (.t 46)))])
 (.keep [4,6,7,9,34,35,36,47] (.cond (.t 47) (.seq (.ops [o 48 (.agg [(.int .i64 0),(.int .i64 0)] []),e (.st 2 (.t 4) (.t 48)),o 5 (.mv (.k (.c (.bool false))))])
 .ret)
 .skip)))))
 (.ops [o 49 (.bin 0 .add (.t 36) (ki 1)),o 36 (.mv (.t 49))])))))))
 (.seq (.ops [o 50 (.mv (.t 7)),o 51 (.ixs (.t 50) (ki 0)),o 52 (.mv (.t 9)),o 53 (.call 308 [(.t 51),(.t 52)]),e (.st 2 (.t 4) (.t 53)),o 5 (.mv (.k (.c (.bool true))))])
 .ret)))))))),
 [.celln 4 2,.tmp 5]⟩
def F296 : AFun := ⟨1,
 (.seq (.ops [o 1 (.box (.t 0)),o 2 (.mv (.k (.c .nilfn)))])
 (.seq (.ops [o 3 (.mkf 309 [] [(.t 1)]),o 2 (.mv (.t 3))])
 .ret)),
 [.tmp 2]⟩
def F297 : AFun := ⟨1,
 (.seq (.ops [o 2 (.mv (ki 0))])
 (.seq (.ops [o 6 (.mv (.t 0)),o 7 (.call 310 [(.t 6)]),o 5 (.mv (.t 7)),o 8 (.ext 0 (.t 5)),o 9 (.ext 1 (.t 5)),o 3 (.alloc [(.int .i64 0),.nilslice,(.int .i32 0),(.int .i32 0),(.int .i32 0),(.int .i32 0)]),e (.st 6 (.t 3) (.t 8)),o 4 (.mv (.t 9))])
 (.seq (.ops [o 10 (.fa 0 (.t 3)),o 11 (.ld (.t 10)),o 2 (.mv (.t 11))])
 .ret))),
 [.tmp 2]⟩
def F298 : AFun := ⟨2,
 (.seq (.ops [o 2 (.box (.t 0)),o 3 (.mv (.k (.c (.bool false))))])
 (.seq (.ops [o 4 (.ldn 3 (.t 2)),o 5 (.call 299 [(.t 4)]),o 6 (.un .not (.t 5)),o 7 (.mv (.t 6)),⟨(some 8),(.fa 0 (.t 2)),some (7,true)⟩,⟨(some 9),(.ld (.t 8)),some (7,true)⟩,⟨(some 10),(.call 300 [(.t 9)]),some (7,true)⟩,⟨(some 11),(.un .not (.t 10)),some (7,true)⟩,⟨(some 12),(.mv (.t 11)),some (7,true)⟩,⟨(some 13),(.fa 1 (.t 2)),some (12,false)⟩,⟨(some 14),(.ld (.t 13)),some (12,false)⟩,⟨(some 15),(.call 300 [(.t 14)]),some (12,false)⟩,⟨(some 16),(.un .not (.t 15)),some (12,false)⟩,⟨(some 17),(.pick (.t 12) (.k (.c (.bool true))) (.t 16)),some (7,true)⟩,⟨(some 18),(.mv (.t 17)),some (7,true)⟩,⟨(some 19),(.fa 2 (.t 2)),some (18,false)⟩,⟨(some 20),(.ld (.t 19)),some (18,false)⟩,⟨(some 21),(.len 1 (.t 20)),some (18,false)⟩,⟨(some 22),(.fa 0 (.t 2)),some (18,false)⟩,⟨(some 23),(.ld (.t 22)),some (18,false)⟩,⟨(some 24),(.fa 1 (.t 2)),some (18,false)⟩,⟨(some 25),(.ld (.t 24)),some (18,false)⟩,⟨(some 26),(.bin 0 .mul (.t 23) (.t 25)),some (18,false)⟩,⟨(some 27),(.ld (.t 1)),some (18,false)⟩,⟨(some 28),(.bin 0 .mul (.t 26) (.t 27)),some (18,false)⟩,⟨(some 29),(.bin 0 .neq (.t 21) (.t 28)),some (18,false)⟩,⟨(some 30),(.pick (.t 18) (.k (.c (.bool true))) (.t 29)),some (7,true)⟩,o 31 (.pick (.t 7) (.t 30) (.k (.c (.bool false)))),o 3 (.mv (.t 31))])
 .ret)),
 [.tmp 3]⟩
def F299 : AFun := ⟨1,
 (.seq (.ops [o 1 (.box (.t 0)),o 2 (.mv (.k (.c (.bool false))))])
 (.seq (.ops [o 3 (.fa 0 (.t 1)),o 4 (.ld (.t 3)),o 5 (.bin 0 .eql (.t 4) (ki 0)),o 6 (.mv (.t 5)),⟨(some 7),(.fa 1 (.t 1)),some (6,true)⟩,⟨(some 8),(.ld (.t 7)),some (6,true)⟩,⟨(some 9),(.bin 0 .eql (.t 8) (ki 0)),some (6,true)⟩,o 10 (.pick (.t 6) (.t 9) (.k (.c (.bool false)))),o 11 (.mv (.t 10)),⟨(some 12),(.fa 2 (.t 1)),some (11,true)⟩,⟨(some 13),(.ld (.t 12)),some (11,true)⟩,⟨(some 14),(.len 1 (.t 13)),some (11,true)⟩,⟨(some 15),(.bin 0 .eql (.t 14) (ki 0)),some (11,true)⟩,o 16 (.pick (.t 11) (.t 15) (.k (.c (.bool false)))),o 2 (.mv (.t 16))])
 .ret)),
 [.tmp 2]⟩
def F300 : AFun := ⟨1,
 (.seq (.ops [o 2 (.mv (.k (.c (.bool false))))])
 (.seq (.ops [o 3 (.mv (.t 0)),o 4 (.bin 0 .gtr (.t 3) (ki 0)),o 5 (.mv (.t 4)),⟨(some 6),(.mv (.t 0)),some (5,true)⟩,⟨(some 7),(.bin 0 .leq (.t 6) (ki 64)),some (5,true)⟩,o 8 (.pick (.t 5) (.t 7) (.k (.c (.bool false)))),o 2 (.mv (.t 8))])
 .ret)),
 [.tmp 2]⟩
def F301 : AFun := ⟨2,
 (.seq (.ops [o 4 (.mv (.k (.c (.bool false))))])
 (.seq (.ops [o 5 (.mv (.t 0)),o 6 (.mv (.t 1)),o 7 (.call 311 [(.t 5),(.t 6)]),o 8 (.bin 0 .geq (.t 7) (ki 0)),o 4 (.mv (.t 8))])
 .ret)),
 [.tmp 4]⟩
def F302 : AFun := ⟨2,
 (.seq (.ops [o 4 (.mv (.k (.c (.bool false))))])
 (.seq (.ops [o 5 (.mv (ki 0))])
 (.seq (.seq (.ops [o 6 (.mv (.t 0))])
 (.block 0 (.seq (.seq (.ops [o 8 (.bin 0 .eql (.t 6) (ki 1)),o 7 (.mv (.t 8))])
 (.cond (.t 7) .skip
 (.ops [o 9 (.bin 0 .eql (.t 6) (ki 2)),o 7 (.mv (.t 9))])))
 (.cond (.t 7) (.ops [o 5 (.mv (ki 3))])
 (.seq (.ops [o 11 (.bin 0 .eql (.t 6) (ki 3)),o 10 (.mv (.t 11))])
 (.cond (.t 10) (.ops [o 5 (.mv (ki 4))])
 (.seq (.ops [o 13 (.bin 0 .eql (.t 6) (ki 4)),o 12 (.mv (.t 13))])
 (.cond (.t 12) (.ops [o 5 (.mv (ki 2))])
 .skip))))))))
 (.seq (.ops [o 14 (.mv (.t 1)),o 15 (.bin 0 .geq (.t 14) (ki 1)),o 16 (.mv (.t 15)),⟨(some 17),(.mv (.t 1)),some (16,true)⟩,⟨(some 18),(.mv (.t 5)),some (16,true)⟩,⟨(some 19),(.bin 0 .leq (.t 17) (.t 18)),some (16,true)⟩,o 20 (.pick (.t 16) (.t 19) (.k (.c (.bool false)))),o 4 (.mv (.t 20))])
 .ret)))),
 [.tmp 4]⟩
def F303 : AFun := ⟨1,
 (.seq (.ops [o 2 (.mv (.k (.c (.bool false))))])
 (.seq (.ops [o 3 (.mv (.t 0)),o 4 (.bin 0 .gtr (.t 3) (ki 0)),o 5 (.mv (.t 4)),⟨(some 6),(.mv (.t 0)),some (5,true)⟩,⟨(some 7),(.mv (.t 0)),some (5,true)⟩,⟨(some 8),(.bin 0 .sub (.t 7) (ki 1)),some (5,true)⟩,⟨(some 9),(.bin 0 .and (.t 6) (.t 8)),some (5,true)⟩,⟨(some 10),(.bin 0 .eql (.t 9) (ki 0)),some (5,true)⟩,o 11 (.pick (.t 5) (.t 10) (.k (.c (.bool false)))),o 2 (.mv (.t 11))])
 .ret)),
 [.tmp 2]⟩
def F304 : AFun := ⟨4,
 (.seq (.ops [o 4 (.box (.t 0)),o 5 (.box (.t 1)),o 8 (.alloc [(.int .i32 0),(.int .i32 0),(.int .i32 0),(.int .i32 0)])])
 (.seq (.ops [o 13 (.fa 0 (.t 4)),o 14 (.ld (.t 13)),o 15 (.call 297 [(.t 14)]),o 9 (.mv (.t 15))])
 (.seq (.dops [.op 0 (o 16 (.fa 3 (.t 4))),.op 2 (o 18 (.mv (.t 3))),.op 3 (o 19 (.fa 1 (.t 5))),.op 6 (o 22 (.fa 0 (.t 5))),.op 9 (o 25 (.fa 2 (.t 4))),.op 11 (o 27 (.mv (.t 2))),.op 12 (o 28 (.fa 0 (.t 5))),.op 16 (o 32 (.mv (.t 9))),.op 1 (o 17 (.ld (.t 16))),.op 4 (o 20 (.ld (.t 19))),.op 7 (o 23 (.ld (.t 22))),.op 10 (o 26 (.ld (.t 25))),.op 13 (o 29 (.ld (.t 28))),.eff 5 (o 21 (.call 312 [(.t 17),(.t 18),(.t 20)])) [o 23 (.ld (.t 22)),o 26 (.ld (.t 25)),o 29 (.ld (.t 28))],.op 8 (o 24 (.bin 0 .mul (.t 21) (.t 23))),.eff 14 (o 30 (.call 312 [(.t 26),(.t 27),(.t 29)])) [o 23 (.ld (.t 22))],.op 15 (o 31 (.bin 0 .add (.t 24) (.t 30))),.op 17 (o 33 (.bin 0 .mul (.t 31) (.t 32))),.op 18 (o 10 (.mv (.t 33)))])
 (.keep [4,5,8,9,10] (.seq (.dops [.op 0 (o 35 (.fa 0 (.t 4))),.op 2 (o 37 (.fa 2 (.t 5))),.op 4 (o 39 (.mv (.t 10))),.op 5 (o 40 (.mv (.t 10))),.op 6 (o 41 (.mv (.t 9))),.flt 13 (o 11 (.alloc [(.int .i32 0),(.int .i32 0),(.int .i32 0),(.int .i32 0)])) [],.op 1 (o 36 (.ld (.t 35))),.op 3 (o 38 (.ld (.t 37))),.op 7 (o 42 (.bin 0 .add (.t 40) (.t 41))),.op 8 (o 43 (.slc 1 (.t 38) (some (.t 39)) (some (.t 42)) none)),.eff 9 (o 44 (.call 313 [(.t 36),(.t 43)])) [o 11 (.alloc [(.int .i32 0),(.int .i32 0),(.int .i32 0),(.int .i32 0)])],.op 10 (o 34 (.mv (.t 44))),.op 11 (o 45 (.ext 0 (.t 34))),.op 12 (o 46 (.ext 1 (.t 34))),.eff 14 (e (.st 4 (.t 11) (.t 45))) [],.op 15 (o 12 (.mv (.t 46)))])
 (.keep [8,11] (.seq (.ops [o 47 (.ldn 4 (.t 11)),e (.st 4 (.t 8) (.t 47))])
 .ret))))))),
 [.celln 8 4]⟩
def F305 : AFun := ⟨2,
 (.seq (.ops [o 4 (.mv (ki 0)),o 5 (.mv (ki 0))])
 (.seq (.ops [o 7 (.mv (.t 0)),o 8 (.mv (.t 1)),o 9 (.convi .i64 (.t 8)),o 10 (.bin 0 .mul (.t 7) (.t 9)),o 11 (.bin 0 .sub (.t 10) (ki 32768)),o 6 (.mv (.t 11))])
 (.seq (.ops [o 12 (.mv (.t 6)),o 13 (.bin 0 .shr (.t 12) (.k (.c (.int .u64 16)))),o 14 (.mv (.t 6)),o 15 (.bin 0 .and (.t 14) (ki 65535)),o 4 (.mv (.t 13)),o 5 (.mv (.t 15))])
 .ret))),
 [.tmp 4,.tmp 5]⟩
def F306 : AFun := ⟨1,
 (.seq (.ops [o 1 (.box (.t 0)),o 2 (.mv (.k (.c (.bool false))))])
 (.seq (.ops [o 3 (.fa 0 (.t 1)),o 4 (.ld (.t 3)),o 5 (.bin 0 .eql (.t 4) (ki 2)),o 2 (.mv (.t 5))])
 .ret)),
 [.tmp 2]⟩
def F307 : AFun := ⟨1,
 (.seq (.ops [o 2 (.mv (.k (.c .nilptr)))])
 (.seq (.ops [o 6 (.mv (.t 0)),o 7 (.call 159 [(.t 6),(.f 314)]),o 3 (.alloc [(.int .i64 0),(.str (bs [])),(.int .i32 0),(.int .i64 0),(.int .i64 0)]),e (.st 5 (.t 3) (.t 7))])
 (.seq (.block 0 (.seq (.seq (.ops [o 9 (.fa 0 (.t 3)),o 10 (.ld (.t 9)),o 11 (.bin 0 .eql (.t 10) (ki 2)),o 8 (.mv (.t 11))])
 (.cond (.t 8) .skip
 (.ops [o 12 (.fa 0 (.t 3)),o 13 (.ld (.t 12)),o 14 (.bin 0 .eql (.t 13) (ki 3)),o 8 (.mv (.t 14))])))
 (.cond (.t 8) (.seq (.ops [o 15 (.fa 0 (.t 3)),o 16 (.ld (.t 15)),o 17 (.bin 0 .add (ki 20) (.t 16)),o 18 (.bin 0 .sub (.t 17) (ki 2)),o 19 (.ldn 5 (.t 3)),o 20 (.call 191 [(.t 18),(.t 19),(.k (.c (.str (bs [])))),(.k (.c .nilslice))]),o 4 (.mv (.t 20))])
 (.keep [3,4] (.seq (.ops [o 21 (.mv (.t 4)),o 22 (.fa 2 (.t 3)),o 23 (.ld (.t 22)),o 24 (.nilck (.t 21)),o 25 (.fa 0 (.t 24)),o 26 (.fa 3 (.t 25)),e (.st 1 (.t 26) (.t 23))])
 (.seq (.ops [o 27 (.mv (.t 4)),o 2 (.mv (.t 27))])
 .ret))))
 (.seq (.ops [o 29 (.ldn 5 (.t 3)),o 30 (.mks [(.str (bs []))] 1 [(0,1,(.k (.c (.str (bs [40])))))]),o 31 (.call 162 [(.t 29),(.t 30)]),o 28 (.mv (.t 31))])
 (.keep [0,3,28] (.cond (.t 28) (.seq (.ops [o 32 (.mv (.t 0)),o 33 (.call 197 [(.t 32)]),o 5 (.mv (.t 33))])
 (.seq (.ops [o 34 (.mv (.t 0)),o 35 (.call 192 [(.t 34),(.k (.c (.str (bs [41]))))])])
 (.seq (.ops [o 36 (.mv (.t 5)),o 2 (.mv (.t 36))])
 .ret)))
 (.seq (.ops [o 38 (.ldn 5 (.t 3)),o 39 (.mks [(.str (bs []))] 2 [(0,1,(.k (.c (.str (bs [116,114,117,101]))))),(1,1,(.k (.c (.str (bs [102,97,108,115,101])))))]),o 40 (.call 162 [(.t 38),(.t 39)]),o 37 (.mv (.t 40))])
 (.cond (.t 37) (.seq (.ops [o 41 (.ldn 5 (.t 3)),o 42 (.fa 1 (.t 3)),o 43 (.ld (.t 42)),o 44 (.call 191 [(ki 22),(.t 41),(.t 43),(.k (.c .nilslice))]),o 2 (.mv (.t 44))])
 .ret)
 (.seq (.ops [o 46 (.ldn 5 (.t 3)),o 47 (.call 161 [(.t 46)]),o 48 (.mv (.t 47)),⟨(some 49),(.mv (.t 0)),some (48,true)⟩,⟨(some 50),(.call 157 [(.t 49),(ki 0)]),some (48,true)⟩,⟨(some 51),(.mks [(.str (bs []))] 1 [(0,1,(.k (.c (.str (bs [40])))))]),some (48,true)⟩,⟨(some 52),(.call 162 [(.t 50),(.t 51)]),some (48,true)⟩,⟨(some 53),(.un .not (.t 52)),some (48,true)⟩,o 54 (.pick (.t 48) (.t 53) (.k (.c (.bool false)))),o 45 (.mv (.t 54))])
 (.keep [0,3,45] (.cond (.t 45) (.seq (.ops [o 55 (.ldn 5 (.t 3)),o 56 (.fa 1 (.t 3)),o 57 (.ld (.t 56)),o 58 (.call 191 [(ki 19),(.t 55),(.t 57),(.k (.c .nilslice))]),o 2 (.mv (.t 58))])
 .ret)
 .skip)))))))))))
 (.seq (.ops [o 59 (.mv (.t 0)),o 60 (.call 192 [(.t 59),(.k (.c (.str (bs [40]))))])])
 (.seq (.dops [.op 0 (o 61 (.ldn 5 (.t 3))),.op 1 (o 62 (.fa 1 (.t 3))),.op 3 (o 64 (.mv (.t 0))),.op 4 (o 65 (.mv (.t 0))),.op 2 (o 63 (.ld (.t 62))),.op 5 (o 66 (.mkf 197 [(.t 65)] [])),.eff 6 (o 67 (.call 193 [(.t 64),(.t 66)])) [o 61 (.ldn 5 (.t 3)),o 63 (.ld (.t 62))],.eff 7 (o 68 (.call 191 [(ki 17),(.t 61),(.t 63),(.t 67)])) [],.op 8 (o 2 (.mv (.t 68)))])
 .ret))))),
 [.tmp 2]⟩
def F308 : AFun := ⟨2,
 (.seq (.ops [o 4 (.alloc [(.int .i64 0),(.int .i64 0)])])
 (.seq (.seq (.ops [o 5 (.mv (.t 0))])
 (.block 0 (.seq (.ops [o 7 (.bin 0 .eql (.t 5) (.k (.c (.int .u8 71)))),o 6 (.mv (.t 7))])
 (.cond (.t 6) (.seq (.ops [o 8 (.mv (.t 1)),o 9 (.agg [(.int .i64 0),(.int .i64 0)] [(0,1,(ki 1)),(1,1,(.t 8))]),e (.st 2 (.t 4) (.t 9))])
 .ret)
 (.seq (.ops [o 11 (.bin 0 .eql (.t 5) (.k (.c (.int .u8 102)))),o 10 (.mv (.t 11))])
 (.cond (.t 10) (.seq (.ops [o 12 (.call 277 [(ki 1)]),e (.st 2 (.t 4) (.t 12))])
 .ret)
 (.seq (.ops [o 14 (.bin 0 .eql (.t 5) (.k (.c (.int .u8 115)))),o 13 (.mv (.t 14))])
 (.cond (.t 13) (.seq (.ops [o 15 (.call 277 [(ki 4)]),e (.st 2 (.t 4) (.t 15))])
 .ret)
 .skip))))))))
 (.seq (.ops [o 16 (.mv (.t 0)),o 17 (.bin 0 .sub (.t 16) (.k (.c (.int .u8 48)))),o 18 (.convi .i64 (.t 17)),o 19 (.agg [(.int .i64 0),(.int .i64 0)] [(0,1,(ki 1)),(1,1,(.t 18))]),e (.st 2 (.t 4) (.t 19))])
 .ret))),
 [.celln 4 2]⟩
def F309 : AFun := ⟨2,
 (.seq (.ops [o 4 (.ld (.t 1)),o 5 (.len 1 (.t 4)),o 6 (.bin 0 .sub (.t 5) (ki 1)),o 3 (.mv (.t 6))])
 (.block 0 (.loop [0,1,3] (.seq (.seq (.ops [o 7 (.mv (.t 3)),o 8 (.bin 0 .geq (.t 7) (ki 0))])
 (.cond (.t 8) .skip
 (.exit 0)))
 (.seq (.block 1 (.seq (.ops [o 11 (.mv (.t 0)),o 12 (.mv (.t 3)),o 13 (.ld (.t 1)),o 14 (.mv (.t 3)),o 15 (.ixa 1 (.t 13) (.t 14)),o 16 (.ld (.t 15)),o 17 (.callv (.t 11) [(.t 12),(.t 16)]),o 18 (.un .not (.t 17))])
 (.cond (.t 18) .ret
 .skip)))
 (.ops [o 9 (.mv (.t 3)),o 10 (.bin 0 .sub (.t 9) (ki 1)),o 3 (.mv (.t 10))])))))),
 []⟩
def F310 : AFun := ⟨1,
 (.seq (.ops [o 2 (.alloc [(.int .i64 0),.nilslice,(.int .i32 0),(.int .i32 0),(.int .i32 0),(.int .i32 0)]),o 3 (.mv (.k (.c (.bool false))))])
 (.seq (.ops [o 5 (.call 315 []),o 4 (.mv (.t 5))])
 (.seq (.seq (.ops [o 6 (.mv (.t 0)),o 7 (.bin 0 .lss (.t 6) (ki 1)),o 8 (.mv (.t 7)),⟨(some 9),(.mv (.t 0)),some (8,false)⟩,⟨(some 10),(.mv (.t 4)),some (8,false)⟩,⟨(some 11),(.len 1 (.t 10)),some (8,false)⟩,⟨(some 12),(.bin 0 .geq (.t 9) (.t 11)),some (8,false)⟩,o 13 (.pick (.t 8) (.k (.c (.bool true))) (.t 12))])
 (.cond (.t 13) (.seq (.ops [o 14 (.agg [(.int .i64 0),.nilslice,(.int .i32 0),(.int .i32 0),(.int .i32 0),(.int .i32 0)] []),e (.st 6 (.t 2) (.t 14)),o 3 (.mv (.k (.c (.bool false))))])
 .ret)
 .skip))
 (.keep [0,2,4] (.seq (.ops [o 15 (.mv (.t 4)),o 16 (.mv (.t 0)),o 17 (.ixa 6 (.t 15) (.t 16)),o 18 (.ldn 6 (.t 17)),e (.st 6 (.t 2) (.t 18)),o 3 (.mv (.k (.c (.bool true))))])
 .ret))))),
 [.celln 2 6,.tmp 3]⟩
def F311 : AFun := ⟨2,
 (.seq (.ops [o 4 (.mv (ki 0))])
 (.seq (.seq (.ops [o 6 (.mv (.t 0)),o 7 (.len 1 (.t 6)),o 8 (.mv (ki 0))])
 (.block 0 (.loop [0,1,7,8] (.seq (.ops [o 9 (.bin 0 .lss (.t 8) (.t 7))])
 (.seq (.cond (.t 9) .skip
 (.exit 0))
 (.seq (.block 1 (.seq (.ops [o 10 (.mv (.t 8)),o 5 (.mv (.t 10))])
 (.seq (.ops [o 11 (.mv (.t 1)),o 12 (.mv (.t 0)),o 13 (.mv (.t 5)),o 14 (.ixa 3 (.t 12) (.t 13)),o 15 (.ldn 3 (.t 14)),o 16 (.callv (.t 11) [(.t 15)])])
 (.cond (.t 16) (.seq (.ops [o 17 (.mv (.t 5)),o 4 (.mv (.t 17))])
 .ret)
 .skip))))
 (.keep [0,1,7,8] (.ops [o 18 (.bin 0 .add (.t 8) (ki 1)),o 8 (.mv (.t 18))]))))))))
 (.seq (.ops [o 4 (.mv (ki (-1)))])
 .ret))),
 [.tmp 4]⟩
def F312 : AFun := ⟨3,
 (.seq (.ops [o 6 (.mv (ki 0))])
 (.seq (.seq (.ops [o 8 (.mv (.t 2)),o 9 (.bin 0 .lss (.t 8) (ki 1)),o 10 (.mv (.t 9)),⟨(some 11),(.mv (.t 2)),some (10,false)⟩,⟨(some 12),(.bin 0 .gtr (.t 11) (ki 64)),some (10,false)⟩,o 13 (.pick (.t 10) (.k (.c (.bool true))) (.t 12))])
 (.cond (.t 13) (.seq (.ops [o 6 (.mv (ki 0))])
 .ret)
 .skip))
 (.seq (.seq (.ops [o 14 (.mv (.t 0))])
 (.block 0 (.seq (.ops [o 16 (.bin 0 .eql (.t 14) (ki 1)),o 15 (.mv (.t 16))])
 (.cond (.t 15) (.seq (.ops [o 17 (.mv (.t 1)),o 18 (.mv (.t 2)),o 19 (.call 316 [(.t 17),(.t 18)]),o 6 (.mv (.t 19))])
 .ret)
 (.seq (.ops [o 21 (.bin 0 .eql (.t 14) (ki 2)),o 20 (.mv (.t 21))])
 (.keep [1,2,14,20] (.cond (.t 20) (.seq (.ops [o 22 (.mv (.t 1)),o 23 (.mx [(.t 22),(ki 0)]),o 24 (.mv (.t 2)),o 25 (.bin 0 .sub (.t 24) (ki 1)),o 26 (.mn [(.t 23),(.t 25)]),o 6 (.mv (.t 26))])
 .ret)
 (.seq (.ops [o 28 (.bin 0 .eql (.t 14) (ki 3)),o 27 (.mv (.t 28))])
 (.cond (.t 27) (.seq (.ops [o 29 (.mv (.t 1)),o 30 (.mv (.t 2)),o 31 (.bin 0 .mul (ki 2) (.t 30)),o 32 (.call 316 [(.t 29),(.t 31)]),o 7 (.mv (.t 32))])
 (.seq (.ops [o 33 (.mv (.t 7)),o 34 (.mv (.t 2)),o 35 (.bin 0 .lss (.t 33) (.t 34))])
 (.cond (.t 35) (.seq (.ops [o 36 (.mv (.t 7)),o 6 (.mv (.t 36))])
 .ret)
 (.seq (.ops [o 37 (.mv (.t 2)),o 38 (.bin 0 .mul (ki 2) (.t 37)),o 39 (.bin 0 .sub (.t 38) (ki 1)),o 40 (.mv (.t 7)),o 41 (.bin 0 .sub (.t 39) (.t 40)),o 6 (.mv (.t 41))])
 .ret))))
 .skip)))))))))
 (.keep [] (.seq (.ops [o 6 (.mv (ki 0))])
 .ret))))),
 [.tmp 6]⟩
def F313 : AFun := ⟨2,
 (.seq (.ops [o 4 (.alloc [(.int .i32 0),(.int .i32 0),(.int .i32 0),(.int .i32 0)]),o 5 (.mv (ki 0))])
 (.seq (.ops [o 15 (.mv (.t 0)),o 16 (.call 310 [(.t 15)]),o 14 (.mv (.t 16)),o 17 (.ext 0 (.t 14)),o 18 (.ext 1 (.t 14)),o 6 (.alloc [(.int .i64 0),.nilslice,(.int .i32 0),(.int .i32 0),(.int .i32 0),(.int .i32 0)]),e (.st 6 (.t 6) (.t 17)),o 7 (.mv (.t 18))])
 (.seq (.block 0 (.seq (.ops [o 20 (.mv (.t 7)),o 21 (.un .not (.t 20)),o 19 (.mv (.t 21))])
 (.keep [0,1,4,6,19] (.cond (.t 19) (.seq (.ops [o 22 (.agg [(.int .i32 0),(.int .i32 0),(.int .i32 0),(.int .i32 0)] []),e (.st 4 (.t 4) (.t 22)),o 5 (.mv (ki 2))])
 .ret)
 (.seq (.ops [o 24 (.mv (.t 1)),o 25 (.len 1 (.t 24)),o 26 (.fa 0 (.t 6)),o 27 (.ld (.t 26)),o 28 (.bin 0 .neq (.t 25) (.t 27)),o 23 (.mv (.t 28))])
 (.cond (.t 23) (.seq (.ops [o 29 (.agg [(.int .i32 0),(.int .i32 0),(.int .i32 0),(.int .i32 0)] []),e (.st 4 (.t 4) (.t 29)),o 5 (.mv (ki 7))])
 .ret)
 .skip))))))
 (.seq (.ops [o 8 (.mv (.k (.c (.int .u32 0))))])
 (.keep [0,1,4,6,8] (.seq (.seq (.ops [o 30 (.mv (.t 1)),o 31 (.len 1 (.t 30)),o 32 (.mv (ki 0))])
 (.block 1 (.loop [0,4,6,8,30,31,32] (.seq (.ops [o 33 (.bin 0 .lss (.t 32) (.t 31))])
 (.seq (.cond (.t 33) .skip
 (.exit 1))
 (.seq (.block 2 (.seq (.ops [o 34 (.mv (.t 32)),o 35 (.ixa 1 (.t 30) (.t 32)),o 36 (.ld (.t 35)),o 9 (.mv (.t 34)),o 10 (.mv (.t 36))])
 (.ops [o 37 (.mv (.t 8)),o 38 (.mv (.t 10)),o 39 (.convi .u32 (.t 38)),o 40 (.mv (.t 9)),o 41 (.bin 0 .mul (ki 8) (.t 40)),o 42 (.bin 0 .shl (.t 39) (.t 41)),o 43 (.bin 0 .or (.t 37) (.t 42)),o 8 (.mv (.t 43))])))
 (.keep [0,4,6,8,30,31,32] (.ops [o 44 (.bin 0 .add (.t 32) (ki 1)),o 32 (.mv (.t 44))]))))))))
 (.seq (.ops [o 45 (.fa 2 (.t 6)),o 46 (.ldn 4 (.t 45)),o 11 (.alloc [(.int .i32 0),(.int .i32 0),(.int .i32 0),(.int .i32 0)]),e (.st 4 (.t 11) (.t 46))])
 (.seq (.seq (.ops [o 47 (.fa 1 (.t 6)),o 48 (.ld (.t 47)),o 49 (.len 1 (.t 48)),o 50 (.mv (ki 0))])
 (.block 3 (.loop [0,4,8,11,48,49,50] (.seq (.ops [o 51 (.bin 0 .lss (.t 50) (.t 49))])
 (.seq (.cond (.t 51) .skip
 (.exit 3))
 (.seq (.block 4 (.seq (.ops [o 52 (.ixa 3 (.t 48) (.t 50)),o 53 (.ldn 3 (.t 52)),o 13 (.alloc [(.int .i64 0),(.int .i64 0),(.int .i64 0)]),e (.st 3 (.t 13) (.t 53))])
 (.dops [.op 0 (o 54 (.fa 0 (.t 13))),.op 2 (o 56 (.mv (.t 8))),.op 3 (o 57 (.fa 2 (.t 13))),.op 6 (o 60 (.fa 1 (.t 13))),.op 11 (o 65 (.fa 1 (.t 13))),.op 1 (o 55 (.ld (.t 54))),.op 4 (o 58 (.ld (.t 57))),.op 7 (o 61 (.ld (.t 60))),.op 12 (o 66 (.ld (.t 65))),.op 8 (o 62 (.bin 0 .shl (.k (.c (.int .u32 1))) (.t 61))),.op 5 (o 59 (.bin 0 .shr (.t 56) (.t 58))),.op 9 (o 63 (.bin 0 .sub (.t 62) (.k (.c (.int .u32 1))))),.op 10 (o 64 (.bin 0 .and (.t 59) (.t 63))),.eff 13 (o 67 (.call 317 [(.t 64),(.t 66)])) [o 55 (.ld (.t 54))],.op 14 (o 68 (.ixp 4 1 (.t 11) (.t 55))),.eff 15 (e (.st 1 (.t 68) (.t 67))) []])))
 (.keep [0,4,8,11,48,49,50] (.ops [o 69 (.bin 0 .add (.t 50) (ki 1)),o 50 (.mv (.t 69))]))))))))
 (.seq (.seq (.ops [o 70 (.mv (.t 0)),o 71 (.call 318 [(.t 70)])])
 (.cond (.t 71) (.ops [o 72 (.ixp 4 1 (.t 11) (ki 0)),o 73 (.ld (.t 72)),o 74 (.ixp 4 1 (.t 11) (ki 0)),o 75 (.ld (.t 74)),o 76 (.ixp 4 1 (.t 11) (ki 1)),e (.st 1 (.t 76) (.t 73)),o 77 (.ixp 4 1 (.t 11) (ki 2)),e (.st 1 (.t 77) (.t 75))])
 .skip))
 (.keep [4,11] (.seq (.ops [o 78 (.ldn 4 (.t 11)),e (.st 4 (.t 4) (.t 78)),o 5 (.mv (ki 0))])
 .ret))))))))))),
 [.celln 4 4,.tmp 5]⟩
def F314 : AFun := ⟨1,
 (.seq (.ops [o 1 (.box (.t 0)),o 2 (.mv (.k (.c (.bool false))))])
 (.seq (.ops [o 3 (.fa 0 (.t 1)),o 4 (.ld (.t 3)),o 5 (.bin 0 .eql (.t 4) (ki 2)),o 6 (.mv (.t 5)),⟨(some 7),(.fa 0 (.t 1)),some (6,false)⟩,⟨(some 8),(.ld (.t 7)),some (6,false)⟩,⟨(some 9),(.bin 0 .eql (.t 8) (ki 3)),some (6,false)⟩,o 10 (.pick (.t 6) (.k (.c (.bool true))) (.t 9)),o 11 (.mv (.t 10)),⟨(some 12),(.ldn 5 (.t 1)),some (11,false)⟩,⟨(some 13),(.call 160 [(.t 12)]),some (11,false)⟩,o 14 (.pick (.t 11) (.k (.c (.bool true))) (.t 13)),o 15 (.mv (.t 14)),⟨(some 16),(.ldn 5 (.t 1)),some (15,false)⟩,⟨(some 17),(.call 161 [(.t 16)]),some (15,false)⟩,o 18 (.pick (.t 15) (.k (.c (.bool true))) (.t 17)),o 19 (.mv (.t 18)),⟨(some 20),(.ldn 5 (.t 1)),some (19,false)⟩,⟨(some 21),(.mks [(.str (bs []))] 3 [(0,1,(.k (.c (.str (bs [116,114,117,101]))))),(1,1,(.k (.c (.str (bs [102,97,108,115,101]))))),(2,1,(.k (.c (.str (bs [40])))))]),some (19,false)⟩,⟨(some 22),(.call 162 [(.t 20),(.t 21)]),some (19,false)⟩,o 23 (.pick (.t 19) (.k (.c (.bool true))) (.t 22)),o 2 (.mv (.t 23))])
 .ret)),
 [.tmp 2]⟩
def F315 : AFun := ⟨0,
 (.seq (.ops [o 0 (.mv (.k (.c .nilslice)))])
 (.seq (.ops [o 2 (.agg [(.int .i32 0),(.int .i32 0),(.int .i32 0),(.int .i32 0)] [(0,1,(.k (.c (.int .i32 0)))),(1,1,(.k (.c (.int .i32 0)))),(2,1,(.k (.c (.int .i32 0)))),(3,1,(.k (.c (.int .i32 65536))))]),o 1 (.alloc [(.int .i32 0),(.int .i32 0),(.int .i32 0),(.int .i32 0)]),e (.st 4 (.t 1) (.t 2))])
 (.seq (.ops [o 3 (.agg [(.int .i64 0),.nilslice,(.int .i32 0),(.int .i32 0),(.int .i32 0),(.int .i32 0)] []),o 4 (.agg [(.int .i64 0),(.int .i64 0),(.int .i64 0)] [(0,1,(ki 0)),(1,1,(ki 8)),(2,1,(ki 0))]),o 5 (.agg [(.int .i64 0),(.int .i64 0),(.int .i64 0)] [(0,1,(ki 1)),(1,1,(ki 8)),(2,1,(ki 8))]),o 6 (.agg [(.int .i64 0),(.int .i64 0),(.int .i64 0)] [(0,1,(ki 2)),(1,1,(ki 8)),(2,1,(ki 16))]),o 7 (.agg [(.int .i64 0),(.int .i64 0),(.int .i64 0)] [(0,1,(ki 3)),(1,1,(ki 8)),(2,1,(ki 24))]),o 8 (.mks [(.int .i64 0),(.int .i64 0),(.int .i64 0)] 4 [(0,3,(.t 4)),(3,3,(.t 5)),(6,3,(.t 6)),(9,3,(.t 7))]),o 9 (.agg [(.int .i32 0),(.int .i32 0),(.int .i32 0),(.int .i32 0)] []),o 10 (.agg [(.int .i64 0),.nilslice,(.int .i32 0),(.int .i32 0),(.int .i32 0),(.int .i32 0)] [(0,1,(ki 4)),(1,1,(.t 8)),(2,4,(.t 9))]),o 11 (.agg [(.int .i64 0),(.int .i64 0),(.int .i64 0)] [(0,1,(ki 0)),(1,1,(ki 5)),(2,1,(ki 11))]),o 12 (.agg [(.int .i64 0),(.int .i64 0),(.int .i64 0)] [(0,1,(ki 1)),(1,1,(ki 6)),(2,1,(ki 5))]),o 13 (.agg [(.int .i64 0),(.int .i64 0),(.int .i64 0)] [(0,1,(ki 2)),(1,1,(ki 5)),(2,1,(ki 0))]),o 14 (.mks [(.int .i64 0),(.int .i64 0),(.int .i64 0)] 3 [(0,3,(.t 11)),(3,3,(.t 12)),(6,3,(.t 13))]),o 15 (.ldn 4 (.t 1)),o 16 (.agg [(.int .i64 0),.nilslice,(.int .i32 0),(.int .i32 0),(.int .i32 0),(.int .i32 0)] [(0,1,(ki 2)),(1,1,(.t 14)),(2,4,(.t 15))]),o 17 (.agg [(.int .i64 0),(.int .i64 0),(.int .i64 0)] [(0,1,(ki 0)),(1,1,(ki 4)),(2,1,(ki 12))]),o 18 (.agg [(.int .i64 0),(.int .i64 0),(.int .i64 0)] [(0,1,(ki 1)),(1,1,(ki 4)),(2,1,(ki 8))]),o 19 (.agg [(.int .i64 0),(.int .i64 0),(.int .i64 0)] [(0,1,(ki 2)),(1,1,(ki 4)),(2,1,(ki 4))]),o 20 (.agg [(.int .i64 0),(.int .i64 0),(.int .i64 0)] [(0,1,(ki 3)),(1,1,(ki 4)),(2,1,(ki 0))]),o 21 (.mks [(.int .i64 0),(.int .i64 0),(.int .i64 0)] 4 [(0,3,(.t 17)),(3,3,(.t 18)),(6,3,(.t 19)),(9,3,(.t 20))]),o 22 (.agg [(.int .i32 0),(.int .i32 0),(.int .i32 0),(.int .i32 0)] []),o 23 (.agg [(.int .i64 0),.nilslice,(.int .i32 0),(.int .i32 0),(.int .i32 0),(.int .i32 0)] [(0,1,(ki 2)),(1,1,(.t 21)),(2,4,(.t 22))]),o 24 (.agg [(.int .i64 0),(.int .i64 0),(.int .i64 0)] [(0,1,(ki 0)),(1,1,(ki 5)),(2,1,(ki 11))]),o 25 (.agg [(.int .i64 0),(.int .i64 0),(.int .i64 0)] [(0,1,(ki 1)),(1,1,(ki 5)),(2,1,(ki 6))]),o 26 (.agg [(.int .i64 0),(.int .i64 0),(.int .i64 0)] [(0,1,(ki 2)),(1,1,(ki 5)),(2,1,(ki 1))]),o 27 (.agg [(.int .i64 0),(.int .i64 0),(.int .i64 0)] [(0,1,(ki 3)),(1,1,(ki 1)),(2,1,(ki 0))]),o 28 (.mks [(.int .i64 0),(.int .i64 0),(.int .i64 0)] 4 [(0,3,(.t 24)),(3,3,(.t 25)),(6,3,(.t 26)),(9,3,(.t 27))]),o 29 (.agg [(.int .i32 0),(.int .i32 0),(.int .i32 0),(.int .i32 0)] []),o 30 (.agg [(.int .i64 0),.nilslice,(.int .i32 0),(.int .i32 0),(.int .i32 0),(.int .i32 0)] [(0,1,(ki 2)),(1,1,(.t 28)),(2,4,(.t 29))]),o 31 (.agg [(.int .i64 0),(.int .i64 0),(.int .i64 0)] [(0,1,(ki 0)),(1,1,(ki 8)),(2,1,(ki 0))]),o 32 (.mks [(.int .i64 0),(.int .i64 0),(.int .i64 0)] 1 [(0,3,(.t 31))]),o 33 (.ldn 4 (.t 1)),o 34 (.agg [(.int .i64 0),.nilslice,(.int .i32 0),(.int .i32 0),(.int .i32 0),(.int .i32 0)] [(0,1,(ki 1)),(1,1,(.t 32)),(2,4,(.t 33))]),o 35 (.agg [(.int .i64 0),(.int .i64 0),(.int .i64 0)] [(0,1,(ki 3)),(1,1,(ki 8)),(2,1,(ki 0))]),o 36 (.mks [(.int .i64 0),(.int .i64 0),(.int .i64 0)] 1 [(0,3,(.t 35))]),o 37 (.agg [(.int .i32 0),(.int .i32 0),(.int .i32 0),(.int .i32 0)] []),o 38 (.agg [(.int .i64 0),.nilslice,(.int .i32 0),(.int .i32 0),(.int .i32 0),(.int .i32 0)] [(0,1,(ki 1)),(1,1,(.t 36)),(2,4,(.t 37))]),o 39 (.agg [(.int .i64 0),(.int .i64 0),(.int .i64 0)] [(0,1,(ki 0)),(1,1,(ki 8)),(2,1,(ki 0))]),o 40 (.agg [(.int .i64 0),(.int .i64 0),(.int .i64 0)] [(0,1,(ki 3)),(1,1,(ki 8)),(2,1,(ki 8))]),o 41 (.mks [(.int .i64 0),(.int .i64 0),(.int .i64 0)] 2 [(0,3,(.t 39)),(3,3,(.t 40))]),o 42 (.agg [(.int .i32 0),(.int .i32 0),(.int .i32 0),(.int .i32 0)] []),o 43 (.agg [(.int .i64 0),.nilslice,(.int .i32 0),(.int .i32 0),(.int .i32 0),(.int .i32 0)] [(0,1,(ki 2)),(1,1,(.t 41)),(2,4,(.t 42))]),o 44 (.mks [(.int .i64 0),.nilslice,(.int .i32 0),(.int .i32 0),(.int .i32 0),(.int .i32 0)] 8 [(0,6,(.t 3)),(6,6,(.t 10)),(12,6,(.t 16)),(18,6,(.t 23)),(24,6,(.t 30)),(30,6,(.t 34)),(36,6,(.t 38)),(42,6,(.t 43))]),o 0 (.mv (.t 44))])
 .ret))),
 [.tmp 0]⟩
def F316 : AFun := ⟨2,
 (.seq (.ops [o 4 (.mv (ki 0))])
 (.seq (.ops [o 5 (.mv (.t 0)),o 6 (.mv (.t 1)),o 7 (.bin 0 .rem (.t 5) (.t 6)),o 8 (.mv (.t 1)),o 9 (.bin 0 .add (.t 7) (.t 8)),o 10 (.mv (.t 1)),o 11 (.bin 0 .rem (.t 9) (.t 10)),o 4 (.mv (.t 11))])
 .ret)),
 [.tmp 4]⟩
def F317 : AFun := ⟨2,
 (.seq (.ops [o 4 (.mv (.k (.c (.int .i32 0))))])
 (.seq (.ops [o 6 (.mv (.t 1)),o 7 (.bin 0 .shl (ki 1) (.t 6)),o 8 (.bin 0 .sub (.t 7) (ki 1)),o 5 (.mv (.t 8))])
 (.seq (.ops [o 9 (.mv (.t 0)),o 10 (.convi .i64 (.t 9)),o 11 (.bin 0 .mul (.t 10) (ki 65536)),o 12 (.mv (.t 5)),o 13 (.bin 0 .quo (.t 12) (ki 2)),o 14 (.bin 0 .add (.t 11) (.t 13)),o 15 (.mv (.t 5)),o 16 (.bin 0 .quo (.t 14) (.t 15)),o 17 (.convi .i32 (.t 16)),o 4 (.mv (.t 17))])
 .ret))),
 [.tmp 4]⟩
def F318 : AFun := ⟨1,
 (.seq (.ops [o 2 (.mv (.k (.c (.bool false))))])
 (.seq (.ops [o 3 (.mv (.t 0)),o 4 (.bin 0 .eql (.t 3) (ki 5)),o 5 (.mv (.t 4)),⟨(some 6),(.mv (.t 0)),some (5,false)⟩,⟨(some 7),(.bin 0 .eql (.t 6) (ki 7)),some (5,false)⟩,o 8 (.pick (.t 5) (.k (.c (.bool true))) (.t 7)),o 2 (.mv (.t 8))])
 .ret)),
 [.tmp 2]⟩
end Go.Proofs.YtjlebgfbohihfaaGreat.Am
