import Derived.Test.YtmlglmfjbmiflaaAmW
namespace Go.Proofs.Ytmlglmfjbmiflaa.Am

/-- paintbox/paintboxlaw13.KindsFields -/
def F3 : AFun := ⟨2,
 (.seq (.ops [o 2 (.box (.t 0)),o 4 (.mv (.k (.c (.bool false))))])
 (.seq (.seq (.ops [o 12 (.call 5 []),o 13 (.un .not (.t 12))])
 (.cond (.t 13) (.seq (.ops [o 4 (.mv (.k (.c (.bool false))))])
 .ret)
 .skip))
 (.seq (.ops [o 15 (.ldn 2 (.t 2)),o 16 (.mv (.t 1)),o 17 (.call 6 [(.t 15),(.t 16)]),o 14 (.mv (.t 17)),o 18 (.ext 0 (.t 14)),o 19 (.ext 1 (.t 14)),o 20 (.ext 2 (.t 14)),o 5 (.alloc [(.int .i64 0),(.int .i64 0)]),e (.st 2 (.t 5) (.t 18)),o 6 (.mv (.t 19)),o 7 (.mv (.t 20))])
 (.keep [1,2,5,6,7] (.seq (.ops [o 22 (.ldn 2 (.t 2)),o 23 (.mv (.t 1)),o 24 (.call 7 [(.t 22),(.t 23)]),o 21 (.mv (.t 24)),o 25 (.ext 0 (.t 21)),o 26 (.ext 1 (.t 21)),o 27 (.ext 2 (.t 21)),o 8 (.alloc [(.int .i64 0),(.int .i64 0)]),e (.st 2 (.t 8) (.t 25)),o 9 (.mv (.t 26)),o 10 (.mv (.t 27))])
 (.keep [5,6,7,8,9,10] (.seq (.seq (.ops [o 28 (.ldn 2 (.t 5)),o 29 (.ldn 2 (.t 8)),o 30 (.eqa true [(.int .i64),(.int .i64)] (.t 28) (.t 29)),o 31 (.mv (.t 30)),⟨(some 32),(.mv (.t 7)),some (31,false)⟩,⟨(some 33),(.mv (.t 10)),some (31,false)⟩,⟨(some 34),(.bin 0 .neq (.t 32) (.t 33)),some (31,false)⟩,o 35 (.pick (.t 31) (.k (.c (.bool true))) (.t 34)),o 36 (.mv (.t 35)),⟨(some 37),(.mv (.t 6)),some (36,false)⟩,⟨(some 38),(.len 1 (.t 37)),some (36,false)⟩,⟨(some 39),(.mv (.t 9)),some (36,false)⟩,⟨(some 40),(.len 1 (.t 39)),some (36,false)⟩,⟨(some 41),(.bin 0 .neq (.t 38) (.t 40)),some (36,false)⟩,o 42 (.pick (.t 36) (.k (.c (.bool true))) (.t 41))])
 (.keep [6,9,42] (.cond (.t 42) (.seq (.ops [o 4 (.mv (.k (.c (.bool false))))])
 .ret)
 .skip)))
 (.seq (.seq (.ops [o 43 (.mv (.t 6)),o 44 (.len 1 (.t 43)),o 45 (.mv (ki 0))])
 (.block 0 (.loop [6,9,44,45] (.seq (.ops [o 46 (.bin 0 .lss (.t 45) (.t 44))])
 (.seq (.cond (.t 46) .skip
 (.exit 0))
 (.seq (.block 1 (.seq (.ops [o 47 (.mv (.t 45)),o 11 (.mv (.t 47))])
 (.seq (.dops [.op 0 (o 48 (.mv (.t 6))),.op 1 (o 49 (.mv (.t 11))),.op 4 (o 52 (.mv (.t 9))),.op 5 (o 53 (.mv (.t 11))),.op 2 (o 50 (.ixa 1 (.t 48) (.t 49))),.op 6 (o 54 (.ixa 1 (.t 52) (.t 53))),.op 3 (o 51 (.ld (.t 50))),.op 7 (o 55 (.ld (.t 54))),.op 8 (o 56 (.bin 0 .neq (.t 51) (.t 55)))])
 (.keep [6,9,44,45,56] (.cond (.t 56) (.seq (.ops [o 4 (.mv (.k (.c (.bool false))))])
 .ret)
 .skip)))))
 (.ops [o 57 (.bin 0 .add (.t 45) (ki 1)),o 45 (.mv (.t 57))])))))))
 (.seq (.ops [o 4 (.mv (.k (.c (.bool true))))])
 .ret))))))))),
 [.tmp 4]⟩
/-- paintbox/paintboxlaw13.KindsTwice -/
def F4 : AFun := ⟨3,
 (.seq (.ops [o 3 (.box (.t 0)),o 6 (.mv (.k (.c (.bool false))))])
 (.seq (.seq (.ops [o 18 (.call 5 []),o 19 (.un .not (.t 18))])
 (.cond (.t 19) (.seq (.ops [o 6 (.mv (.k (.c (.bool false))))])
 .ret)
 .skip))
 (.seq (.ops [o 21 (.ldn 2 (.t 3)),o 22 (.mv (.t 1)),o 23 (.call 6 [(.t 21),(.t 22)]),o 20 (.mv (.t 23)),o 24 (.ext 0 (.t 20)),o 25 (.ext 1 (.t 20)),o 26 (.ext 2 (.t 20)),o 7 (.alloc [(.int .i64 0),(.int .i64 0)]),e (.st 2 (.t 7) (.t 24)),o 8 (.mv (.t 25)),o 9 (.mv (.t 26))])
 (.keep [2,3,7,8,9] (.seq (.seq (.ops [o 27 (.mv (.t 9)),o 28 (.bin 0 .neq (.t 27) (ki 0))])
 (.cond (.t 28) (.seq (.ops [o 29 (.mv (.t 8)),o 30 (.len 1 (.t 29)),o 31 (.bin 0 .eql (.t 30) (ki 0)),o 6 (.mv (.t 31))])
 .ret)
 .skip))
 (.seq (.ops [o 33 (.ldn 2 (.t 7)),o 34 (.mv (.t 2)),o 35 (.call 6 [(.t 33),(.t 34)]),o 32 (.mv (.t 35)),o 36 (.ext 0 (.t 32)),o 37 (.ext 1 (.t 32)),o 38 (.ext 2 (.t 32)),o 10 (.alloc [(.int .i64 0),(.int .i64 0)]),e (.st 2 (.t 10) (.t 36)),o 11 (.mv (.t 37)),o 9 (.mv (.t 38))])
 (.keep [3,8,9,10,11] (.seq (.seq (.ops [o 39 (.mv (.t 9)),o 40 (.bin 0 .neq (.t 39) (ki 0))])
 (.cond (.t 40) (.seq (.ops [o 41 (.mv (.t 11)),o 42 (.len 1 (.t 41)),o 43 (.bin 0 .eql (.t 42) (ki 0)),o 6 (.mv (.t 43))])
 .ret)
 .skip))
 (.seq (.ops [o 12 (.mv (.k (.c (.str (bs [])))))])
 (.seq (.seq (.ops [o 44 (.mv (.t 11)),o 45 (.len 1 (.t 44)),o 46 (.mv (ki 0))])
 (.block 0 (.loop [3,8,10,11,12,44,45,46] (.seq (.ops [o 47 (.bin 0 .lss (.t 46) (.t 45))])
 (.seq (.cond (.t 47) .skip
 (.exit 0))
 (.seq (.block 1 (.seq (.ops [o 48 (.ixa 1 (.t 44) (.t 46)),o 49 (.ld (.t 48)),o 14 (.mv (.t 49))])
 (.dops [.op 0 (o 50 (.mv (.t 12))),.op 1 (o 51 (.mv (.t 8))),.op 2 (o 52 (.mv (.t 14))),.op 5 (o 55 (.mv (.t 8))),.op 6 (o 56 (.mv (.t 14))),.op 3 (o 53 (.ixa 1 (.t 51) (.t 52))),.op 7 (o 57 (.ixa 1 (.t 55) (.t 56))),.op 4 (o 54 (.ld (.t 53))),.op 8 (o 58 (.ld (.t 57))),.op 9 (o 59 (.bin 0 .add (.t 58) (ki 1))),.op 10 (o 60 (.slcs (.k (.c (.str (bs [120,121,122,119])))) (some (.t 54)) (some (.t 59)))),.op 11 (o 61 (.bin 0 .add (.t 50) (.t 60))),.eff 12 (o 12 (.mv (.t 61))) []])))
 (.keep [3,8,10,11,12,44,45,46] (.ops [o 62 (.bin 0 .add (.t 46) (ki 1)),o 46 (.mv (.t 62))]))))))))
 (.seq (.ops [o 64 (.ldn 2 (.t 3)),o 65 (.mv (.t 12)),o 66 (.call 6 [(.t 64),(.t 65)]),o 63 (.mv (.t 66)),o 67 (.ext 0 (.t 63)),o 68 (.ext 1 (.t 63)),o 69 (.ext 2 (.t 63)),o 15 (.alloc [(.int .i64 0),(.int .i64 0)]),e (.st 2 (.t 15) (.t 67)),o 16 (.mv (.t 68)),o 9 (.mv (.t 69))])
 (.keep [8,9,10,11,15,16] (.seq (.seq (.ops [o 70 (.mv (.t 9)),o 71 (.bin 0 .neq (.t 70) (ki 0)),o 72 (.mv (.t 71)),⟨(some 73),(.ldn 2 (.t 15)),some (72,false)⟩,⟨(some 74),(.ldn 2 (.t 10)),some (72,false)⟩,⟨(some 75),(.eqa true [(.int .i64),(.int .i64)] (.t 73) (.t 74)),some (72,false)⟩,o 76 (.pick (.t 72) (.k (.c (.bool true))) (.t 75)),o 77 (.mv (.t 76)),⟨(some 78),(.mv (.t 16)),some (77,false)⟩,⟨(some 79),(.len 1 (.t 78)),some (77,false)⟩,⟨(some 80),(.mv (.t 11)),some (77,false)⟩,⟨(some 81),(.len 1 (.t 80)),some (77,false)⟩,⟨(some 82),(.bin 0 .neq (.t 79) (.t 81)),some (77,false)⟩,o 83 (.pick (.t 77) (.k (.c (.bool true))) (.t 82))])
 (.keep [8,11,16,83] (.cond (.t 83) (.seq (.ops [o 6 (.mv (.k (.c (.bool false))))])
 .ret)
 .skip)))
 (.seq (.seq (.ops [o 84 (.mv (.t 16)),o 85 (.len 1 (.t 84)),o 86 (.mv (ki 0))])
 (.block 2 (.loop [8,11,16,85,86] (.seq (.ops [o 87 (.bin 0 .lss (.t 86) (.t 85))])
 (.seq (.cond (.t 87) .skip
 (.exit 2))
 (.seq (.block 3 (.seq (.ops [o 88 (.mv (.t 86)),o 17 (.mv (.t 88))])
 (.seq (.dops [.op 0 (o 89 (.mv (.t 16))),.op 1 (o 90 (.mv (.t 17))),.op 4 (o 93 (.mv (.t 8))),.op 5 (o 94 (.mv (.t 11))),.op 6 (o 95 (.mv (.t 17))),.op 2 (o 91 (.ixa 1 (.t 89) (.t 90))),.op 7 (o 96 (.ixa 1 (.t 94) (.t 95))),.op 3 (o 92 (.ld (.t 91))),.op 8 (o 97 (.ld (.t 96))),.op 9 (o 98 (.ixa 1 (.t 93) (.t 97))),.op 10 (o 99 (.ld (.t 98))),.op 11 (o 100 (.bin 0 .neq (.t 92) (.t 99)))])
 (.keep [8,11,16,85,86,100] (.cond (.t 100) (.seq (.ops [o 6 (.mv (.k (.c (.bool false))))])
 .ret)
 .skip)))))
 (.ops [o 101 (.bin 0 .add (.t 86) (ki 1)),o 86 (.mv (.t 101))])))))))
 (.seq (.ops [o 6 (.mv (.k (.c (.bool true))))])
 .ret))))))))))))))),
 [.tmp 6]⟩
/-- paintbox/paintboxlaw13.wakes -/
def F5 : AFun := ⟨0,
 (.seq (.ops [o 0 (.mv (.k (.c (.bool false))))])
 (.seq (.ops [o 7 (.call 8 [(.k (.c (.str (bs [105,118,101,99,51]))))]),o 6 (.mv (.t 7)),o 8 (.ext 0 (.t 6)),o 9 (.ext 1 (.t 6)),o 1 (.alloc [(.int .i64 0),(.int .i64 0)]),e (.st 2 (.t 1) (.t 8)),o 2 (.mv (.t 9))])
 (.seq (.ops [o 11 (.agg [(.int .i64 0),(.int .i64 0)] [(0,1,(ki 1)),(1,1,(ki 2))]),o 12 (.agg [(.int .i64 0),(.int .i64 0)] [(0,1,(ki 1)),(1,1,(ki 2))]),o 13 (.agg [(.int .i64 0),(.int .i64 0)] [(0,1,(ki 1)),(1,1,(ki 1))]),o 14 (.mks [(.int .i64 0),(.int .i64 0)] 3 [(0,2,(.t 11)),(2,2,(.t 12)),(4,2,(.t 13))]),o 15 (.call 9 [(.k (.c (.str (bs [109,105,120])))),(.t 14)]),o 10 (.mv (.t 15)),o 16 (.ext 0 (.t 10)),o 17 (.ext 1 (.t 10)),o 18 (.ext 2 (.t 10)),o 3 (.alloc [(.int .i64 0),(.int .i64 0)]),e (.st 2 (.t 3) (.t 16)),o 4 (.mv (.t 17)),o 5 (.mv (.t 18))])
 (.keep [1,2,3,4,5] (.seq (.ops [o 19 (.mv (.t 2)),o 20 (.bin 0 .eql (.t 19) (ki 0)),o 21 (.mv (.t 20)),⟨(some 22),(.mv (.t 5)),some (21,true)⟩,⟨(some 23),(.bin 0 .eql (.t 22) (ki 0)),some (21,true)⟩,o 24 (.pick (.t 21) (.t 23) (.k (.c (.bool false)))),o 25 (.mv (.t 24)),⟨(some 26),(.ldn 2 (.t 1)),some (25,true)⟩,⟨(some 27),(.agg [(.int .i64 0),(.int .i64 0)] [(0,1,(ki 2)),(1,1,(ki 3))]),some (25,true)⟩,⟨(some 28),(.eqa false [(.int .i64),(.int .i64)] (.t 26) (.t 27)),some (25,true)⟩,o 29 (.pick (.t 25) (.t 28) (.k (.c (.bool false)))),o 30 (.mv (.t 29)),⟨(some 31),(.ldn 2 (.t 3)),some (30,true)⟩,⟨(some 32),(.agg [(.int .i64 0),(.int .i64 0)] [(0,1,(ki 1)),(1,1,(ki 2))]),some (30,true)⟩,⟨(some 33),(.eqa false [(.int .i64),(.int .i64)] (.t 31) (.t 32)),some (30,true)⟩,o 34 (.pick (.t 30) (.t 33) (.k (.c (.bool false)))),o 35 (.mv (.t 34)),⟨(some 36),(.mv (.t 4)),some (35,true)⟩,⟨(some 37),(.bin 0 .eql (.t 36) (ki 17)),some (35,true)⟩,o 38 (.pick (.t 35) (.t 37) (.k (.c (.bool false)))),o 0 (.mv (.t 38))])
 .ret))))),
 [.tmp 0]⟩
/-- paintbox/kinds.Field -/
def F6 : AFun := ⟨2,
 (.seq (.ops [o 2 (.box (.t 0)),o 4 (.alloc [(.int .i64 0),(.int .i64 0)]),o 5 (.mv (.k (.c .nilslice))),o 6 (.mv (ki 0))])
 (.scope (.seq (.seq (.ops [o 13 (.ldn 2 (.t 2)),o 14 (.mks [(.int .i64 0),(.int .i64 0)] 1 [(0,2,(.t 13))]),o 15 (.call 10 [(.t 14)]),o 16 (.un .not (.t 15))])
 (.cond (.t 16) (.seq (.ops [o 17 (.agg [(.int .i64 0),(.int .i64 0)] []),e (.st 2 (.t 4) (.t 17)),o 5 (.mv (.k (.c .nilslice))),o 6 (.mv (ki 2))])
 .ret)
 .skip))
 (.seq (.seq (.ops [o 18 (.ldn 2 (.t 2)),o 19 (.call 11 [(.t 18)]),o 20 (.un .not (.t 19)),o 21 (.mv (.t 20)),⟨(some 22),(.fa 1 (.t 2)),some (21,false)⟩,⟨(some 23),(.ld (.t 22)),some (21,false)⟩,⟨(some 24),(.bin 0 .eql (.t 23) (ki 1)),some (21,false)⟩,o 25 (.pick (.t 21) (.k (.c (.bool true))) (.t 24)),o 26 (.mv (.t 25)),⟨(some 27),(.mv (.t 1)),some (26,false)⟩,⟨(some 28),(.bin 0 .eql (.t 27) (.k (.c (.str (bs []))))),some (26,false)⟩,o 29 (.pick (.t 26) (.k (.c (.bool true))) (.t 28)),o 30 (.mv (.t 29)),⟨(some 31),(.mv (.t 1)),some (30,false)⟩,⟨(some 32),(.len 0 (.t 31)),some (30,false)⟩,⟨(some 33),(.bin 0 .gtr (.t 32) (ki 4)),some (30,false)⟩,o 34 (.pick (.t 30) (.k (.c (.bool true))) (.t 33))])
 (.keep [1,2,4,34] (.cond (.t 34) (.seq (.ops [o 35 (.agg [(.int .i64 0),(.int .i64 0)] []),e (.st 2 (.t 4) (.t 35)),o 5 (.mv (.k (.c .nilslice))),o 6 (.mv (ki 231))])
 .ret)
 .skip)))
 (.seq (.label 0)
 (.seq (.seq (.ops [o 36 (.agg [(.str (bs [])),(.str (bs [])),(.str (bs []))] [(0,1,(.k (.c (.str (bs [120,121,122,119]))))),(1,1,(.k (.c (.str (bs [114,103,98,97]))))),(2,1,(.k (.c (.str (bs [115,116,112,113])))))]),o 37 (.mv (ki 0))])
 (.block 0 (.loop [1,2,4,36,37] (.seq (.ops [o 38 (.bin 0 .lss (.t 37) (ki 3))])
 (.seq (.cond (.t 38) .skip
 (.exit 0))
 (.seq (.block 1 (.seq (.ops [o 39 (.ixv 3 none (.t 36) (.t 37)),o 8 (.mv (.t 39))])
 (.seq (.ops [o 9 (.mv (.k (.c .nilslice)))])
 (.seq (.seq (.ops [o 40 (.mv (.t 1)),o 41 (.rng (.t 40))])
 (.block 2 (.loop [1,2,4,8,9,36,37,41] (.seq (.ops [o 42 (.nxt (.t 41)),o 43 (.ext 0 (.t 42))])
 (.seq (.cond (.t 43) .skip
 (.exit 2))
 (.block 3 (.seq (.ops [o 44 (.ext 2 (.t 42)),o 11 (.mv (.t 44))])
 (.seq (.ops [o 45 (.mv (.t 8)),o 46 (.mv (.t 11)),o 47 (.call 12 [(.t 45),(.t 46)]),o 12 (.mv (.t 47))])
 (.keep [1,2,4,8,9,12,36,37,41] (.seq (.seq (.ops [o 48 (.mv (.t 12)),o 49 (.bin 0 .lss (.t 48) (ki 0)),o 50 (.mv (.t 49)),⟨(some 51),(.mv (.t 12)),some (50,false)⟩,⟨(some 52),(.fa 1 (.t 2)),some (50,false)⟩,⟨(some 53),(.ld (.t 52)),some (50,false)⟩,⟨(some 54),(.bin 0 .geq (.t 51) (.t 53)),some (50,false)⟩,o 55 (.pick (.t 50) (.k (.c (.bool true))) (.t 54))])
 (.keep [1,2,4,8,9,12,36,37,41,55] (.cond (.t 55) (.exit 1)
 .skip)))
 (.ops [o 56 (.mv (.t 9)),o 57 (.mv (.t 12)),o 58 (.mks [(.int .i64 0)] 1 [(0,1,(.t 57))]),o 59 (.app 1 8 (.t 56) (.t 58)),o 9 (.mv (.t 59))])))))))))))
 (.keep [2,4,9] (.seq (.ops [o 60 (.fa 0 (.t 2)),o 61 (.ld (.t 60)),o 62 (.mv (.t 9)),o 63 (.len 1 (.t 62)),o 64 (.agg [(.int .i64 0),(.int .i64 0)] [(0,1,(.t 61)),(1,1,(.t 63))]),o 65 (.mv (.t 9)),e (.st 2 (.t 4) (.t 64)),o 5 (.mv (.t 65)),o 6 (.mv (ki 0))])
 .ret))))))
 (.ops [o 66 (.bin 0 .add (.t 37) (ki 1)),o 37 (.mv (.t 66))])))))))
 (.seq (.ops [o 67 (.agg [(.int .i64 0),(.int .i64 0)] []),e (.st 2 (.t 4) (.t 67)),o 5 (.mv (.k (.c .nilslice))),o 6 (.mv (ki 231))])
 .ret))))))),
 [.celln 4 2,.tmp 5,.tmp 6]⟩
/-- paintbox/paintboxref13.Field -/
def F7 : AFun := ⟨2,
 (.seq (.ops [o 2 (.box (.t 0)),o 4 (.alloc [(.int .i64 0),(.int .i64 0)]),o 5 (.mv (.k (.c .nilslice))),o 6 (.mv (ki 0))])
 (.seq (.seq (.ops [o 11 (.ldn 2 (.t 2)),o 12 (.call 13 [(.t 11)]),o 13 (.un .not (.t 12))])
 (.cond (.t 13) (.seq (.ops [o 14 (.agg [(.int .i64 0),(.int .i64 0)] []),e (.st 2 (.t 4) (.t 14)),o 5 (.mv (.k (.c .nilslice))),o 6 (.mv (ki 2))])
 .ret)
 .skip))
 (.seq (.seq (.ops [o 7 (.mv (ki 0))])
 (.block 0 (.loop [1,2,4,7] (.seq (.seq (.ops [o 15 (.mv (.t 7)),o 16 (.bin 0 .lss (.t 15) (ki 3)),o 17 (.mv (.t 16)),⟨(some 18),(.ldn 2 (.t 2)),some (17,true)⟩,⟨(some 19),(.call 14 [(.t 18)]),some (17,true)⟩,o 20 (.pick (.t 17) (.t 19) (.k (.c (.bool false)))),o 21 (.mv (.t 20)),⟨(some 22),(.fa 1 (.t 2)),some (21,true)⟩,⟨(some 23),(.ld (.t 22)),some (21,true)⟩,⟨(some 24),(.bin 0 .gtr (.t 23) (ki 1)),some (21,true)⟩,o 25 (.pick (.t 21) (.t 24) (.k (.c (.bool false)))),o 26 (.mv (.t 25)),⟨(some 27),(.mv (.t 1)),some (26,true)⟩,⟨(some 28),(.len 0 (.t 27)),some (26,true)⟩,⟨(some 29),(.bin 0 .geq (.t 28) (ki 1)),some (26,true)⟩,o 30 (.pick (.t 26) (.t 29) (.k (.c (.bool false)))),o 31 (.mv (.t 30)),⟨(some 32),(.mv (.t 1)),some (31,true)⟩,⟨(some 33),(.len 0 (.t 32)),some (31,true)⟩,⟨(some 34),(.bin 0 .leq (.t 33) (ki 4)),some (31,true)⟩,o 35 (.pick (.t 31) (.t 34) (.k (.c (.bool false))))])
 (.keep [1,2,4,7,35] (.cond (.t 35) .skip
 (.exit 0))))
 (.seq (.block 1 (.seq (.ops [o 8 (.mv (.k (.c .nilslice)))])
 (.seq (.seq (.ops [o 9 (.mv (ki 0))])
 (.block 2 (.loop [1,2,4,7,8,9] (.seq (.seq (.ops [o 38 (.mv (.t 9)),o 39 (.mv (.t 1)),o 40 (.len 0 (.t 39)),o 41 (.bin 0 .lss (.t 38) (.t 40))])
 (.cond (.t 41) .skip
 (.exit 2)))
 (.seq (.block 3 (.seq (.dops [.op 1 (o 45 (.mv (.t 7))),.op 4 (o 48 (.mv (.t 1))),.op 5 (o 49 (.mv (.t 9))),.op 6 (o 50 (.ixs (.t 48) (.t 49))),.eff 0 (o 44 (.mks [(.str (bs []))] 3 [(0,1,(.k (.c (.str (bs [120,121,122,119]))))),(1,1,(.k (.c (.str (bs [114,103,98,97]))))),(2,1,(.k (.c (.str (bs [115,116,112,113])))))])) [],.op 2 (o 46 (.ixa 1 (.t 44) (.t 45))),.op 3 (o 47 (.ld (.t 46))),.eff 7 (o 51 (.call 15 [(.t 47),(.t 50)])) [],.op 8 (o 10 (.mv (.t 51)))])
 (.keep [1,2,4,7,8,9,10] (.seq (.ops [o 52 (.mv (.t 10)),o 53 (.fa 1 (.t 2)),o 54 (.ld (.t 53)),o 55 (.bin 0 .lss (.t 52) (.t 54))])
 (.cond (.t 55) (.ops [o 56 (.mv (.t 8)),o 57 (.mv (.t 10)),o 58 (.mks [(.int .i64 0)] 1 [(0,1,(.t 57))]),o 59 (.app 1 8 (.t 56) (.t 58)),o 8 (.mv (.t 59))])
 .skip)))))
 (.keep [1,2,4,7,8,9] (.ops [o 42 (.mv (.t 9)),o 43 (.bin 0 .add (.t 42) (ki 1)),o 9 (.mv (.t 43))])))))))
 (.seq (.ops [o 60 (.mv (.t 8)),o 61 (.len 1 (.t 60)),o 62 (.mv (.t 1)),o 63 (.len 0 (.t 62)),o 64 (.bin 0 .eql (.t 61) (.t 63))])
 (.cond (.t 64) (.seq (.ops [o 65 (.fa 0 (.t 2)),o 66 (.ld (.t 65)),o 67 (.mv (.t 8)),o 68 (.len 1 (.t 67)),o 69 (.agg [(.int .i64 0),(.int .i64 0)] [(0,1,(.t 66)),(1,1,(.t 68))]),o 70 (.mv (.t 8)),e (.st 2 (.t 4) (.t 69)),o 5 (.mv (.t 70)),o 6 (.mv (ki 0))])
 .ret)
 .skip)))))
 (.keep [1,2,4,7] (.ops [o 36 (.mv (.t 7)),o 37 (.bin 0 .add (.t 36) (ki 1)),o 7 (.mv (.t 37))])))))))
 (.seq (.ops [o 71 (.agg [(.int .i64 0),(.int .i64 0)] []),e (.st 2 (.t 4) (.t 71)),o 5 (.mv (.k (.c .nilslice))),o 6 (.mv (ki 231))])
 .ret)))),
 [.celln 4 2,.tmp 5,.tmp 6]⟩
/-- paintbox/kinds.Of -/
def F8 : AFun := ⟨1,
 (.seq (.ops [o 2 (.alloc [(.int .i64 0),(.int .i64 0)]),o 3 (.mv (ki 0))])
 (.seq (.ops [o 7 (.call 16 []),o 8 (.mv (.t 0)),o 9 (.lk true (.agg [(.int .i64 0),(.int .i64 0)]) true (.t 7) (.t 8)),o 6 (.mv (.t 9)),o 10 (.ext 0 (.t 6)),o 11 (.ext 1 (.t 6)),o 4 (.alloc [(.int .i64 0),(.int .i64 0)]),e (.st 2 (.t 4) (.t 10)),o 5 (.mv (.t 11))])
 (.seq (.seq (.ops [o 12 (.mv (.t 5)),o 13 (.un .not (.t 12))])
 (.cond (.t 13) (.seq (.ops [o 14 (.agg [(.int .i64 0),(.int .i64 0)] []),e (.st 2 (.t 2) (.t 14)),o 3 (.mv (ki 4))])
 .ret)
 .skip))
 (.keep [2,4] (.seq (.ops [o 15 (.ldn 2 (.t 4)),e (.st 2 (.t 2) (.t 15)),o 3 (.mv (ki 0))])
 .ret))))),
 [.celln 2 2,.tmp 3]⟩
/-- paintbox/kinds.Call -/
def F9 : AFun := ⟨2,
 (.seq (.ops [o 4 (.alloc [(.int .i64 0),(.int .i64 0)]),o 5 (.mv (ki 0)),o 6 (.mv (ki 0))])
 (.seq (.seq (.ops [o 15 (.mv (.t 1)),o 16 (.call 10 [(.t 15)]),o 17 (.un .not (.t 16))])
 (.cond (.t 17) (.seq (.ops [o 18 (.agg [(.int .i64 0),(.int .i64 0)] []),e (.st 2 (.t 4) (.t 18)),o 5 (.mv (ki 0)),o 6 (.mv (ki 2))])
 .ret)
 .skip))
 (.seq (.seq (.ops [o 20 (.mv (.t 0)),o 21 (.call 8 [(.t 20)]),o 19 (.mv (.t 21)),o 22 (.ext 0 (.t 19)),o 23 (.ext 1 (.t 19)),o 7 (.alloc [(.int .i64 0),(.int .i64 0)]),e (.st 2 (.t 7) (.t 22)),o 8 (.mv (.t 23))])
 (.keep [0,1,4,7,8] (.seq (.ops [o 24 (.mv (.t 8)),o 25 (.bin 0 .eql (.t 24) (ki 0)),o 26 (.mv (.t 25)),⟨(some 27),(.ldn 2 (.t 7)),some (26,true)⟩,⟨(some 28),(.call 11 [(.t 27)]),some (26,true)⟩,o 29 (.pick (.t 26) (.t 28) (.k (.c (.bool false))))])
 (.cond (.t 29) (.seq (.seq (.ops [o 30 (.ldn 2 (.t 7)),o 31 (.mv (.t 1)),o 32 (.call 17 [(.t 30),(.t 31)])])
 (.cond (.t 32) (.seq (.ops [o 33 (.ldn 2 (.t 7)),e (.st 2 (.t 4) (.t 33)),o 5 (.mv (ki 23)),o 6 (.mv (ki 0))])
 .ret)
 .skip))
 (.keep [4] (.seq (.ops [o 34 (.agg [(.int .i64 0),(.int .i64 0)] []),e (.st 2 (.t 4) (.t 34)),o 5 (.mv (ki 0)),o 6 (.mv (ki 230))])
 .ret)))
 .skip))))
 (.seq (.ops [o 36 (.call 18 []),o 37 (.mv (.t 0)),o 38 (.lk true (.agg [(.int .i64 0),.nilslice]) true (.t 36) (.t 37)),o 35 (.mv (.t 38)),o 39 (.ext 0 (.t 35)),o 40 (.ext 1 (.t 35)),o 9 (.alloc [(.int .i64 0),.nilslice]),e (.st 2 (.t 9) (.t 39)),o 10 (.mv (.t 40))])
 (.keep [1,4,9,10] (.seq (.seq (.ops [o 41 (.mv (.t 10)),o 42 (.un .not (.t 41))])
 (.cond (.t 42) (.seq (.ops [o 43 (.agg [(.int .i64 0),(.int .i64 0)] []),e (.st 2 (.t 4) (.t 43)),o 5 (.mv (ki 0)),o 6 (.mv (ki 4))])
 .ret)
 .skip))
 (.seq (.seq (.ops [o 44 (.fa 1 (.t 9)),o 45 (.ld (.t 44)),o 46 (.len 1 (.t 45)),o 47 (.mv (ki 0))])
 (.block 0 (.loop [1,4,9,45,46,47] (.seq (.ops [o 48 (.bin 0 .lss (.t 47) (.t 46))])
 (.seq (.cond (.t 48) .skip
 (.exit 0))
 (.seq (.block 1 (.seq (.ops [o 49 (.ixa 1 (.t 45) (.t 47)),o 50 (.ld (.t 49)),o 12 (.mv (.t 50))])
 (.seq (.ops [o 52 (.mv (.t 12)),o 53 (.mv (.t 1)),o 54 (.call 19 [(.t 52),(.t 53)]),o 51 (.mv (.t 54)),o 55 (.ext 0 (.t 51)),o 56 (.ext 1 (.t 51)),o 13 (.alloc [(.int .i64 0),(.int .i64 0)]),e (.st 2 (.t 13) (.t 55)),o 14 (.mv (.t 56))])
 (.keep [1,4,9,13,14,45,46,47] (.seq (.ops [o 57 (.mv (.t 14))])
 (.cond (.t 57) (.seq (.dops [.op 0 (o 58 (.ldn 2 (.t 13))),.op 1 (o 59 (.fa 0 (.t 9))),.op 2 (o 60 (.ld (.t 59))),.eff 3 (e (.st 2 (.t 4) (.t 58))) [o 60 (.ld (.t 59))],.op 4 (o 5 (.mv (.t 60))),.op 5 (o 6 (.mv (ki 0)))])
 .ret)
 .skip))))))
 (.keep [1,4,9,45,46,47] (.ops [o 61 (.bin 0 .add (.t 47) (ki 1)),o 47 (.mv (.t 61))]))))))))
 (.seq (.ops [o 62 (.agg [(.int .i64 0),(.int .i64 0)] []),e (.st 2 (.t 4) (.t 62)),o 5 (.mv (ki 0)),o 6 (.mv (ki 230))])
 .ret)))))))),
 [.celln 4 2,.tmp 5,.tmp 6]⟩
/-- paintbox/kinds.may -/
def F10 : AFun := ⟨1,
 (.seq (.ops [o 2 (.mv (.k (.c (.bool false))))])
 (.seq (.seq (.ops [o 6 (.mv (.t 0)),o 7 (.len 1 (.t 6)),o 8 (.mv (ki 0))])
 (.block 0 (.loop [6,7,8] (.seq (.ops [o 9 (.bin 0 .lss (.t 8) (.t 7))])
 (.seq (.cond (.t 9) .skip
 (.exit 0))
 (.seq (.block 1 (.seq (.ops [o 10 (.ixa 2 (.t 6) (.t 8)),o 11 (.ldn 2 (.t 10)),o 4 (.alloc [(.int .i64 0),(.int .i64 0)]),e (.st 2 (.t 4) (.t 11))])
 (.seq (.ops [o 12 (.fa 1 (.t 4)),o 13 (.ld (.t 12)),o 14 (.bin 0 .geq (.t 13) (ki 1)),o 15 (.mv (.t 14)),⟨(some 16),(.fa 1 (.t 4)),some (15,true)⟩,⟨(some 17),(.ld (.t 16)),some (15,true)⟩,⟨(some 18),(.bin 0 .leq (.t 17) (ki 4)),some (15,true)⟩,o 19 (.pick (.t 15) (.t 18) (.k (.c (.bool false)))),o 5 (.mv (.t 19))])
 (.keep [4,5,6,7,8] (.seq (.seq (.ops [o 20 (.fa 0 (.t 4)),o 21 (.ld (.t 20))])
 (.block 2 (.seq (.ops [o 23 (.bin 0 .eql (.t 21) (ki 0)),o 22 (.mv (.t 23))])
 (.cond (.t 22) (.ops [o 24 (.fa 1 (.t 4)),o 25 (.ld (.t 24)),o 26 (.bin 0 .eql (.t 25) (ki 0)),o 5 (.mv (.t 26))])
 (.seq (.ops [o 28 (.bin 0 .eql (.t 21) (ki 4)),o 27 (.mv (.t 28))])
 (.cond (.t 27) (.ops [o 29 (.fa 1 (.t 4)),o 30 (.ld (.t 29)),o 31 (.bin 0 .eql (.t 30) (ki 1)),o 5 (.mv (.t 31))])
 (.seq (.seq (.ops [o 33 (.bin 0 .eql (.t 21) (ki 1)),o 32 (.mv (.t 33))])
 (.cond (.t 32) .skip
 (.seq (.ops [o 34 (.bin 0 .eql (.t 21) (ki 2)),o 32 (.mv (.t 34))])
 (.keep [5,6,7,8,21,32] (.cond (.t 32) .skip
 (.ops [o 35 (.bin 0 .eql (.t 21) (ki 3)),o 32 (.mv (.t 35))]))))))
 (.cond (.t 32) .skip
 (.ops [o 5 (.mv (.k (.c (.bool false))))])))))))))
 (.keep [5,6,7,8] (.seq (.ops [o 36 (.mv (.t 5)),o 37 (.un .not (.t 36))])
 (.cond (.t 37) (.seq (.ops [o 2 (.mv (.k (.c (.bool false))))])
 .ret)
 .skip))))))))
 (.ops [o 38 (.bin 0 .add (.t 8) (ki 1)),o 8 (.mv (.t 38))])))))))
 (.seq (.ops [o 2 (.mv (.k (.c (.bool true))))])
 .ret))),
 [.tmp 2]⟩
/-- paintbox/kinds.holds -/
def F11 : AFun := ⟨1,
 (.seq (.ops [o 1 (.box (.t 0)),o 2 (.mv (.k (.c (.bool false))))])
 (.seq (.ops [o 3 (.ldn 2 (.t 1)),o 4 (.call 20 [(.t 3)]),o 5 (.mv (.t 4)),⟨(some 6),(.fa 0 (.t 1)),some (5,false)⟩,⟨(some 7),(.ld (.t 6)),some (5,false)⟩,⟨(some 8),(.bin 0 .eql (.t 7) (ki 3)),some (5,false)⟩,o 9 (.pick (.t 5) (.k (.c (.bool true))) (.t 8)),o 2 (.mv (.t 9))])
 .ret)),
 [.tmp 2]⟩
/-- paintbox/kinds.runeAt -/
def F12 : AFun := ⟨2,
 (.seq (.ops [o 4 (.mv (ki 0))])
 (.seq (.seq (.ops [o 7 (.mv (.t 0)),o 8 (.rng (.t 7))])
 (.block 0 (.loop [1,8] (.seq (.ops [o 9 (.nxt (.t 8)),o 10 (.ext 0 (.t 9))])
 (.seq (.cond (.t 10) .skip
 (.exit 0))
 (.block 1 (.seq (.ops [o 11 (.ext 1 (.t 9)),o 12 (.ext 2 (.t 9)),o 5 (.mv (.t 11)),o 6 (.mv (.t 12))])
 (.seq (.ops [o 13 (.mv (.t 6)),o 14 (.mv (.t 1)),o 15 (.bin 0 .eql (.t 13) (.t 14))])
 (.cond (.t 15) (.seq (.ops [o 16 (.mv (.t 5)),o 4 (.mv (.t 16))])
 .ret)
 .skip)))))))))
 (.seq (.ops [o 4 (.mv (ki (-1)))])
 .ret))),
 [.tmp 4]⟩
/-- paintbox/paintboxref13.May -/
def F13 : AFun := ⟨1,
 (.seq (.ops [o 1 (.box (.t 0)),o 2 (.mv (.k (.c (.bool false))))])
 (.seq (.seq (.ops [o 3 (.fa 0 (.t 1)),o 4 (.ld (.t 3)),o 5 (.bin 0 .eql (.t 4) (ki 0))])
 (.cond (.t 5) (.seq (.ops [o 6 (.fa 1 (.t 1)),o 7 (.ld (.t 6)),o 8 (.bin 0 .eql (.t 7) (ki 0)),o 2 (.mv (.t 8))])
 .ret)
 .skip))
 (.seq (.seq (.ops [o 9 (.fa 0 (.t 1)),o 10 (.ld (.t 9)),o 11 (.bin 0 .eql (.t 10) (ki 4))])
 (.cond (.t 11) (.seq (.ops [o 12 (.fa 1 (.t 1)),o 13 (.ld (.t 12)),o 14 (.bin 0 .eql (.t 13) (ki 1)),o 2 (.mv (.t 14))])
 .ret)
 .skip))
 (.keep [1] (.seq (.ops [o 15 (.fa 0 (.t 1)),o 16 (.ld (.t 15)),o 17 (.bin 0 .gtr (.t 16) (ki 0)),o 18 (.mv (.t 17)),⟨(some 19),(.fa 0 (.t 1)),some (18,true)⟩,⟨(some 20),(.ld (.t 19)),some (18,true)⟩,⟨(some 21),(.bin 0 .lss (.t 20) (ki 4)),some (18,true)⟩,o 22 (.pick (.t 18) (.t 21) (.k (.c (.bool false)))),o 23 (.mv (.t 22)),⟨(some 24),(.fa 1 (.t 1)),some (23,true)⟩,⟨(some 25),(.ld (.t 24)),some (23,true)⟩,⟨(some 26),(.bin 0 .geq (.t 25) (ki 1)),some (23,true)⟩,o 27 (.pick (.t 23) (.t 26) (.k (.c (.bool false)))),o 28 (.mv (.t 27)),⟨(some 29),(.fa 1 (.t 1)),some (28,true)⟩,⟨(some 30),(.ld (.t 29)),some (28,true)⟩,⟨(some 31),(.bin 0 .leq (.t 30) (ki 4)),some (28,true)⟩,o 32 (.pick (.t 28) (.t 31) (.k (.c (.bool false)))),o 2 (.mv (.t 32))])
 .ret))))),
 [.tmp 2]⟩
/-- paintbox/paintboxref13.value -/
def F14 : AFun := ⟨1,
 (.seq (.ops [o 1 (.box (.t 0)),o 2 (.mv (.k (.c (.bool false))))])
 (.seq (.ops [o 3 (.fa 0 (.t 1)),o 4 (.ld (.t 3)),o 5 (.bin 0 .geq (.t 4) (ki 1)),o 6 (.mv (.t 5)),⟨(some 7),(.fa 0 (.t 1)),some (6,true)⟩,⟨(some 8),(.ld (.t 7)),some (6,true)⟩,⟨(some 9),(.bin 0 .leq (.t 8) (ki 3)),some (6,true)⟩,o 10 (.pick (.t 6) (.t 9) (.k (.c (.bool false)))),o 2 (.mv (.t 10))])
 .ret)),
 [.tmp 2]⟩
/-- paintbox/paintboxref13.place -/
def F15 : AFun := ⟨2,
 (.seq (.ops [o 4 (.mv (ki 0))])
 (.seq (.seq (.ops [o 5 (.mv (ki 0))])
 (.block 0 (.loop [0,1,5] (.seq (.seq (.ops [o 6 (.mv (.t 5)),o 7 (.bin 0 .lss (.t 6) (ki 4))])
 (.cond (.t 7) .skip
 (.exit 0)))
 (.seq (.block 1 (.seq (.ops [o 10 (.mv (.t 0)),o 11 (.mv (.t 5)),o 12 (.ixs (.t 10) (.t 11)),o 13 (.mv (.t 1)),o 14 (.bin 0 .eql (.t 12) (.t 13))])
 (.cond (.t 14) (.seq (.ops [o 15 (.mv (.t 5)),o 4 (.mv (.t 15))])
 .ret)
 .skip)))
 (.ops [o 8 (.mv (.t 5)),o 9 (.bin 0 .add (.t 8) (ki 1)),o 5 (.mv (.t 9))]))))))
 (.keep [] (.seq (.ops [o 4 (.mv (ki 9))])
 .ret)))),
 [.tmp 4]⟩
/-- paintbox/kinds.words -/
def F16 : AFun := ⟨0,
 (.seq (.ops [o 0 (.mv (.k (.c .nilmap)))])
 (.seq (.ops [o 6 .mkm,o 7 (.agg [(.int .i64 0),(.int .i64 0)] []),e (.mup true (.t 6) (.k (.c (.str (bs [118,111,105,100])))) (.t 7)),o 8 (.agg [(.int .i64 0),(.int .i64 0)] [(0,1,(ki 4)),(1,1,(ki 1))]),e (.mup true (.t 6) (.k (.c (.str (bs [115,97,109,112,108,101,114,50,68])))) (.t 8)),o 9 (.mv (.t 6)),o 1 (.mv (.t 9))])
 (.seq (.seq (.ops [o 10 (.agg [(.str (bs [])),(.str (bs [])),(.str (bs [])),(.str (bs []))] []),o 11 (.agg [(.str (bs [])),(.str (bs [])),(.str (bs [])),(.str (bs []))] [(0,1,(.k (.c (.str (bs [102,108,111,97,116]))))),(1,1,(.k (.c (.str (bs [118,101,99,50]))))),(2,1,(.k (.c (.str (bs [118,101,99,51]))))),(3,1,(.k (.c (.str (bs [118,101,99,52])))))]),o 12 (.agg [(.str (bs [])),(.str (bs [])),(.str (bs [])),(.str (bs []))] [(0,1,(.k (.c (.str (bs [105,110,116]))))),(1,1,(.k (.c (.str (bs [105,118,101,99,50]))))),(2,1,(.k (.c (.str (bs [105,118,101,99,51]))))),(3,1,(.k (.c (.str (bs [105,118,101,99,52])))))]),o 13 (.agg [(.str (bs [])),(.str (bs [])),(.str (bs [])),(.str (bs []))] [(0,1,(.k (.c (.str (bs [98,111,111,108]))))),(1,1,(.k (.c (.str (bs [98,118,101,99,50]))))),(2,1,(.k (.c (.str (bs [98,118,101,99,51]))))),(3,1,(.k (.c (.str (bs [98,118,101,99,52])))))]),o 14 (.mks [(.str (bs [])),(.str (bs [])),(.str (bs [])),(.str (bs []))] 4 [(0,4,(.t 10)),(4,4,(.t 11)),(8,4,(.t 12)),(12,4,(.t 13))]),o 15 (.len 1 (.t 14)),o 16 (.mv (ki 0))])
 (.block 0 (.loop [1,14,15,16] (.seq (.ops [o 17 (.bin 0 .lss (.t 16) (.t 15))])
 (.seq (.cond (.t 17) .skip
 (.exit 0))
 (.seq (.block 1 (.seq (.ops [o 18 (.mv (.t 16)),o 19 (.ixa 4 (.t 14) (.t 16)),o 20 (.ldn 4 (.t 19)),o 3 (.alloc [(.str (bs [])),(.str (bs [])),(.str (bs [])),(.str (bs []))]),o 2 (.mv (.t 18)),e (.st 4 (.t 3) (.t 20))])
 (.seq (.ops [o 21 (.ldn 4 (.t 3)),o 22 (.mv (ki 0))])
 (.block 2 (.loop [1,2,14,15,16,21,22] (.seq (.ops [o 23 (.bin 0 .lss (.t 22) (ki 4))])
 (.seq (.cond (.t 23) .skip
 (.exit 2))
 (.seq (.block 3 (.seq (.ops [o 24 (.mv (.t 22)),o 25 (.ixv 4 none (.t 21) (.t 22)),o 4 (.mv (.t 24)),o 5 (.mv (.t 25))])
 (.seq (.ops [o 26 (.mv (.t 5)),o 27 (.bin 0 .neq (.t 26) (.k (.c (.str (bs [])))))])
 (.cond (.t 27) (.ops [o 28 (.mv (.t 1)),o 29 (.mv (.t 5)),o 30 (.mv (.t 2)),o 31 (.mv (.t 4)),o 32 (.bin 0 .add (.t 31) (ki 1)),o 33 (.agg [(.int .i64 0),(.int .i64 0)] [(0,1,(.t 30)),(1,1,(.t 32))]),e (.mup true (.t 28) (.t 29) (.t 33))])
 .skip))))
 (.keep [1,2,14,15,16,21,22] (.ops [o 34 (.bin 0 .add (.t 22) (ki 1)),o 22 (.mv (.t 34))]))))))))))
 (.ops [o 35 (.bin 0 .add (.t 16) (ki 1)),o 16 (.mv (.t 35))])))))))
 (.seq (.ops [o 36 (.mv (.t 1)),o 0 (.mv (.t 36))])
 .ret)))),
 [.tmp 0]⟩
/-- paintbox/kinds.makes -/
def F17 : AFun := ⟨2,
 (.seq (.ops [o 2 (.box (.t 0)),o 4 (.mv (.k (.c (.bool false))))])
 (.seq (.ops [o 5 (.mv (ki 0)),o 6 (.mv (ki 0))])
 (.seq (.seq (.ops [o 9 (.mv (.t 1)),o 10 (.len 1 (.t 9)),o 11 (.mv (ki 0))])
 (.block 0 (.loop [1,2,5,6,9,10,11] (.seq (.ops [o 12 (.bin 0 .lss (.t 11) (.t 10))])
 (.seq (.cond (.t 12) .skip
 (.exit 0))
 (.seq (.block 1 (.seq (.ops [o 13 (.ixa 2 (.t 9) (.t 11)),o 14 (.ldn 2 (.t 13)),o 8 (.alloc [(.int .i64 0),(.int .i64 0)]),e (.st 2 (.t 8) (.t 14))])
 (.seq (.seq (.ops [o 15 (.ldn 2 (.t 8)),o 16 (.call 11 [(.t 15)]),o 17 (.un .not (.t 16))])
 (.keep [1,2,5,8,9,10,11,17] (.cond (.t 17) (.seq (.ops [o 4 (.mv (.k (.c (.bool false))))])
 .ret)
 .skip)))
 (.dops [.op 0 (o 18 (.mv (.t 5))),.op 1 (o 19 (.fa 1 (.t 8))),.op 4 (o 22 (.fa 1 (.t 8))),.op 2 (o 20 (.ld (.t 19))),.op 5 (o 23 (.ld (.t 22))),.op 3 (o 21 (.bin 0 .add (.t 18) (.t 20))),.eff 6 (o 5 (.mv (.t 21))) [o 23 (.ld (.t 22))],.op 7 (o 6 (.mv (.t 23)))]))))
 (.keep [1,2,5,6,9,10,11] (.ops [o 24 (.bin 0 .add (.t 11) (ki 1)),o 11 (.mv (.t 24))]))))))))
 (.seq (.block 2 (.seq (.ops [o 26 (.mv (.t 1)),o 27 (.len 1 (.t 26)),o 28 (.bin 0 .eql (.t 27) (ki 0)),o 25 (.mv (.t 28))])
 (.cond (.t 25) (.seq (.ops [o 4 (.mv (.k (.c (.bool false))))])
 .ret)
 (.seq (.ops [o 30 (.fa 1 (.t 2)),o 31 (.ld (.t 30)),o 32 (.bin 0 .eql (.t 31) (ki 1)),o 29 (.mv (.t 32))])
 (.keep [1,2,5,6,29] (.cond (.t 29) (.seq (.ops [o 33 (.mv (.t 1)),o 34 (.len 1 (.t 33)),o 35 (.bin 0 .eql (.t 34) (ki 1)),o 4 (.mv (.t 35))])
 .ret)
 (.seq (.ops [o 37 (.mv (.t 1)),o 38 (.len 1 (.t 37)),o 39 (.bin 0 .eql (.t 38) (ki 1)),o 36 (.mv (.t 39))])
 (.cond (.t 36) (.seq (.ops [o 40 (.mv (.t 6)),o 41 (.bin 0 .eql (.t 40) (ki 1)),o 42 (.mv (.t 41)),⟨(some 43),(.mv (.t 6)),some (42,false)⟩,⟨(some 44),(.fa 1 (.t 2)),some (42,false)⟩,⟨(some 45),(.ld (.t 44)),some (42,false)⟩,⟨(some 46),(.bin 0 .geq (.t 43) (.t 45)),some (42,false)⟩,o 47 (.pick (.t 42) (.k (.c (.bool true))) (.t 46)),o 4 (.mv (.t 47))])
 .ret)
 .skip))))))))
 (.keep [2,5,6] (.seq (.ops [o 48 (.mv (.t 5)),o 49 (.fa 1 (.t 2)),o 50 (.ld (.t 49)),o 51 (.bin 0 .geq (.t 48) (.t 50)),o 52 (.mv (.t 51)),⟨(some 53),(.mv (.t 5)),some (52,true)⟩,⟨(some 54),(.mv (.t 6)),some (52,true)⟩,⟨(some 55),(.bin 0 .sub (.t 53) (.t 54)),some (52,true)⟩,⟨(some 56),(.fa 1 (.t 2)),some (52,true)⟩,⟨(some 57),(.ld (.t 56)),some (52,true)⟩,⟨(some 58),(.bin 0 .lss (.t 55) (.t 57)),some (52,true)⟩,o 59 (.pick (.t 52) (.t 58) (.k (.c (.bool false)))),o 4 (.mv (.t 59))])
 .ret)))))),
 [.tmp 4]⟩
/-- paintbox/kinds.functions -/
def F18 : AFun := ⟨0,
 (.seq (.ops [o 0 (.mv (.k (.c .nilmap)))])
 (.seq (.ops [o 4 .mkm,o 5 (.mks [(.str (bs []))] 2 [(0,1,(.k (.c (.str (bs [71,71,62,71]))))),(1,1,(.k (.c (.str (bs [71,102,62,71])))))]),o 6 (.agg [(.int .i64 0),.nilslice] [(0,1,(ki 12)),(1,1,(.t 5))]),e (.mup true (.t 4) (.k (.c (.str (bs [109,105,110])))) (.t 6)),o 7 (.mks [(.str (bs []))] 2 [(0,1,(.k (.c (.str (bs [71,71,62,71]))))),(1,1,(.k (.c (.str (bs [71,102,62,71])))))]),o 8 (.agg [(.int .i64 0),.nilslice] [(0,1,(ki 13)),(1,1,(.t 7))]),e (.mup true (.t 4) (.k (.c (.str (bs [109,97,120])))) (.t 8)),o 9 (.mks [(.str (bs []))] 2 [(0,1,(.k (.c (.str (bs [71,71,62,71]))))),(1,1,(.k (.c (.str (bs [71,102,62,71])))))]),o 10 (.agg [(.int .i64 0),.nilslice] [(0,1,(ki 14)),(1,1,(.t 9))]),e (.mup true (.t 4) (.k (.c (.str (bs [109,111,100])))) (.t 10)),o 11 (.mks [(.str (bs []))] 1 [(0,1,(.k (.c (.str (bs [71,71,62,71])))))]),o 12 (.agg [(.int .i64 0),.nilslice] [(0,1,(ki 15)),(1,1,(.t 11))]),e (.mup true (.t 4) (.k (.c (.str (bs [112,111,119])))) (.t 12)),o 13 (.mks [(.str (bs []))] 2 [(0,1,(.k (.c (.str (bs [71,71,62,71]))))),(1,1,(.k (.c (.str (bs [102,71,62,71])))))]),o 14 (.agg [(.int .i64 0),.nilslice] [(0,1,(ki 16)),(1,1,(.t 13))]),e (.mup true (.t 4) (.k (.c (.str (bs [115,116,101,112])))) (.t 14)),o 15 (.mks [(.str (bs []))] 2 [(0,1,(.k (.c (.str (bs [71,71,71,62,71]))))),(1,1,(.k (.c (.str (bs [71,71,102,62,71])))))]),o 16 (.agg [(.int .i64 0),.nilslice] [(0,1,(ki 17)),(1,1,(.t 15))]),e (.mup true (.t 4) (.k (.c (.str (bs [109,105,120])))) (.t 16)),o 17 (.mks [(.str (bs []))] 2 [(0,1,(.k (.c (.str (bs [71,71,71,62,71]))))),(1,1,(.k (.c (.str (bs [71,102,102,62,71])))))]),o 18 (.agg [(.int .i64 0),.nilslice] [(0,1,(ki 18)),(1,1,(.t 17))]),e (.mup true (.t 4) (.k (.c (.str (bs [99,108,97,109,112])))) (.t 18)),o 19 (.mks [(.str (bs []))] 1 [(0,1,(.k (.c (.str (bs [71,71,62,102])))))]),o 20 (.agg [(.int .i64 0),.nilslice] [(0,1,(ki 19)),(1,1,(.t 19))]),e (.mup true (.t 4) (.k (.c (.str (bs [100,111,116])))) (.t 20)),o 21 (.mks [(.str (bs []))] 1 [(0,1,(.k (.c (.str (bs [71,62,102])))))]),o 22 (.agg [(.int .i64 0),.nilslice] [(0,1,(ki 20)),(1,1,(.t 21))]),e (.mup true (.t 4) (.k (.c (.str (bs [108,101,110,103,116,104])))) (.t 22)),o 23 (.mks [(.str (bs []))] 1 [(0,1,(.k (.c (.str (bs [51,51,62,51])))))]),o 24 (.agg [(.int .i64 0),.nilslice] [(0,1,(ki 21)),(1,1,(.t 23))]),e (.mup true (.t 4) (.k (.c (.str (bs [99,114,111,115,115])))) (.t 24)),o 25 (.mks [(.str (bs []))] 1 [(0,1,(.k (.c (.str (bs [115,50,62,52])))))]),o 26 (.agg [(.int .i64 0),.nilslice] [(0,1,(ki 22)),(1,1,(.t 25))]),e (.mup true (.t 4) (.k (.c (.str (bs [116,101,120,116,117,114,101,50,68])))) (.t 26)),o 27 (.mv (.t 4)),o 1 (.mv (.t 27))])
 (.keep [1] (.seq (.seq (.ops [o 28 (.agg [(.str (bs [])),(.str (bs [])),(.str (bs [])),(.str (bs [])),(.str (bs [])),(.str (bs [])),(.str (bs [])),(.str (bs [])),(.str (bs [])),(.str (bs [])),(.str (bs []))] [(0,1,(.k (.c (.str (bs [97,98,115]))))),(1,1,(.k (.c (.str (bs [115,105,103,110]))))),(2,1,(.k (.c (.str (bs [102,108,111,111,114]))))),(3,1,(.k (.c (.str (bs [102,114,97,99,116]))))),(4,1,(.k (.c (.str (bs [115,113,114,116]))))),(5,1,(.k (.c (.str (bs [105,110,118,101,114,115,101,115,113,114,116]))))),(6,1,(.k (.c (.str (bs [101,120,112,50]))))),(7,1,(.k (.c (.str (bs [108,111,103,50]))))),(8,1,(.k (.c (.str (bs [115,105,110]))))),(9,1,(.k (.c (.str (bs [99,111,115]))))),(10,1,(.k (.c (.str (bs [110,111,114,109,97,108,105,122,101])))))]),o 29 (.mv (ki 0))])
 (.block 0 (.loop [1,28,29] (.seq (.ops [o 30 (.bin 0 .lss (.t 29) (ki 11))])
 (.seq (.cond (.t 30) .skip
 (.exit 0))
 (.seq (.block 1 (.seq (.ops [o 31 (.mv (.t 29)),o 32 (.ixv 11 none (.t 28) (.t 29)),o 2 (.mv (.t 31)),o 3 (.mv (.t 32))])
 (.ops [o 33 (.mv (.t 1)),o 34 (.mv (.t 3)),o 35 (.mv (.t 2)),o 36 (.bin 0 .add (ki 1) (.t 35)),o 37 (.mks [(.str (bs []))] 1 [(0,1,(.k (.c (.str (bs [71,62,71])))))]),o 38 (.agg [(.int .i64 0),.nilslice] [(0,1,(.t 36)),(1,1,(.t 37))]),e (.mup true (.t 33) (.t 34) (.t 38))])))
 (.keep [1,28,29] (.ops [o 39 (.bin 0 .add (.t 29) (ki 1)),o 29 (.mv (.t 39))]))))))))
 (.seq (.ops [o 40 (.mv (.t 1)),o 0 (.mv (.t 40))])
 .ret))))),
 [.tmp 0]⟩
/-- paintbox/kinds.takes -/
def F19 : AFun := ⟨2,
 (.seq (.ops [o 4 (.alloc [(.int .i64 0),(.int .i64 0)]),o 5 (.mv (.k (.c (.bool false))))])
 (.seq (.ops [o 14 (.mv (.t 0)),o 15 (.call 21 [(.t 14),(.k (.c (.str (bs [62]))))]),o 13 (.mv (.t 15)),o 16 (.ext 0 (.t 13)),o 17 (.ext 1 (.t 13)),o 18 (.ext 2 (.t 13)),o 6 (.mv (.t 16)),o 7 (.mv (.t 17)),o 8 (.mv (.t 18))])
 (.seq (.seq (.ops [o 19 (.mv (.t 6)),o 20 (.len 0 (.t 19)),o 21 (.mv (.t 1)),o 22 (.len 1 (.t 21)),o 23 (.bin 0 .neq (.t 20) (.t 22))])
 (.keep [1,4,6,7,23] (.cond (.t 23) (.seq (.ops [o 24 (.agg [(.int .i64 0),(.int .i64 0)] []),e (.st 2 (.t 4) (.t 24)),o 5 (.mv (.k (.c (.bool false))))])
 .ret)
 .skip)))
 (.seq (.ops [o 9 (.mv (ki 1))])
 (.seq (.seq (.ops [o 25 (.mv (.t 6)),o 26 (.call 22 [(.t 25),(.k (.c (.int .u8 71)))]),o 10 (.mv (.t 26))])
 (.seq (.ops [o 27 (.mv (.t 10)),o 28 (.bin 0 .geq (.t 27) (ki 0))])
 (.cond (.t 28) (.ops [o 29 (.mv (.t 1)),o 30 (.mv (.t 10)),o 31 (.ixa 2 (.t 29) (.t 30)),o 32 (.fa 1 (.t 31)),o 33 (.ld (.t 32)),o 9 (.mv (.t 33))])
 .skip)))
 (.keep [1,4,6,7,9] (.seq (.seq (.ops [o 34 (.mv (.t 1)),o 35 (.len 1 (.t 34)),o 36 (.mv (ki 0))])
 (.block 0 (.loop [4,6,7,9,34,35,36] (.seq (.ops [o 37 (.bin 0 .lss (.t 36) (.t 35))])
 (.seq (.cond (.t 37) .skip
 (.exit 0))
 (.seq (.block 1 (.seq (.ops [o 38 (.mv (.t 36)),o 39 (.ixa 2 (.t 34) (.t 36)),o 40 (.ldn 2 (.t 39)),o 12 (.alloc [(.int .i64 0),(.int .i64 0)]),o 11 (.mv (.t 38)),e (.st 2 (.t 12) (.t 40))])
 (.seq (.dops [.op 0 (o 41 (.ldn 2 (.t 12))),.op 1 (o 42 (.mv (.t 6))),.op 2 (o 43 (.mv (.t 11))),.op 4 (o 45 (.mv (.t 9))),.op 3 (o 44 (.ixs (.t 42) (.t 43))),.eff 5 (o 46 (.call 23 [(.t 44),(.t 45)])) [o 41 (.ldn 2 (.t 12))],.op 6 (o 47 (.eqa true [(.int .i64),(.int .i64)] (.t 41) (.t 46)))])
 (.keep [4,6,7,9,34,35,36,47] (.cond (.t 47) (.seq (.ops [o 48 (.agg [(.int .i64 0),(.int .i64 0)] []),e (.st 2 (.t 4) (.t 48)),o 5 (.mv (.k (.c (.bool false))))])
 .ret)
 .skip)))))
 (.ops [o 49 (.bin 0 .add (.t 36) (ki 1)),o 36 (.mv (.t 49))])))))))
 (.seq (.ops [o 50 (.mv (.t 7)),o 51 (.ixs (.t 50) (ki 0)),o 52 (.mv (.t 9)),o 53 (.call 23 [(.t 51),(.t 52)]),e (.st 2 (.t 4) (.t 53)),o 5 (.mv (.k (.c (.bool true))))])
 .ret)))))))),
 [.celln 4 2,.tmp 5]⟩
/-- paintbox/kinds.counts -/
def F20 : AFun := ⟨1,
 (.seq (.ops [o 1 (.box (.t 0)),o 2 (.mv (.k (.c (.bool false))))])
 (.seq (.ops [o 3 (.fa 0 (.t 1)),o 4 (.ld (.t 3)),o 5 (.bin 0 .eql (.t 4) (ki 1)),o 6 (.mv (.t 5)),⟨(some 7),(.fa 0 (.t 1)),some (6,false)⟩,⟨(some 8),(.ld (.t 7)),some (6,false)⟩,⟨(some 9),(.bin 0 .eql (.t 8) (ki 2)),some (6,false)⟩,o 10 (.pick (.t 6) (.k (.c (.bool true))) (.t 9)),o 2 (.mv (.t 10))])
 .ret)),
 [.tmp 2]⟩
/-- strings.Cut -/
def F21 : AFun := ⟨2,
 (.seq (.ops [o 4 (.mv (.k (.c (.str (bs []))))),o 5 (.mv (.k (.c (.str (bs []))))),o 6 (.mv (.k (.c (.bool false))))])
 (.seq (.ops [o 7 (.mv (.t 0)),o 8 (.mv (.t 1)),o 9 (.call 24 [(.t 7),(.t 8)]),o 10 (.ext 0 (.t 9)),o 11 (.ext 1 (.t 9)),o 12 (.ext 2 (.t 9)),o 4 (.mv (.t 10)),o 5 (.mv (.t 11)),o 6 (.mv (.t 12))])
 .ret)),
 [.tmp 4,.tmp 5,.tmp 6]⟩
/-- strings.IndexByte -/
def F22 : AFun := ⟨2,
 (.seq (.ops [o 4 (.mv (ki 0))])
 (.seq (.ops [o 5 (.mv (.t 0)),o 6 (.mv (.t 1)),o 7 (.call 25 [(.t 5),(.t 6)]),o 4 (.mv (.t 7))])
 .ret)),
 [.tmp 4]⟩
/-- paintbox/kinds.sized -/
def F23 : AFun := ⟨2,
 (.seq (.ops [o 4 (.alloc [(.int .i64 0),(.int .i64 0)])])
 (.seq (.seq (.ops [o 5 (.mv (.t 0))])
 (.block 0 (.seq (.ops [o 7 (.bin 0 .eql (.t 5) (.k (.c (.int .u8 71)))),o 6 (.mv (.t 7))])
 (.cond (.t 6) (.seq (.ops [o 8 (.mv (.t 1)),o 9 (.agg [(.int .i64 0),(.int .i64 0)] [(0,1,(ki 1)),(1,1,(.t 8))]),e (.st 2 (.t 4) (.t 9))])
 .ret)
 (.seq (.ops [o 11 (.bin 0 .eql (.t 5) (.k (.c (.int .u8 102)))),o 10 (.mv (.t 11))])
 (.cond (.t 10) (.seq (.ops [o 12 (.call 26 [(ki 1)]),e (.st 2 (.t 4) (.t 12))])
 .ret)
 (.seq (.ops [o 14 (.bin 0 .eql (.t 5) (.k (.c (.int .u8 115)))),o 13 (.mv (.t 14))])
 (.cond (.t 13) (.seq (.ops [o 15 (.call 26 [(ki 4)]),e (.st 2 (.t 4) (.t 15))])
 .ret)
 .skip))))))))
 (.seq (.ops [o 16 (.mv (.t 0)),o 17 (.bin 0 .sub (.t 16) (.k (.c (.int .u8 48)))),o 18 (.convi .i64 (.t 17)),o 19 (.agg [(.int .i64 0),(.int .i64 0)] [(0,1,(ki 1)),(1,1,(.t 18))]),e (.st 2 (.t 4) (.t 19))])
 .ret))),
 [.celln 4 2]⟩
/-- internal/stringslite.Cut -/
def F24 : AFun := ⟨2,
 (.seq (.ops [o 4 (.mv (.k (.c (.str (bs []))))),o 5 (.mv (.k (.c (.str (bs []))))),o 6 (.mv (.k (.c (.bool false))))])
 (.seq (.seq (.ops [o 8 (.mv (.t 0)),o 9 (.mv (.t 1)),o 10 (.call 27 [(.t 8),(.t 9)]),o 7 (.mv (.t 10))])
 (.seq (.ops [o 11 (.mv (.t 7)),o 12 (.bin 0 .geq (.t 11) (ki 0))])
 (.cond (.t 12) (.seq (.dops [.op 0 (o 13 (.mv (.t 0))),.op 1 (o 14 (.mv (.t 7))),.op 3 (o 16 (.mv (.t 0))),.op 4 (o 17 (.mv (.t 7))),.op 5 (o 18 (.mv (.t 1))),.op 6 (o 19 (.len 0 (.t 18))),.op 2 (o 15 (.slcs (.t 13) none (some (.t 14)))),.op 7 (o 20 (.bin 0 .add (.t 17) (.t 19))),.op 8 (o 21 (.slcs (.t 16) (some (.t 20)) none)),.op 9 (o 4 (.mv (.t 15))),.op 10 (o 5 (.mv (.t 21))),.op 11 (o 6 (.mv (.k (.c (.bool true)))))])
 .ret)
 .skip)))
 (.keep [0] (.seq (.ops [o 22 (.mv (.t 0)),o 4 (.mv (.t 22)),o 5 (.mv (.k (.c (.str (bs []))))),o 6 (.mv (.k (.c (.bool false))))])
 .ret)))),
 [.tmp 4,.tmp 5,.tmp 6]⟩
/-- internal/stringslite.IndexByte -/
def F25 : AFun := ⟨2,
 (.seq (.ops [o 4 (.mv (ki 0))])
 (.seq (.ops [o 5 (.mv (.t 0)),o 6 (.mv (.t 1)),o 7 (.call 28 [(.t 5),(.t 6)]),o 4 (.mv (.t 7))])
 .ret)),
 [.tmp 4]⟩
/-- paintbox/kinds.plain -/
def F26 : AFun := ⟨1,
 (.seq (.ops [o 2 (.alloc [(.int .i64 0),(.int .i64 0)])])
 (.seq (.ops [o 3 (.mv (.t 0)),o 4 (.agg [(.int .i64 0),(.int .i64 0)] [(0,1,(.t 3)),(1,1,(ki 1))]),e (.st 2 (.t 2) (.t 4))])
 .ret)),
 [.celln 2 2]⟩
/-- internal/stringslite.Index -/
def F27 : AFun := ⟨2,
 (.seq (.ops [o 4 (.mv (ki 0))])
 (.seq (.ops [o 14 (.mv (.t 1)),o 15 (.len 0 (.t 14)),o 5 (.mv (.t 15))])
 (.seq (.block 0 (.seq (.ops [o 17 (.mv (.t 5)),o 18 (.bin 0 .eql (.t 17) (ki 0)),o 19 (.mv (.t 18)),⟨(some 20),(.mv (.t 1)),some (19,false)⟩,⟨(some 21),(.mv (.t 0)),some (19,false)⟩,⟨(some 22),(.bin 0 .eql (.t 20) (.t 21)),some (19,false)⟩,o 23 (.pick (.t 19) (.k (.c (.bool true))) (.t 22)),o 16 (.mv (.t 23))])
 (.cond (.t 16) (.seq (.ops [o 4 (.mv (ki 0))])
 .ret)
 (.seq (.ops [o 25 (.mv (.t 5)),o 26 (.bin 0 .eql (.t 25) (ki 1)),o 24 (.mv (.t 26))])
 (.keep [0,1,5,24] (.cond (.t 24) (.seq (.ops [o 27 (.mv (.t 0)),o 28 (.mv (.t 1)),o 29 (.ixs (.t 28) (ki 0)),o 30 (.call 25 [(.t 27),(.t 29)]),o 4 (.mv (.t 30))])
 .ret)
 (.seq (.ops [o 32 (.mv (.t 5)),o 33 (.mv (.t 0)),o 34 (.len 0 (.t 33)),o 35 (.bin 0 .geq (.t 32) (.t 34)),o 31 (.mv (.t 35))])
 (.cond (.t 31) (.seq (.ops [o 4 (.mv (ki (-1)))])
 .ret)
 (.seq (.ops [o 37 (.mv (.t 5)),o 38 .bad,o 39 (.bin 0 .leq (.t 37) (.t 38)),o 40 (.mv (.t 39)),⟨(some 41),(.mv (.t 0)),some (40,true)⟩,⟨(some 42),(.len 0 (.t 41)),some (40,true)⟩,⟨(some 43),(.bin 0 .leq (.t 42) (ki 64)),some (40,true)⟩,o 44 (.pick (.t 40) (.t 43) (.k (.c (.bool false)))),o 36 (.mv (.t 44))])
 (.keep [0,1,5,36] (.cond (.t 36) (.seq (.ops [o 45 (.mv (.t 0)),o 46 (.mv (.t 1)),o 47 (.call 29 [(.t 45),(.t 46)]),o 4 (.mv (.t 47))])
 .ret)
 .skip)))))))))))
 (.keep [0,1,5] (.seq (.ops [o 48 (.mv (.t 1)),o 49 (.ixs (.t 48) (ki 0)),o 6 (.mv (.t 49))])
 (.seq (.ops [o 50 (.mv (.t 1)),o 51 (.ixs (.t 50) (ki 1)),o 7 (.mv (.t 51))])
 (.seq (.ops [o 8 (.mv (ki 0))])
 (.seq (.ops [o 52 (.mv (.t 0)),o 53 (.len 0 (.t 52)),o 54 (.mv (.t 5)),o 55 (.bin 0 .sub (.t 53) (.t 54)),o 56 (.bin 0 .add (.t 55) (ki 1)),o 9 (.mv (.t 56))])
 (.keep [0,1,5,6,7,8,9] (.seq (.ops [o 10 (.mv (ki 0))])
 (.seq (.block 1 (.loop [0,1,5,6,7,8,9,10] (.seq (.seq (.ops [o 57 (.mv (.t 8)),o 58 (.mv (.t 9)),o 59 (.bin 0 .lss (.t 57) (.t 58))])
 (.cond (.t 59) .skip
 (.exit 1)))
 (.block 2 (.seq (.seq (.ops [o 60 (.mv (.t 0)),o 61 (.mv (.t 8)),o 62 (.ixs (.t 60) (.t 61)),o 63 (.mv (.t 6)),o 64 (.bin 0 .neq (.t 62) (.t 63))])
 (.keep [0,1,5,6,7,8,9,10,64] (.cond (.t 64) (.seq (.ops [o 65 (.mv (.t 0)),o 66 (.mv (.t 8)),o 67 (.bin 0 .add (.t 66) (ki 1)),o 68 (.mv (.t 9)),o 69 (.slcs (.t 65) (some (.t 67)) (some (.t 68))),o 70 (.mv (.t 6)),o 71 (.call 25 [(.t 69),(.t 70)]),o 11 (.mv (.t 71))])
 (.keep [0,1,5,6,7,8,9,10,11] (.seq (.seq (.ops [o 72 (.mv (.t 11)),o 73 (.bin 0 .lss (.t 72) (ki 0))])
 (.cond (.t 73) (.seq (.ops [o 4 (.mv (ki (-1)))])
 .ret)
 .skip))
 (.ops [o 74 (.mv (.t 8)),o 75 (.mv (.t 11)),o 76 (.bin 0 .add (.t 75) (ki 1)),o 77 (.bin 0 .add (.t 74) (.t 76)),o 8 (.mv (.t 77))]))))
 .skip)))
 (.keep [0,1,5,6,7,8,9,10] (.seq (.seq (.ops [o 78 (.mv (.t 0)),o 79 (.mv (.t 8)),o 80 (.bin 0 .add (.t 79) (ki 1)),o 81 (.ixs (.t 78) (.t 80)),o 82 (.mv (.t 7)),o 83 (.bin 0 .eql (.t 81) (.t 82)),o 84 (.mv (.t 83)),⟨(some 85),(.mv (.t 0)),some (84,true)⟩,⟨(some 86),(.mv (.t 8)),some (84,true)⟩,⟨(some 87),(.mv (.t 8)),some (84,true)⟩,⟨(some 88),(.mv (.t 5)),some (84,true)⟩,⟨(some 89),(.bin 0 .add (.t 87) (.t 88)),some (84,true)⟩,⟨(some 90),(.slcs (.t 85) (some (.t 86)) (some (.t 89))),some (84,true)⟩,⟨(some 91),(.mv (.t 1)),some (84,true)⟩,⟨(some 92),(.bin 0 .eql (.t 90) (.t 91)),some (84,true)⟩,o 93 (.pick (.t 84) (.t 92) (.k (.c (.bool false))))])
 (.keep [0,1,5,6,7,8,9,10,93] (.cond (.t 93) (.seq (.ops [o 94 (.mv (.t 8)),o 4 (.mv (.t 94))])
 .ret)
 .skip)))
 (.seq (.ops [o 95 (.mv (.t 8)),o 96 (.bin 0 .add (.t 95) (ki 1)),o 8 (.mv (.t 96))])
 (.seq (.ops [o 97 (.mv (.t 10)),o 98 (.bin 0 .add (.t 97) (ki 1)),o 10 (.mv (.t 98))])
 (.keep [0,1,5,6,7,8,9,10] (.seq (.ops [o 99 (.mv (.t 5)),o 100 .bad,o 101 (.bin 0 .leq (.t 99) (.t 100)),o 102 (.mv (.t 101)),⟨(some 103),(.mv (.t 10)),some (102,true)⟩,⟨(some 104),(.mv (.t 8)),some (102,true)⟩,⟨(some 105),(.call 30 [(.t 104)]),some (102,true)⟩,⟨(some 106),(.bin 0 .gtr (.t 103) (.t 105)),some (102,true)⟩,o 107 (.pick (.t 102) (.t 106) (.k (.c (.bool false))))])
 (.keep [0,1,5,6,7,8,9,10,107] (.cond (.t 107) (.seq (.ops [o 108 (.mv (.t 0)),o 109 (.mv (.t 8)),o 110 (.slcs (.t 108) (some (.t 109)) none),o 111 (.mv (.t 1)),o 112 (.call 29 [(.t 110),(.t 111)]),o 12 (.mv (.t 112))])
 (.keep [8,12] (.seq (.seq (.ops [o 113 (.mv (.t 12)),o 114 (.bin 0 .geq (.t 113) (ki 0))])
 (.cond (.t 114) (.seq (.ops [o 115 (.mv (.t 12)),o 116 (.mv (.t 8)),o 117 (.bin 0 .add (.t 115) (.t 116)),o 4 (.mv (.t 117))])
 .ret)
 .skip))
 (.seq (.ops [o 4 (.mv (ki (-1)))])
 .ret))))
 (.seq (.ops [o 118 (.mv (.t 5)),o 119 .bad,o 120 (.bin 0 .gtr (.t 118) (.t 119)),o 121 (.mv (.t 120)),⟨(some 122),(.mv (.t 10)),some (121,true)⟩,⟨(some 123),(.mv (.t 8)),some (121,true)⟩,⟨(some 124),(.bin 0 .shr (.t 123) (.k (.c (.int .u64 4)))),some (121,true)⟩,⟨(some 125),(.bin 0 .add (ki 4) (.t 124)),some (121,true)⟩,⟨(some 126),(.bin 0 .geq (.t 122) (.t 125)),some (121,true)⟩,o 127 (.pick (.t 121) (.t 126) (.k (.c (.bool false)))),o 128 (.mv (.t 127)),⟨(some 129),(.mv (.t 8)),some (128,true)⟩,⟨(some 130),(.mv (.t 9)),some (128,true)⟩,⟨(some 131),(.bin 0 .lss (.t 129) (.t 130)),some (128,true)⟩,o 132 (.pick (.t 128) (.t 131) (.k (.c (.bool false))))])
 (.keep [0,1,5,6,7,8,9,10,132] (.cond (.t 132) (.seq (.ops [o 133 (.mv (.t 0)),o 134 (.mv (.t 8)),o 135 (.slcs (.t 133) (some (.t 134)) none),o 136 (.mv (.t 1)),o 137 (.call 31 [(.t 135),(.t 136)]),o 13 (.mv (.t 137))])
 (.keep [8,13] (.seq (.seq (.ops [o 138 (.mv (.t 13)),o 139 (.bin 0 .lss (.t 138) (ki 0))])
 (.cond (.t 139) (.seq (.ops [o 4 (.mv (ki (-1)))])
 .ret)
 .skip))
 (.seq (.ops [o 140 (.mv (.t 8)),o 141 (.mv (.t 13)),o 142 (.bin 0 .add (.t 140) (.t 141)),o 4 (.mv (.t 142))])
 .ret))))
 .skip))))))))))))))))
 (.seq (.ops [o 4 (.mv (ki (-1)))])
 .ret)))))))))))),
 [.tmp 4]⟩
/-- internal/bytealg.Cutover -/
def F30 : AFun := ⟨1,
 (.seq (.ops [o 2 (.mv (ki 0))])
 (.seq (.ops [o 3 (.mv (.t 0)),o 4 (.bin 0 .add (.t 3) (ki 16)),o 5 (.bin 0 .quo (.t 4) (ki 8)),o 2 (.mv (.t 5))])
 .ret)),
 [.tmp 2]⟩
/-- internal/bytealg.IndexRabinKarp[string] -/
def F31 : AFun := ⟨2,
 (.seq (.ops [o 4 (.mv (ki 0))])
 (.seq (.ops [o 12 (.mv (.t 1)),o 13 (.call 32 [(.t 12)]),o 11 (.mv (.t 13)),o 14 (.ext 0 (.t 11)),o 15 (.ext 1 (.t 11)),o 5 (.mv (.t 14)),o 6 (.mv (.t 15))])
 (.seq (.ops [o 16 (.mv (.t 1)),o 17 (.len 0 (.t 16)),o 7 (.mv (.t 17))])
 (.seq (.ops [o 8 (.mv (.k (.c (.int .u32 0))))])
 (.seq (.seq (.ops [o 9 (.mv (ki 0))])
 (.block 0 (.loop [0,1,5,6,7,8,9] (.seq (.seq (.ops [o 18 (.mv (.t 9)),o 19 (.mv (.t 7)),o 20 (.bin 0 .lss (.t 18) (.t 19))])
 (.cond (.t 20) .skip
 (.exit 0)))
 (.seq (.block 1 (.ops [o 23 (.mv (.t 8)),o 24 (.bin 0 .mul (.t 23) (.k (.c (.int .u32 16777619)))),o 25 (.mv (.t 0)),o 26 (.mv (.t 9)),o 27 (.ixs (.t 25) (.t 26)),o 28 (.convi .u32 (.t 27)),o 29 (.bin 0 .add (.t 24) (.t 28)),o 8 (.mv (.t 29))]))
 (.keep [0,1,5,6,7,8,9] (.ops [o 21 (.mv (.t 9)),o 22 (.bin 0 .add (.t 21) (ki 1)),o 9 (.mv (.t 22))])))))))
 (.seq (.seq (.ops [o 30 (.mv (.t 8)),o 31 (.mv (.t 5)),o 32 (.bin 0 .eql (.t 30) (.t 31)),o 33 (.mv (.t 32)),⟨(some 34),(.mv (.t 0)),some (33,true)⟩,⟨(some 35),(.mv (.t 7)),some (33,true)⟩,⟨(some 36),(.slcs (.t 34) none (some (.t 35))),some (33,true)⟩,⟨(some 37),(.mv (.t 1)),some (33,true)⟩,⟨(some 38),(.bin 0 .eql (.t 36) (.t 37)),some (33,true)⟩,o 39 (.pick (.t 33) (.t 38) (.k (.c (.bool false))))])
 (.keep [0,1,5,6,7,8,39] (.cond (.t 39) (.seq (.ops [o 4 (.mv (ki 0))])
 .ret)
 .skip)))
 (.seq (.seq (.ops [o 40 (.mv (.t 7)),o 10 (.mv (.t 40))])
 (.block 2 (.loop [0,1,5,6,7,8,10] (.seq (.seq (.ops [o 41 (.mv (.t 10)),o 42 (.mv (.t 0)),o 43 (.len 0 (.t 42)),o 44 (.bin 0 .lss (.t 41) (.t 43))])
 (.cond (.t 44) .skip
 (.exit 2)))
 (.block 3 (.seq (.ops [o 45 (.mv (.t 8)),o 46 (.bin 0 .mul (.t 45) (.k (.c (.int .u32 16777619)))),o 8 (.mv (.t 46))])
 (.seq (.ops [o 47 (.mv (.t 8)),o 48 (.mv (.t 0)),o 49 (.mv (.t 10)),o 50 (.ixs (.t 48) (.t 49)),o 51 (.convi .u32 (.t 50)),o 52 (.bin 0 .add (.t 47) (.t 51)),o 8 (.mv (.t 52))])
 (.keep [0,1,5,6,7,8,10] (.seq (.ops [o 53 (.mv (.t 8)),o 54 (.mv (.t 6)),o 55 (.mv (.t 0)),o 56 (.mv (.t 10)),o 57 (.mv (.t 7)),o 58 (.bin 0 .sub (.t 56) (.t 57)),o 59 (.ixs (.t 55) (.t 58)),o 60 (.convi .u32 (.t 59)),o 61 (.bin 0 .mul (.t 54) (.t 60)),o 62 (.bin 0 .sub (.t 53) (.t 61)),o 8 (.mv (.t 62))])
 (.keep [0,1,5,6,7,8,10] (.seq (.ops [o 63 (.mv (.t 10)),o 64 (.bin 0 .add (.t 63) (ki 1)),o 10 (.mv (.t 64))])
 (.seq (.ops [o 65 (.mv (.t 8)),o 66 (.mv (.t 5)),o 67 (.bin 0 .eql (.t 65) (.t 66)),o 68 (.mv (.t 67)),⟨(some 69),(.mv (.t 0)),some (68,true)⟩,⟨(some 70),(.mv (.t 10)),some (68,true)⟩,⟨(some 71),(.mv (.t 7)),some (68,true)⟩,⟨(some 72),(.bin 0 .sub (.t 70) (.t 71)),some (68,true)⟩,⟨(some 73),(.mv (.t 10)),some (68,true)⟩,⟨(some 74),(.slcs (.t 69) (some (.t 72)) (some (.t 73))),some (68,true)⟩,⟨(some 75),(.mv (.t 1)),some (68,true)⟩,⟨(some 76),(.bin 0 .eql (.t 74) (.t 75)),some (68,true)⟩,o 77 (.pick (.t 68) (.t 76) (.k (.c (.bool false))))])
 (.keep [0,1,5,6,7,8,10,77] (.cond (.t 77) (.seq (.ops [o 78 (.mv (.t 10)),o 79 (.mv (.t 7)),o 80 (.bin 0 .sub (.t 78) (.t 79)),o 4 (.mv (.t 80))])
 .ret)
 .skip))))))))))))))
 (.seq (.ops [o 4 (.mv (ki (-1)))])
 .ret)))))))),
 [.tmp 4]⟩
/-- internal/bytealg.hashStr[string] -/
def F32 : AFun := ⟨1,
 (.seq (.ops [o 2 (.mv (.k (.c (.int .u32 0)))),o 3 (.mv (.k (.c (.int .u32 0))))])
 (.seq (.ops [o 4 (.mv (.k (.c (.int .u32 0))))])
 (.seq (.seq (.ops [o 5 (.mv (ki 0))])
 (.block 0 (.loop [0,4,5] (.seq (.seq (.ops [o 9 (.mv (.t 5)),o 10 (.mv (.t 0)),o 11 (.len 0 (.t 10)),o 12 (.bin 0 .lss (.t 9) (.t 11))])
 (.cond (.t 12) .skip
 (.exit 0)))
 (.seq (.block 1 (.ops [o 15 (.mv (.t 4)),o 16 (.bin 0 .mul (.t 15) (.k (.c (.int .u32 16777619)))),o 17 (.mv (.t 0)),o 18 (.mv (.t 5)),o 19 (.ixs (.t 17) (.t 18)),o 20 (.convi .u32 (.t 19)),o 21 (.bin 0 .add (.t 16) (.t 20)),o 4 (.mv (.t 21))]))
 (.keep [0,4,5] (.ops [o 13 (.mv (.t 5)),o 14 (.bin 0 .add (.t 13) (ki 1)),o 5 (.mv (.t 14))])))))))
 (.seq (.ops [o 6 (.mv (.k (.c (.int .u32 1)))),o 7 (.mv (.k (.c (.int .u32 16777619))))])
 (.seq (.seq (.ops [o 22 (.mv (.t 0)),o 23 (.len 0 (.t 22)),o 8 (.mv (.t 23))])
 (.block 2 (.loop [4,6,7,8] (.seq (.seq (.ops [o 24 (.mv (.t 8)),o 25 (.bin 0 .gtr (.t 24) (ki 0))])
 (.cond (.t 25) .skip
 (.exit 2)))
 (.seq (.block 3 (.seq (.seq (.ops [o 28 (.mv (.t 8)),o 29 (.bin 0 .and (.t 28) (ki 1)),o 30 (.bin 0 .neq (.t 29) (ki 0))])
 (.cond (.t 30) (.ops [o 31 (.mv (.t 6)),o 32 (.mv (.t 7)),o 33 (.bin 0 .mul (.t 31) (.t 32)),o 6 (.mv (.t 33))])
 .skip))
 (.ops [o 34 (.mv (.t 7)),o 35 (.mv (.t 7)),o 36 (.bin 0 .mul (.t 34) (.t 35)),o 7 (.mv (.t 36))])))
 (.keep [4,6,7,8] (.ops [o 26 (.mv (.t 8)),o 27 (.bin 0 .shr (.t 26) (.k (.c (.int .u64 1)))),o 8 (.mv (.t 27))])))))))
 (.seq (.ops [o 37 (.mv (.t 4)),o 38 (.mv (.t 6)),o 2 (.mv (.t 37)),o 3 (.mv (.t 38))])
 .ret)))))),
 [.tmp 2,.tmp 3]⟩
end Go.Proofs.Ytmlglmfjbmiflaa.Am
